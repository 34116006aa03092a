/-
  DERIVED. GIVEN WITH THE SEED: THE CARDS: each row of YtklljiofechahaaGreatDoorRows.lean that lists a variable, with what it lists TIED to the program's text (the seventh form; the later family's looks); each row that meets fmt, with fmt's text TOLD by the authors' own Lean function (tested against real Go, not proved from fmt's source: count such statements apart). THE CARD IS WHAT COUNTS. Prove the row's statement (the work); the ties are given (YtklljiofechahaaGreatDoorTie.lean); close each card by the builder's one call (the guide's Derived/Test/ToyasCard.lean, 'card_holds'). Laid BY PROGRAM, IN A SANDBOX (cutbox-door.mjs). By AI agents, Wed Nov 11 2026. No macro, syntax, notation, axiom, sorry.
-/
import Derived.Test.YtklljiofechahaaGreatDoorRows
import GoSem.ClaimSeven
namespace Go.Proofs.YtklljiofechahaaGreatDoor
namespace Rows

/-- THE TIED CARD OF 'scanlaw2.RecordTexts'. -/
def recordTextsCard : Claim7 := { stood := { row := recordTextsRow, standIns := [], harness := (true, "a29c9b36726a8570161b97bb9f3f0da3d4d08bebb0297b9e2477692a01d26730"), looks := true }, kinds := [], alts := [], laidByText := true, laidKinds := [.data, .data, .data, .data, .sentinel, .sentinel, .pinned], laidTests := true, laidLooks := .later }
def RecordTextsCardSaid : Prop := Claim7.holds Tryz.pinned (.plain (OpenSpec.ofChange recordTextsSpec)) recordTextsCard

/-- THE TIED CARD OF 'scankeep2.UndoneIsNothing'. -/
def undoneIsNothingCard : Claim7 := { stood := { row := undoneIsNothingRow, standIns := [], harness := (true, "a29c9b36726a8570161b97bb9f3f0da3d4d08bebb0297b9e2477692a01d26730"), looks := true }, kinds := [], alts := [], laidByText := true, laidKinds := [.data, .pinned], laidTests := true, laidLooks := .later }
def UndoneIsNothingCardSaid : Prop := Claim7.holds Tryz.pinned (.plain (OpenSpec.ofChange undoneIsNothingSpec)) undoneIsNothingCard

/-- THE TIED CARD OF 'scanlaw2.EntryTexts'. -/
def entryTextsCard : Claim7 := { stood := { row := entryTextsRow, standIns := [], harness := (true, "a29c9b36726a8570161b97bb9f3f0da3d4d08bebb0297b9e2477692a01d26730"), looks := true }, kinds := [], alts := [], laidByText := true, laidKinds := [.data, .data, .data, .data, .sentinel, .sentinel, .pinned], laidTests := true, laidLooks := .later }
def EntryTextsCardSaid : Prop := Claim7.holds Tryz.pinned (.plain (OpenSpec.ofChange entryTextsSpec)) entryTextsCard

/-- THE TIED CARD OF 'scanlaw2.BoardsFollowed'. -/
def boardsFollowedCard : Claim7 := { stood := { row := boardsFollowedRow, standIns := [], harness := (true, "a29c9b36726a8570161b97bb9f3f0da3d4d08bebb0297b9e2477692a01d26730"), looks := true }, kinds := [], alts := [], laidByText := true, laidKinds := [.data, .data, .data], laidTests := true, laidLooks := .later }
def BoardsFollowedCardSaid : Prop := Claim7.holds Tryz.pinned (.plain (OpenSpec.ofChange boardsFollowedSpec)) boardsFollowedCard

/-- THE SECOND FORM's CARD OF 'scanlaw2.RecordTexts'. -/
def recordTextsUptoCard : Claim7 := { stood := { row := recordTextsUptoRow, standIns := [], harness := (true, "a29c9b36726a8570161b97bb9f3f0da3d4d08bebb0297b9e2477692a01d26730"), looks := true }, kinds := [], alts := [], laidByText := true, laidKinds := [.data, .data, .data, .data, .sentinel, .sentinel, .pinned], laidTests := true, laidLooks := .later }
def RecordTextsUptoCardSaid : Prop := Claim7.holds Tryz.pinned (.plain (OpenSpec.upto recordTextsSpec)) recordTextsUptoCard

/-- THE SECOND FORM's CARD OF 'scankeep2.UndoneIsNothing'. -/
def undoneIsNothingUptoCard : Claim7 := { stood := { row := undoneIsNothingUptoRow, standIns := [], harness := (true, "a29c9b36726a8570161b97bb9f3f0da3d4d08bebb0297b9e2477692a01d26730"), looks := true }, kinds := [], alts := [], laidByText := true, laidKinds := [.data, .pinned], laidTests := true, laidLooks := .later }
def UndoneIsNothingUptoCardSaid : Prop := Claim7.holds Tryz.pinned (.plain (OpenSpec.upto undoneIsNothingSpec)) undoneIsNothingUptoCard

/-- THE SECOND FORM's CARD OF 'scanlaw2.EntryTexts'. -/
def entryTextsUptoCard : Claim7 := { stood := { row := entryTextsUptoRow, standIns := [], harness := (true, "a29c9b36726a8570161b97bb9f3f0da3d4d08bebb0297b9e2477692a01d26730"), looks := true }, kinds := [], alts := [], laidByText := true, laidKinds := [.data, .data, .data, .data, .sentinel, .sentinel, .pinned], laidTests := true, laidLooks := .later }
def EntryTextsUptoCardSaid : Prop := Claim7.holds Tryz.pinned (.plain (OpenSpec.upto entryTextsSpec)) entryTextsUptoCard

/-- THE SECOND FORM's CARD OF 'scanlaw2.BoardsFollowed'. -/
def boardsFollowedUptoCard : Claim7 := { stood := { row := boardsFollowedUptoRow, standIns := [], harness := (true, "a29c9b36726a8570161b97bb9f3f0da3d4d08bebb0297b9e2477692a01d26730"), looks := true }, kinds := [], alts := [], laidByText := true, laidKinds := [.data, .data, .data], laidTests := true, laidLooks := .later }
def BoardsFollowedUptoCardSaid : Prop := Claim7.holds Tryz.pinned (.plain (OpenSpec.upto boardsFollowedSpec)) boardsFollowedUptoCard
end Rows
end Go.Proofs.YtklljiofechahaaGreatDoor
