/-
  DERIVED. GIVEN WITH THE SEED: THE CARDS: each row of YtngfahepmdicnaaGreatDoorRows.lean that lists a variable, with what it lists TIED to the program's text (the seventh form; the later family's looks); each row that meets fmt, with fmt's text TOLD by the authors' own Lean function (tested against real Go, not proved from fmt's source: count such statements apart). THE CARD IS WHAT COUNTS. Prove the row's statement (the work); the ties are given (YtngfahepmdicnaaGreatDoorTie.lean); close each card by the builder's one call (the guide's Derived/Test/ToyasCard.lean, 'card_holds'). Laid BY PROGRAM, IN A SANDBOX (cutbox-door.mjs). By AI agents, Wed Nov 11 2026. No macro, syntax, notation, axiom, sorry.
-/
import Derived.Test.YtngfahepmdicnaaGreatDoorRows
import GoSem.ClaimSeven
namespace Go.Proofs.YtngfahepmdicnaaGreatDoor
namespace Rows

/-- THE TIED CARD OF 'scankeep2.EntriesAgree'. -/
def entriesAgreeCard : Claim7 := { stood := { row := entriesAgreeRow, standIns := [], harness := (true, "d277b527a083a03c04e3de6c465c97e6db84fa26f7e2b8cfb71218033a91ddb5"), looks := true }, kinds := [], alts := [], laidByText := true, laidKinds := [.data, .data, .data, .data, .sentinel, .sentinel, .pinned], laidTests := true, laidLooks := .later }
def EntriesAgreeCardSaid : Prop := Claim7.holds Tryz.pinned (.plain (OpenSpec.ofChange entriesAgreeSpec)) entriesAgreeCard

/-- THE SECOND FORM's CARD OF 'scankeep2.EntriesAgree'. -/
def entriesAgreeUptoCard : Claim7 := { stood := { row := entriesAgreeUptoRow, standIns := [], harness := (true, "d277b527a083a03c04e3de6c465c97e6db84fa26f7e2b8cfb71218033a91ddb5"), looks := true }, kinds := [], alts := [], laidByText := true, laidKinds := [.data, .data, .data, .data, .sentinel, .sentinel, .pinned], laidTests := true, laidLooks := .later }
def EntriesAgreeUptoCardSaid : Prop := Claim7.holds Tryz.pinned (.plain (OpenSpec.upto entriesAgreeSpec)) entriesAgreeUptoCard
end Rows
end Go.Proofs.YtngfahepmdicnaaGreatDoor
