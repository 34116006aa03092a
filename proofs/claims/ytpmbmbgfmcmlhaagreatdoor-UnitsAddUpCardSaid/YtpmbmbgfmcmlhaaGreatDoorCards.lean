/-
  DERIVED. GIVEN WITH THE SEED: THE CARDS: each row of YtpmbmbgfmcmlhaaGreatDoorRows.lean that lists a variable, with what it lists TIED to the program's text (the seventh form; the later family's looks); each row that meets fmt, with fmt's text TOLD by the authors' own Lean function (tested against real Go, not proved from fmt's source: count such statements apart). THE CARD IS WHAT COUNTS. Prove the row's statement (the work); the ties are given (YtpmbmbgfmcmlhaaGreatDoorTie.lean); close each card by the builder's one call (the guide's Derived/Test/ToyasCard.lean, 'card_holds'). Laid BY PROGRAM, IN A SANDBOX (cutbox-door.mjs). By AI agents, Wed Nov 11 2026. No macro, syntax, notation, axiom, sorry.
-/
import Derived.Test.YtpmbmbgfmcmlhaaGreatDoorRows
import GoSem.ClaimSeven
namespace Go.Proofs.YtpmbmbgfmcmlhaaGreatDoor
namespace Rows

/-- THE TIED CARD OF 'scankeep2.UnitsAddUp'. -/
def unitsAddUpCard : Claim7 := { stood := { row := unitsAddUpRow, standIns := [], harness := (true, "15b077cd6807dfa68d36cc6c01470ba1c9db0036b2ad11373545ce8acbfca71b"), looks := true }, kinds := [], alts := [], laidByText := true, laidKinds := [.data, .data, .data, .data, .sentinel, .sentinel, .pinned], laidTests := true, laidLooks := .later }
def UnitsAddUpCardSaid : Prop := Claim7.holds Tryz.pinned (.plain (OpenSpec.ofChange unitsAddUpSpec)) unitsAddUpCard

/-- THE SECOND FORM's CARD OF 'scankeep2.UnitsAddUp'. -/
def unitsAddUpUptoCard : Claim7 := { stood := { row := unitsAddUpUptoRow, standIns := [], harness := (true, "15b077cd6807dfa68d36cc6c01470ba1c9db0036b2ad11373545ce8acbfca71b"), looks := true }, kinds := [], alts := [], laidByText := true, laidKinds := [.data, .data, .data, .data, .sentinel, .sentinel, .pinned], laidTests := true, laidLooks := .later }
def UnitsAddUpUptoCardSaid : Prop := Claim7.holds Tryz.pinned (.plain (OpenSpec.upto unitsAddUpSpec)) unitsAddUpUptoCard
end Rows
end Go.Proofs.YtpmbmbgfmcmlhaaGreatDoor
