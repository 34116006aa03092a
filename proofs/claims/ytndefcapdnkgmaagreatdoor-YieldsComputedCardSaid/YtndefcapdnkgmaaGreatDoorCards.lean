/-
  DERIVED. GIVEN WITH THE SEED: THE CARDS: each row of YtndefcapdnkgmaaGreatDoorRows.lean that lists a variable, with what it lists TIED to the program's text (the seventh form; the later family's looks); each row that meets fmt, with fmt's text TOLD by the authors' own Lean function (tested against real Go, not proved from fmt's source: count such statements apart). THE CARD IS WHAT COUNTS. Prove the row's statement (the work); the ties are given (YtndefcapdnkgmaaGreatDoorTie.lean); close each card by the builder's one call (the guide's Derived/Test/ToyasCard.lean, 'card_holds'). Laid BY PROGRAM, IN A SANDBOX (cutbox-door.mjs). By AI agents, Wed Nov 11 2026. No macro, syntax, notation, axiom, sorry.
-/
import Derived.Test.YtndefcapdnkgmaaGreatDoorRows
import GoSem.ClaimSeven
namespace Go.Proofs.YtndefcapdnkgmaaGreatDoor
namespace Rows

/-- THE TIED CARD OF 'scanlaw2.YieldsComputed'. -/
def yieldsComputedCard : Claim7 := { stood := { row := yieldsComputedRow, standIns := [], harness := (true, "c68ce6117abef03229f3e25a8211966b1982386b01e9ffdc89fd6917f4db965e"), looks := false }, kinds := [], alts := [], laidByText := true, laidKinds := [.data, .data, .data], laidTests := true, laidLooks := .later }
def YieldsComputedCardSaid : Prop := Claim7.holds Tryz.pinned (.plain (OpenSpec.ofChange yieldsComputedSpec)) yieldsComputedCard

/-- THE SECOND FORM's CARD OF 'scanlaw2.YieldsComputed'. -/
def yieldsComputedUptoCard : Claim7 := { stood := { row := yieldsComputedUptoRow, standIns := [], harness := (true, "c68ce6117abef03229f3e25a8211966b1982386b01e9ffdc89fd6917f4db965e"), looks := false }, kinds := [], alts := [], laidByText := true, laidKinds := [.data, .data, .data], laidTests := true, laidLooks := .later }
def YieldsComputedUptoCardSaid : Prop := Claim7.holds Tryz.pinned (.plain (OpenSpec.upto yieldsComputedSpec)) yieldsComputedUptoCard
end Rows
end Go.Proofs.YtndefcapdnkgmaaGreatDoor
