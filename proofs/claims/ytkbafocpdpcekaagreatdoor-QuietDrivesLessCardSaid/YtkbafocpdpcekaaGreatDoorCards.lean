/-
  DERIVED. GIVEN WITH THE SEED: THE CARDS: each row of YtkbafocpdpcekaaGreatDoorRows.lean that lists a variable, with what it lists TIED to the program's text (the seventh form; the later family's looks); each row that meets fmt, with fmt's text TOLD by the authors' own Lean function (tested against real Go, not proved from fmt's source: count such statements apart). THE CARD IS WHAT COUNTS. Prove the row's statement (the work); the ties are given (YtkbafocpdpcekaaGreatDoorTie.lean); close each card by the builder's one call (the guide's Derived/Test/ToyasCard.lean, 'card_holds'). Laid BY PROGRAM, IN A SANDBOX (cutbox-door.mjs). By AI agents, Wed Nov 11 2026. No macro, syntax, notation, axiom, sorry.
-/
import Derived.Test.YtkbafocpdpcekaaGreatDoorRows
import GoSem.ClaimSeven
namespace Go.Proofs.YtkbafocpdpcekaaGreatDoor
namespace Rows

/-- THE TIED CARD OF 'scankeep2.QuietDrivesLess'. -/
def quietDrivesLessCard : Claim7 := { stood := { row := quietDrivesLessRow, standIns := [], harness := (true, "ff22fffd76defabb7e992d3f62d772cc39933a39110be225e9d65348c4744d24"), looks := false }, kinds := [], alts := [], laidByText := true, laidKinds := [.data, .pinned], laidTests := true, laidLooks := .later }
def QuietDrivesLessCardSaid : Prop := Claim7.holds Tryz.pinned (.plain (OpenSpec.ofChange quietDrivesLessSpec)) quietDrivesLessCard

/-- THE SECOND FORM's CARD OF 'scankeep2.QuietDrivesLess'. -/
def quietDrivesLessUptoCard : Claim7 := { stood := { row := quietDrivesLessUptoRow, standIns := [], harness := (true, "ff22fffd76defabb7e992d3f62d772cc39933a39110be225e9d65348c4744d24"), looks := false }, kinds := [], alts := [], laidByText := true, laidKinds := [.data, .pinned], laidTests := true, laidLooks := .later }
def QuietDrivesLessUptoCardSaid : Prop := Claim7.holds Tryz.pinned (.plain (OpenSpec.upto quietDrivesLessSpec)) quietDrivesLessUptoCard
end Rows
end Go.Proofs.YtkbafocpdpcekaaGreatDoor
