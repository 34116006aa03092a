/-
  DERIVED. GIVEN WITH THE SEED: THE CARDS: each row of YtbldcfbggmjbpaaGreatDoorRows.lean that lists a variable, with what it lists TIED to the program's text (the seventh form; the later family's looks); each row that meets fmt, with fmt's text TOLD by the authors' own Lean function (tested against real Go, not proved from fmt's source: count such statements apart). THE CARD IS WHAT COUNTS. Prove the row's statement (the work); the ties are given (YtbldcfbggmjbpaaGreatDoorTie.lean); close each card by the builder's one call (the guide's Derived/Test/ToyasCard.lean, 'card_holds'). Laid BY PROGRAM, IN A SANDBOX (cutbox-door.mjs). By AI agents, Wed Nov 11 2026. No macro, syntax, notation, axiom, sorry.
-/
import Derived.Test.YtbldcfbggmjbpaaGreatDoorRows
import GoSem.ClaimSeven
namespace Go.Proofs.YtbldcfbggmjbpaaGreatDoor
namespace Rows

/-- THE TIED CARD OF 'scanlaw2.LevelsComputed'. -/
def levelsComputedCard : Claim7 := { stood := { row := levelsComputedRow, standIns := [], harness := (true, "9c607d580f3a9042562cfee17075f406304ea5731202adcd0c569efe7889e505"), looks := false }, kinds := [], alts := [], laidByText := true, laidKinds := [.data, .pinned], laidTests := true, laidLooks := .later }
def LevelsComputedCardSaid : Prop := Claim7.holds Tryz.pinned (.plain (OpenSpec.ofChange levelsComputedSpec)) levelsComputedCard

/-- THE SECOND FORM's CARD OF 'scanlaw2.LevelsComputed'. -/
def levelsComputedUptoCard : Claim7 := { stood := { row := levelsComputedUptoRow, standIns := [], harness := (true, "9c607d580f3a9042562cfee17075f406304ea5731202adcd0c569efe7889e505"), looks := false }, kinds := [], alts := [], laidByText := true, laidKinds := [.data, .pinned], laidTests := true, laidLooks := .later }
def LevelsComputedUptoCardSaid : Prop := Claim7.holds Tryz.pinned (.plain (OpenSpec.upto levelsComputedSpec)) levelsComputedUptoCard
end Rows
end Go.Proofs.YtbldcfbggmjbpaaGreatDoor
