/-
  DERIVED. GIVEN WITH THE SEED: THE CARDS: each row of YtipnhkhacbdlkaaGreatDoorRows.lean that lists a variable, with what it lists TIED to the program's text (the seventh form; the later family's looks); each row that meets fmt, with fmt's text TOLD by the authors' own Lean function (tested against real Go, not proved from fmt's source: count such statements apart). THE CARD IS WHAT COUNTS. Prove the row's statement (the work); the ties are given (YtipnhkhacbdlkaaGreatDoorTie.lean); close each card by the builder's one call (the guide's Derived/Test/ToyasCard.lean, 'card_holds'). Laid BY PROGRAM, IN A SANDBOX (cutbox-door.mjs). By AI agents, Wed Nov 11 2026. No macro, syntax, notation, axiom, sorry.
-/
import Derived.Test.YtipnhkhacbdlkaaGreatDoorRows
import GoSem.ClaimSeven
namespace Go.Proofs.YtipnhkhacbdlkaaGreatDoor
namespace Rows

/-- THE TIED CARD OF 'scankeep2.BusyIsBounded'. -/
def busyIsBoundedCard : Claim7 := { stood := { row := busyIsBoundedRow, standIns := [], harness := (true, "fa70e3daac1b682298b9a845a83722aea6464b345a2989155852c92fd4fbedde"), looks := false }, kinds := [], alts := [], laidByText := true, laidKinds := [.data, .pinned], laidTests := true, laidLooks := .later }
def BusyIsBoundedCardSaid : Prop := Claim7.holds Tryz.pinned (.plain (OpenSpec.ofChange busyIsBoundedSpec)) busyIsBoundedCard

/-- THE SECOND FORM's CARD OF 'scankeep2.BusyIsBounded'. -/
def busyIsBoundedUptoCard : Claim7 := { stood := { row := busyIsBoundedUptoRow, standIns := [], harness := (true, "fa70e3daac1b682298b9a845a83722aea6464b345a2989155852c92fd4fbedde"), looks := false }, kinds := [], alts := [], laidByText := true, laidKinds := [.data, .pinned], laidTests := true, laidLooks := .later }
def BusyIsBoundedUptoCardSaid : Prop := Claim7.holds Tryz.pinned (.plain (OpenSpec.upto busyIsBoundedSpec)) busyIsBoundedUptoCard
end Rows
end Go.Proofs.YtipnhkhacbdlkaaGreatDoor
