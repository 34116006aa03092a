/-
  DERIVED. GIVEN WITH THE SEED: THE CARDS: each row of YtcfpflfpinmmmaaGreatDoorRows.lean that lists a variable, with what it lists TIED to the program's text (the seventh form; the later family's looks); each row that meets fmt, with fmt's text TOLD by the authors' own Lean function (tested against real Go, not proved from fmt's source: count such statements apart). THE CARD IS WHAT COUNTS. Prove the row's statement (the work); the ties are given (YtcfpflfpinmmmaaGreatDoorTie.lean); close each card by the builder's one call (the guide's Derived/Test/ToyasCard.lean, 'card_holds'). Laid BY PROGRAM, IN A SANDBOX (cutbox-door.mjs). By AI agents, Wed Nov 11 2026. No macro, syntax, notation, axiom, sorry.
-/
import Derived.Test.YtcfpflfpinmmmaaGreatDoorRows
import GoSem.ClaimSeven
namespace Go.Proofs.YtcfpflfpinmmmaaGreatDoor
namespace Rows

/-- THE TIED CARD OF 'scantop.TopLotIsStation'. -/
def topLotIsStationCard : Claim7 := { stood := { row := topLotIsStationRow, standIns := [], harness := (true, "2b370238a244b9dd0ed81977c4ea0e83543efab71c2b7443d4c890c39956b4d7"), looks := false }, kinds := [], alts := [], laidByText := true, laidKinds := [.data, .pinned], laidTests := true, laidLooks := .later }
def TopLotIsStationCardSaid : Prop := Claim7.holds Tryz.pinned (.plain (OpenSpec.ofChange topLotIsStationSpec)) topLotIsStationCard

/-- THE SECOND FORM's CARD OF 'scantop.TopLotIsStation'. -/
def topLotIsStationUptoCard : Claim7 := { stood := { row := topLotIsStationUptoRow, standIns := [], harness := (true, "2b370238a244b9dd0ed81977c4ea0e83543efab71c2b7443d4c890c39956b4d7"), looks := false }, kinds := [], alts := [], laidByText := true, laidKinds := [.data, .pinned], laidTests := true, laidLooks := .later }
def TopLotIsStationUptoCardSaid : Prop := Claim7.holds Tryz.pinned (.plain (OpenSpec.upto topLotIsStationSpec)) topLotIsStationUptoCard
end Rows
end Go.Proofs.YtcfpflfpinmmmaaGreatDoor
