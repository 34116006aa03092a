/-
  DERIVED. GIVEN WITH THE SEED: THE CARDS: each row of YtddfpebjibeclaaGreatDoorRows.lean that lists a variable, with what it lists TIED to the program's text (the seventh form; the later family's looks); each row that meets fmt, with fmt's text TOLD by the authors' own Lean function (tested against real Go, not proved from fmt's source: count such statements apart). THE CARD IS WHAT COUNTS. Prove the row's statement (the work); the ties are given (YtddfpebjibeclaaGreatDoorTie.lean); close each card by the builder's one call (the guide's Derived/Test/ToyasCard.lean, 'card_holds'). Laid BY PROGRAM, IN A SANDBOX (cutbox-door.mjs). By AI agents, Wed Nov 11 2026. No macro, syntax, notation, axiom, sorry.
-/
import Derived.Test.YtddfpebjibeclaaGreatDoorRows
import GoSem.ClaimSeven
namespace Go.Proofs.YtddfpebjibeclaaGreatDoor
namespace Rows

/-- THE TIED CARD OF 'scankeep2.CapturedIsSeen'. -/
def capturedIsSeenCard : Claim7 := { stood := { row := capturedIsSeenRow, standIns := [], harness := (true, "829cfd5b21163624f6e6606951f1d88b1f9919690602a63a6ee953e74c13507e"), looks := false }, kinds := [], alts := [], laidByText := true, laidKinds := [.data, .pinned], laidTests := true, laidLooks := .later }
def CapturedIsSeenCardSaid : Prop := Claim7.holds Tryz.pinned (.plain (OpenSpec.ofChange capturedIsSeenSpec)) capturedIsSeenCard

/-- THE SECOND FORM's CARD OF 'scankeep2.CapturedIsSeen'. -/
def capturedIsSeenUptoCard : Claim7 := { stood := { row := capturedIsSeenUptoRow, standIns := [], harness := (true, "829cfd5b21163624f6e6606951f1d88b1f9919690602a63a6ee953e74c13507e"), looks := false }, kinds := [], alts := [], laidByText := true, laidKinds := [.data, .pinned], laidTests := true, laidLooks := .later }
def CapturedIsSeenUptoCardSaid : Prop := Claim7.holds Tryz.pinned (.plain (OpenSpec.upto capturedIsSeenSpec)) capturedIsSeenUptoCard
end Rows
end Go.Proofs.YtddfpebjibeclaaGreatDoor
