/-
  DERIVED. GIVEN WITH THE SEED: THE CARDS: each row of YtdebeaaghenmpaaGreatDoorRows.lean that lists a variable, with what it lists TIED to the program's text (the seventh form; the later family's looks); each row that meets fmt, with fmt's text TOLD by the authors' own Lean function (tested against real Go, not proved from fmt's source: count such statements apart). THE CARD IS WHAT COUNTS. Prove the row's statement (the work); the ties are given (YtdebeaaghenmpaaGreatDoorTie.lean); close each card by the builder's one call (the guide's Derived/Test/ToyasCard.lean, 'card_holds'). Laid BY PROGRAM, IN A SANDBOX (cutbox-door.mjs). By AI agents, Wed Nov 11 2026. No macro, syntax, notation, axiom, sorry.
-/
import Derived.Test.YtdebeaaghenmpaaGreatDoorRows
import GoSem.ClaimSeven
namespace Go.Proofs.YtdebeaaghenmpaaGreatDoor
namespace Rows

/-- THE TIED CARD OF 'scanlaw2.RecordTexts'. -/
def recordTextsCard : Claim7 := { stood := { row := recordTextsRow, standIns := [], harness := (true, "0c48ed5459dd156afa4c24cc59545891ec08b7444402407edec3903c59a032fc"), looks := true }, kinds := [], alts := [], laidByText := true, laidKinds := [.data, .data, .data, .data, .sentinel, .sentinel, .pinned], laidTests := true, laidLooks := .later }
def RecordTextsCardSaid : Prop := Claim7.holds Tryz.pinned (.plain (OpenSpec.ofChange recordTextsSpec)) recordTextsCard

/-- THE TIED CARD OF 'scankeep2.ChartsMove'. -/
def chartsMoveCard : Claim7 := { stood := { row := chartsMoveRow, standIns := [], harness := (true, "0c48ed5459dd156afa4c24cc59545891ec08b7444402407edec3903c59a032fc"), looks := true }, kinds := [], alts := [], laidByText := true, laidKinds := [.data, .pinned], laidTests := true, laidLooks := .later }
def ChartsMoveCardSaid : Prop := Claim7.holds Tryz.pinned (.plain (OpenSpec.ofChange chartsMoveSpec)) chartsMoveCard

/-- THE TIED CARD OF 'scanlaw2.UnitsCounted'. -/
def unitsCountedCard : Claim7 := { stood := { row := unitsCountedRow, standIns := [], harness := (true, "0c48ed5459dd156afa4c24cc59545891ec08b7444402407edec3903c59a032fc"), looks := true }, kinds := [], alts := [], laidByText := true, laidKinds := [.data, .data, .data], laidTests := true, laidLooks := .later }
def UnitsCountedCardSaid : Prop := Claim7.holds Tryz.pinned (.plain (OpenSpec.ofChange unitsCountedSpec)) unitsCountedCard

/-- THE TIED CARD OF 'scanlaw2.YieldsComputed'. -/
def yieldsComputedCard : Claim7 := { stood := { row := yieldsComputedRow, standIns := [], harness := (true, "0c48ed5459dd156afa4c24cc59545891ec08b7444402407edec3903c59a032fc"), looks := true }, kinds := [], alts := [], laidByText := true, laidKinds := [.data, .data, .data], laidTests := true, laidLooks := .later }
def YieldsComputedCardSaid : Prop := Claim7.holds Tryz.pinned (.plain (OpenSpec.ofChange yieldsComputedSpec)) yieldsComputedCard

/-- THE TIED CARD OF 'scankeep2.TighterIsTight'. -/
def tighterIsTightCard : Claim7 := { stood := { row := tighterIsTightRow, standIns := [], harness := (true, "0c48ed5459dd156afa4c24cc59545891ec08b7444402407edec3903c59a032fc"), looks := true }, kinds := [], alts := [], laidByText := true, laidKinds := [.data, .pinned], laidTests := true, laidLooks := .later }
def TighterIsTightCardSaid : Prop := Claim7.holds Tryz.pinned (.plain (OpenSpec.ofChange tighterIsTightSpec)) tighterIsTightCard

/-- THE TIED CARD OF 'scankeep2.UnitsAddUp'. -/
def unitsAddUpCard : Claim7 := { stood := { row := unitsAddUpRow, standIns := [], harness := (true, "0c48ed5459dd156afa4c24cc59545891ec08b7444402407edec3903c59a032fc"), looks := true }, kinds := [], alts := [], laidByText := true, laidKinds := [.data, .data, .data, .data, .sentinel, .sentinel, .pinned], laidTests := true, laidLooks := .later }
def UnitsAddUpCardSaid : Prop := Claim7.holds Tryz.pinned (.plain (OpenSpec.ofChange unitsAddUpSpec)) unitsAddUpCard

/-- THE TIED CARD OF 'scankeep2.LotsStay'. -/
def lotsStayCard : Claim7 := { stood := { row := lotsStayRow, standIns := [], harness := (true, "0c48ed5459dd156afa4c24cc59545891ec08b7444402407edec3903c59a032fc"), looks := true }, kinds := [], alts := [], laidByText := true, laidKinds := [.data, .data, .data, .data, .pinned], laidTests := true, laidLooks := .later }
def LotsStayCardSaid : Prop := Claim7.holds Tryz.pinned (.plain (OpenSpec.ofChange lotsStaySpec)) lotsStayCard

/-- THE TIED CARD OF 'scankeep2.FailuresAgree'. -/
def failuresAgreeCard : Claim7 := { stood := { row := failuresAgreeRow, standIns := [], harness := (true, "0c48ed5459dd156afa4c24cc59545891ec08b7444402407edec3903c59a032fc"), looks := true }, kinds := [], alts := [], laidByText := true, laidKinds := [.data, .data, .data, .data, .sentinel, .sentinel, .pinned], laidTests := true, laidLooks := .later }
def FailuresAgreeCardSaid : Prop := Claim7.holds Tryz.pinned (.plain (OpenSpec.ofChange failuresAgreeSpec)) failuresAgreeCard

/-- THE SECOND FORM's CARD OF 'scanlaw2.RecordTexts'. -/
def recordTextsUptoCard : Claim7 := { stood := { row := recordTextsUptoRow, standIns := [], harness := (true, "0c48ed5459dd156afa4c24cc59545891ec08b7444402407edec3903c59a032fc"), looks := true }, kinds := [], alts := [], laidByText := true, laidKinds := [.data, .data, .data, .data, .sentinel, .sentinel, .pinned], laidTests := true, laidLooks := .later }
def RecordTextsUptoCardSaid : Prop := Claim7.holds Tryz.pinned (.plain (OpenSpec.upto recordTextsSpec)) recordTextsUptoCard

/-- THE SECOND FORM's CARD OF 'scankeep2.ChartsMove'. -/
def chartsMoveUptoCard : Claim7 := { stood := { row := chartsMoveUptoRow, standIns := [], harness := (true, "0c48ed5459dd156afa4c24cc59545891ec08b7444402407edec3903c59a032fc"), looks := true }, kinds := [], alts := [], laidByText := true, laidKinds := [.data, .pinned], laidTests := true, laidLooks := .later }
def ChartsMoveUptoCardSaid : Prop := Claim7.holds Tryz.pinned (.plain (OpenSpec.upto chartsMoveSpec)) chartsMoveUptoCard

/-- THE SECOND FORM's CARD OF 'scanlaw2.UnitsCounted'. -/
def unitsCountedUptoCard : Claim7 := { stood := { row := unitsCountedUptoRow, standIns := [], harness := (true, "0c48ed5459dd156afa4c24cc59545891ec08b7444402407edec3903c59a032fc"), looks := true }, kinds := [], alts := [], laidByText := true, laidKinds := [.data, .data, .data], laidTests := true, laidLooks := .later }
def UnitsCountedUptoCardSaid : Prop := Claim7.holds Tryz.pinned (.plain (OpenSpec.upto unitsCountedSpec)) unitsCountedUptoCard

/-- THE SECOND FORM's CARD OF 'scanlaw2.YieldsComputed'. -/
def yieldsComputedUptoCard : Claim7 := { stood := { row := yieldsComputedUptoRow, standIns := [], harness := (true, "0c48ed5459dd156afa4c24cc59545891ec08b7444402407edec3903c59a032fc"), looks := true }, kinds := [], alts := [], laidByText := true, laidKinds := [.data, .data, .data], laidTests := true, laidLooks := .later }
def YieldsComputedUptoCardSaid : Prop := Claim7.holds Tryz.pinned (.plain (OpenSpec.upto yieldsComputedSpec)) yieldsComputedUptoCard

/-- THE SECOND FORM's CARD OF 'scankeep2.TighterIsTight'. -/
def tighterIsTightUptoCard : Claim7 := { stood := { row := tighterIsTightUptoRow, standIns := [], harness := (true, "0c48ed5459dd156afa4c24cc59545891ec08b7444402407edec3903c59a032fc"), looks := true }, kinds := [], alts := [], laidByText := true, laidKinds := [.data, .pinned], laidTests := true, laidLooks := .later }
def TighterIsTightUptoCardSaid : Prop := Claim7.holds Tryz.pinned (.plain (OpenSpec.upto tighterIsTightSpec)) tighterIsTightUptoCard

/-- THE SECOND FORM's CARD OF 'scankeep2.UnitsAddUp'. -/
def unitsAddUpUptoCard : Claim7 := { stood := { row := unitsAddUpUptoRow, standIns := [], harness := (true, "0c48ed5459dd156afa4c24cc59545891ec08b7444402407edec3903c59a032fc"), looks := true }, kinds := [], alts := [], laidByText := true, laidKinds := [.data, .data, .data, .data, .sentinel, .sentinel, .pinned], laidTests := true, laidLooks := .later }
def UnitsAddUpUptoCardSaid : Prop := Claim7.holds Tryz.pinned (.plain (OpenSpec.upto unitsAddUpSpec)) unitsAddUpUptoCard

/-- THE SECOND FORM's CARD OF 'scankeep2.LotsStay'. -/
def lotsStayUptoCard : Claim7 := { stood := { row := lotsStayUptoRow, standIns := [], harness := (true, "0c48ed5459dd156afa4c24cc59545891ec08b7444402407edec3903c59a032fc"), looks := true }, kinds := [], alts := [], laidByText := true, laidKinds := [.data, .data, .data, .data, .pinned], laidTests := true, laidLooks := .later }
def LotsStayUptoCardSaid : Prop := Claim7.holds Tryz.pinned (.plain (OpenSpec.upto lotsStaySpec)) lotsStayUptoCard

/-- THE SECOND FORM's CARD OF 'scankeep2.FailuresAgree'. -/
def failuresAgreeUptoCard : Claim7 := { stood := { row := failuresAgreeUptoRow, standIns := [], harness := (true, "0c48ed5459dd156afa4c24cc59545891ec08b7444402407edec3903c59a032fc"), looks := true }, kinds := [], alts := [], laidByText := true, laidKinds := [.data, .data, .data, .data, .sentinel, .sentinel, .pinned], laidTests := true, laidLooks := .later }
def FailuresAgreeUptoCardSaid : Prop := Claim7.holds Tryz.pinned (.plain (OpenSpec.upto failuresAgreeSpec)) failuresAgreeUptoCard
end Rows
end Go.Proofs.YtdebeaaghenmpaaGreatDoor
