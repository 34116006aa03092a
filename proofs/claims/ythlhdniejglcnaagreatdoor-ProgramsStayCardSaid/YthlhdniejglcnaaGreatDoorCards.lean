/-
  DERIVED. GIVEN WITH THE SEED: THE CARDS: each row of YthlhdniejglcnaaGreatDoorRows.lean that lists a variable, with what it lists TIED to the program's text (the seventh form; the later family's looks); each row that meets fmt, with fmt's text TOLD by the authors' own Lean function (tested against real Go, not proved from fmt's source: count such statements apart). THE CARD IS WHAT COUNTS. Prove the row's statement (the work); the ties are given (YthlhdniejglcnaaGreatDoorTie.lean); close each card by the builder's one call (the guide's Derived/Test/ToyasCard.lean, 'card_holds'). Laid BY PROGRAM, IN A SANDBOX (cutbox-door.mjs). By AI agents, Wed Nov 11 2026. No macro, syntax, notation, axiom, sorry.
-/
import Derived.Test.YthlhdniejglcnaaGreatDoorRows
import GoSem.ClaimSeven
namespace Go.Proofs.YthlhdniejglcnaaGreatDoor
namespace Rows

/-- THE TIED CARD OF 'scanlaw2.ProgramsRun'. -/
def programsRunCard : Claim7 := { stood := { row := programsRunRow, standIns := [], harness := (true, "1dee688d5d3ecda630cae7ce5912a0f017c6d6dc9ac0902c9969197e10f06f96"), looks := false }, kinds := [], alts := [], laidByText := true, laidKinds := [.data, .data, .data, .data, .pinned], laidTests := true, laidLooks := .later }
def ProgramsRunCardSaid : Prop := Claim7.holds Tryz.pinned (.plain (OpenSpec.ofChange programsRunSpec)) programsRunCard

/-- THE TIED CARD OF 'scantop.TopVectorsReadTests'. -/
def topVectorsReadTestsCard : Claim7 := { stood := { row := topVectorsReadTestsRow, standIns := [], harness := (true, "1dee688d5d3ecda630cae7ce5912a0f017c6d6dc9ac0902c9969197e10f06f96"), looks := false }, kinds := [], alts := [], laidByText := true, laidKinds := [.data, .pinned], laidTests := true, laidLooks := .later }
def TopVectorsReadTestsCardSaid : Prop := Claim7.holds Tryz.pinned (.plain (OpenSpec.ofChange topVectorsReadTestsSpec)) topVectorsReadTestsCard

/-- THE TIED CARD OF 'scankeep2.LearnedDoNotFail'. -/
def learnedDoNotFailCard : Claim7 := { stood := { row := learnedDoNotFailRow, standIns := [], harness := (true, "1dee688d5d3ecda630cae7ce5912a0f017c6d6dc9ac0902c9969197e10f06f96"), looks := false }, kinds := [], alts := [], laidByText := true, laidKinds := [.data, .pinned], laidTests := true, laidLooks := .later }
def LearnedDoNotFailCardSaid : Prop := Claim7.holds Tryz.pinned (.plain (OpenSpec.ofChange learnedDoNotFailSpec)) learnedDoNotFailCard

/-- THE TIED CARD OF 'scankeep2.PaddedShiftsSame'. -/
def paddedShiftsSameCard : Claim7 := { stood := { row := paddedShiftsSameRow, standIns := [], harness := (true, "1dee688d5d3ecda630cae7ce5912a0f017c6d6dc9ac0902c9969197e10f06f96"), looks := false }, kinds := [], alts := [], laidByText := true, laidKinds := [.data, .pinned], laidTests := true, laidLooks := .later }
def PaddedShiftsSameCardSaid : Prop := Claim7.holds Tryz.pinned (.plain (OpenSpec.ofChange paddedShiftsSameSpec)) paddedShiftsSameCard

/-- THE TIED CARD OF 'scankeep2.ProgramsStay'. -/
def programsStayCard : Claim7 := { stood := { row := programsStayRow, standIns := [], harness := (true, "1dee688d5d3ecda630cae7ce5912a0f017c6d6dc9ac0902c9969197e10f06f96"), looks := false }, kinds := [], alts := [], laidByText := true, laidKinds := [.data, .pinned], laidTests := true, laidLooks := .later }
def ProgramsStayCardSaid : Prop := Claim7.holds Tryz.pinned (.plain (OpenSpec.ofChange programsStaySpec)) programsStayCard

/-- THE SECOND FORM's CARD OF 'scanlaw2.ProgramsRun'. -/
def programsRunUptoCard : Claim7 := { stood := { row := programsRunUptoRow, standIns := [], harness := (true, "1dee688d5d3ecda630cae7ce5912a0f017c6d6dc9ac0902c9969197e10f06f96"), looks := false }, kinds := [], alts := [], laidByText := true, laidKinds := [.data, .data, .data, .data, .pinned], laidTests := true, laidLooks := .later }
def ProgramsRunUptoCardSaid : Prop := Claim7.holds Tryz.pinned (.plain (OpenSpec.upto programsRunSpec)) programsRunUptoCard

/-- THE SECOND FORM's CARD OF 'scantop.TopVectorsReadTests'. -/
def topVectorsReadTestsUptoCard : Claim7 := { stood := { row := topVectorsReadTestsUptoRow, standIns := [], harness := (true, "1dee688d5d3ecda630cae7ce5912a0f017c6d6dc9ac0902c9969197e10f06f96"), looks := false }, kinds := [], alts := [], laidByText := true, laidKinds := [.data, .pinned], laidTests := true, laidLooks := .later }
def TopVectorsReadTestsUptoCardSaid : Prop := Claim7.holds Tryz.pinned (.plain (OpenSpec.upto topVectorsReadTestsSpec)) topVectorsReadTestsUptoCard

/-- THE SECOND FORM's CARD OF 'scankeep2.LearnedDoNotFail'. -/
def learnedDoNotFailUptoCard : Claim7 := { stood := { row := learnedDoNotFailUptoRow, standIns := [], harness := (true, "1dee688d5d3ecda630cae7ce5912a0f017c6d6dc9ac0902c9969197e10f06f96"), looks := false }, kinds := [], alts := [], laidByText := true, laidKinds := [.data, .pinned], laidTests := true, laidLooks := .later }
def LearnedDoNotFailUptoCardSaid : Prop := Claim7.holds Tryz.pinned (.plain (OpenSpec.upto learnedDoNotFailSpec)) learnedDoNotFailUptoCard

/-- THE SECOND FORM's CARD OF 'scankeep2.PaddedShiftsSame'. -/
def paddedShiftsSameUptoCard : Claim7 := { stood := { row := paddedShiftsSameUptoRow, standIns := [], harness := (true, "1dee688d5d3ecda630cae7ce5912a0f017c6d6dc9ac0902c9969197e10f06f96"), looks := false }, kinds := [], alts := [], laidByText := true, laidKinds := [.data, .pinned], laidTests := true, laidLooks := .later }
def PaddedShiftsSameUptoCardSaid : Prop := Claim7.holds Tryz.pinned (.plain (OpenSpec.upto paddedShiftsSameSpec)) paddedShiftsSameUptoCard

/-- THE SECOND FORM's CARD OF 'scankeep2.ProgramsStay'. -/
def programsStayUptoCard : Claim7 := { stood := { row := programsStayUptoRow, standIns := [], harness := (true, "1dee688d5d3ecda630cae7ce5912a0f017c6d6dc9ac0902c9969197e10f06f96"), looks := false }, kinds := [], alts := [], laidByText := true, laidKinds := [.data, .pinned], laidTests := true, laidLooks := .later }
def ProgramsStayUptoCardSaid : Prop := Claim7.holds Tryz.pinned (.plain (OpenSpec.upto programsStaySpec)) programsStayUptoCard
end Rows
end Go.Proofs.YthlhdniejglcnaaGreatDoor
