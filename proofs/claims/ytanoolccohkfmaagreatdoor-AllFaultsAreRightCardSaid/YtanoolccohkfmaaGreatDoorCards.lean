/-
  DERIVED. GIVEN WITH THE SEED: THE CARDS: each row of YtanoolccohkfmaaGreatDoorRows.lean that lists a variable, with what it lists TIED to the program's text (the seventh form; the later family's looks); each row that meets fmt, with fmt's text TOLD by the authors' own Lean function (tested against real Go, not proved from fmt's source: count such statements apart). THE CARD IS WHAT COUNTS. Prove the row's statement (the work); the ties are given (YtanoolccohkfmaaGreatDoorTie.lean); close each card by the builder's one call (the guide's Derived/Test/ToyasCard.lean, 'card_holds'). Laid BY PROGRAM, IN A SANDBOX (cutbox-door.mjs). By AI agents, Wed Nov 11 2026. No macro, syntax, notation, axiom, sorry.
-/
import Derived.Test.YtanoolccohkfmaaGreatDoorRows
import GoSem.ClaimSeven
namespace Go.Proofs.YtanoolccohkfmaaGreatDoor
namespace Rows

/-- THE TIED CARD OF 'scanlaw2.VectorsRemoved'. -/
def vectorsRemovedCard : Claim7 := { stood := { row := vectorsRemovedRow, standIns := [], harness := (true, "902898e7a3e164b9f31b940f149613d5348c82e7ce22c8089fc0ad4af3ceaf15"), looks := true }, kinds := [], alts := [], laidByText := true, laidKinds := [.data, .pinned], laidTests := true, laidLooks := .later }
def VectorsRemovedCardSaid : Prop := Claim7.holds Tryz.pinned (.plain (OpenSpec.ofChange vectorsRemovedSpec)) vectorsRemovedCard

/-- THE TIED CARD OF 'scanlaw2.FaultsListed'. -/
def faultsListedCard : Claim7 := { stood := { row := faultsListedRow, standIns := [], harness := (true, "902898e7a3e164b9f31b940f149613d5348c82e7ce22c8089fc0ad4af3ceaf15"), looks := true }, kinds := [], alts := [], laidByText := true, laidKinds := [.data, .data, .data, .data, .pinned], laidTests := true, laidLooks := .later }
def FaultsListedCardSaid : Prop := Claim7.holds Tryz.pinned (.plain (OpenSpec.ofChange faultsListedSpec)) faultsListedCard

/-- THE TIED CARD OF 'scanlaw2.FaultTexts'. -/
def faultTextsCard : Claim7 := { stood := { row := faultTextsRow, standIns := [], harness := (true, "902898e7a3e164b9f31b940f149613d5348c82e7ce22c8089fc0ad4af3ceaf15"), looks := true }, kinds := [], alts := [], laidByText := true, laidKinds := [.data, .data, .data, .data, .sentinel, .sentinel, .pinned], laidTests := true, laidLooks := .later }
def FaultTextsCardSaid : Prop := Claim7.holds Tryz.pinned (.plain (OpenSpec.ofChange faultTextsSpec)) faultTextsCard

/-- THE TIED CARD OF 'scankeep2.ReducedIsEnough'. -/
def reducedIsEnoughCard : Claim7 := { stood := { row := reducedIsEnoughRow, standIns := [], harness := (true, "902898e7a3e164b9f31b940f149613d5348c82e7ce22c8089fc0ad4af3ceaf15"), looks := true }, kinds := [], alts := [], laidByText := true, laidKinds := [.data, .pinned], laidTests := true, laidLooks := .later }
def ReducedIsEnoughCardSaid : Prop := Claim7.holds Tryz.pinned (.plain (OpenSpec.ofChange reducedIsEnoughSpec)) reducedIsEnoughCard

/-- THE TIED CARD OF 'scankeep2.FaultsStay'. -/
def faultsStayCard : Claim7 := { stood := { row := faultsStayRow, standIns := [], harness := (true, "902898e7a3e164b9f31b940f149613d5348c82e7ce22c8089fc0ad4af3ceaf15"), looks := true }, kinds := [], alts := [], laidByText := true, laidKinds := [.data, .data, .data, .data, .pinned], laidTests := true, laidLooks := .later }
def FaultsStayCardSaid : Prop := Claim7.holds Tryz.pinned (.plain (OpenSpec.ofChange faultsStaySpec)) faultsStayCard

/-- THE TIED CARD OF 'scankeep2.MoreVectorsDetectMore'. -/
def moreVectorsDetectMoreCard : Claim7 := { stood := { row := moreVectorsDetectMoreRow, standIns := [], harness := (true, "902898e7a3e164b9f31b940f149613d5348c82e7ce22c8089fc0ad4af3ceaf15"), looks := true }, kinds := [], alts := [], laidByText := true, laidKinds := [.data, .data, .data, .data, .pinned], laidTests := true, laidLooks := .later }
def MoreVectorsDetectMoreCardSaid : Prop := Claim7.holds Tryz.pinned (.plain (OpenSpec.ofChange moreVectorsDetectMoreSpec)) moreVectorsDetectMoreCard

/-- THE TIED CARD OF 'scankeep2.AllFaultsAreRight'. -/
def allFaultsAreRightCard : Claim7 := { stood := { row := allFaultsAreRightRow, standIns := [], harness := (true, "902898e7a3e164b9f31b940f149613d5348c82e7ce22c8089fc0ad4af3ceaf15"), looks := true }, kinds := [], alts := [], laidByText := true, laidKinds := [.data, .data, .data, .data, .sentinel, .sentinel, .pinned], laidTests := true, laidLooks := .later }
def AllFaultsAreRightCardSaid : Prop := Claim7.holds Tryz.pinned (.plain (OpenSpec.ofChange allFaultsAreRightSpec)) allFaultsAreRightCard

/-- THE SECOND FORM's CARD OF 'scanlaw2.VectorsRemoved'. -/
def vectorsRemovedUptoCard : Claim7 := { stood := { row := vectorsRemovedUptoRow, standIns := [], harness := (true, "902898e7a3e164b9f31b940f149613d5348c82e7ce22c8089fc0ad4af3ceaf15"), looks := true }, kinds := [], alts := [], laidByText := true, laidKinds := [.data, .pinned], laidTests := true, laidLooks := .later }
def VectorsRemovedUptoCardSaid : Prop := Claim7.holds Tryz.pinned (.plain (OpenSpec.upto vectorsRemovedSpec)) vectorsRemovedUptoCard

/-- THE SECOND FORM's CARD OF 'scanlaw2.FaultsListed'. -/
def faultsListedUptoCard : Claim7 := { stood := { row := faultsListedUptoRow, standIns := [], harness := (true, "902898e7a3e164b9f31b940f149613d5348c82e7ce22c8089fc0ad4af3ceaf15"), looks := true }, kinds := [], alts := [], laidByText := true, laidKinds := [.data, .data, .data, .data, .pinned], laidTests := true, laidLooks := .later }
def FaultsListedUptoCardSaid : Prop := Claim7.holds Tryz.pinned (.plain (OpenSpec.upto faultsListedSpec)) faultsListedUptoCard

/-- THE SECOND FORM's CARD OF 'scanlaw2.FaultTexts'. -/
def faultTextsUptoCard : Claim7 := { stood := { row := faultTextsUptoRow, standIns := [], harness := (true, "902898e7a3e164b9f31b940f149613d5348c82e7ce22c8089fc0ad4af3ceaf15"), looks := true }, kinds := [], alts := [], laidByText := true, laidKinds := [.data, .data, .data, .data, .sentinel, .sentinel, .pinned], laidTests := true, laidLooks := .later }
def FaultTextsUptoCardSaid : Prop := Claim7.holds Tryz.pinned (.plain (OpenSpec.upto faultTextsSpec)) faultTextsUptoCard

/-- THE SECOND FORM's CARD OF 'scankeep2.ReducedIsEnough'. -/
def reducedIsEnoughUptoCard : Claim7 := { stood := { row := reducedIsEnoughUptoRow, standIns := [], harness := (true, "902898e7a3e164b9f31b940f149613d5348c82e7ce22c8089fc0ad4af3ceaf15"), looks := true }, kinds := [], alts := [], laidByText := true, laidKinds := [.data, .pinned], laidTests := true, laidLooks := .later }
def ReducedIsEnoughUptoCardSaid : Prop := Claim7.holds Tryz.pinned (.plain (OpenSpec.upto reducedIsEnoughSpec)) reducedIsEnoughUptoCard

/-- THE SECOND FORM's CARD OF 'scankeep2.FaultsStay'. -/
def faultsStayUptoCard : Claim7 := { stood := { row := faultsStayUptoRow, standIns := [], harness := (true, "902898e7a3e164b9f31b940f149613d5348c82e7ce22c8089fc0ad4af3ceaf15"), looks := true }, kinds := [], alts := [], laidByText := true, laidKinds := [.data, .data, .data, .data, .pinned], laidTests := true, laidLooks := .later }
def FaultsStayUptoCardSaid : Prop := Claim7.holds Tryz.pinned (.plain (OpenSpec.upto faultsStaySpec)) faultsStayUptoCard

/-- THE SECOND FORM's CARD OF 'scankeep2.MoreVectorsDetectMore'. -/
def moreVectorsDetectMoreUptoCard : Claim7 := { stood := { row := moreVectorsDetectMoreUptoRow, standIns := [], harness := (true, "902898e7a3e164b9f31b940f149613d5348c82e7ce22c8089fc0ad4af3ceaf15"), looks := true }, kinds := [], alts := [], laidByText := true, laidKinds := [.data, .data, .data, .data, .pinned], laidTests := true, laidLooks := .later }
def MoreVectorsDetectMoreUptoCardSaid : Prop := Claim7.holds Tryz.pinned (.plain (OpenSpec.upto moreVectorsDetectMoreSpec)) moreVectorsDetectMoreUptoCard

/-- THE SECOND FORM's CARD OF 'scankeep2.AllFaultsAreRight'. -/
def allFaultsAreRightUptoCard : Claim7 := { stood := { row := allFaultsAreRightUptoRow, standIns := [], harness := (true, "902898e7a3e164b9f31b940f149613d5348c82e7ce22c8089fc0ad4af3ceaf15"), looks := true }, kinds := [], alts := [], laidByText := true, laidKinds := [.data, .data, .data, .data, .sentinel, .sentinel, .pinned], laidTests := true, laidLooks := .later }
def AllFaultsAreRightUptoCardSaid : Prop := Claim7.holds Tryz.pinned (.plain (OpenSpec.upto allFaultsAreRightSpec)) allFaultsAreRightUptoCard
end Rows
end Go.Proofs.YtanoolccohkfmaaGreatDoor
