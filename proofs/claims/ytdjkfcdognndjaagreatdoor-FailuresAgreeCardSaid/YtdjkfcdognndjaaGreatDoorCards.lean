/-
  DERIVED. GIVEN WITH THE SEED: THE CARDS: each row of YtdjkfcdognndjaaGreatDoorRows.lean that lists a variable, with what it lists TIED to the program's text (the seventh form; the later family's looks); each row that meets fmt, with fmt's text TOLD by the authors' own Lean function (tested against real Go, not proved from fmt's source: count such statements apart). THE CARD IS WHAT COUNTS. Prove the row's statement (the work); the ties are given (YtdjkfcdognndjaaGreatDoorTie.lean); close each card by the builder's one call (the guide's Derived/Test/ToyasCard.lean, 'card_holds'). Laid BY PROGRAM, IN A SANDBOX (cutbox-door.mjs). By AI agents, Wed Nov 11 2026. No macro, syntax, notation, axiom, sorry.
-/
import Derived.Test.YtdjkfcdognndjaaGreatDoorRows
import GoSem.ClaimSeven
namespace Go.Proofs.YtdjkfcdognndjaaGreatDoor
namespace Rows

/-- THE TIED CARD OF 'scankeep2.ChartsMove'. -/
def chartsMoveCard : Claim7 := { stood := { row := chartsMoveRow, standIns := [], harness := (true, "96a35c81a2d94282b8eb20dc71480946b99b398fda04ec45baaa1f2fa1bc80e8"), looks := true }, kinds := [], alts := [], laidByText := true, laidKinds := [.data, .pinned], laidTests := true, laidLooks := .later }
def ChartsMoveCardSaid : Prop := Claim7.holds Tryz.pinned (.plain (OpenSpec.ofChange chartsMoveSpec)) chartsMoveCard

/-- THE TIED CARD OF 'scankeep2.UnitsAddUp'. -/
def unitsAddUpCard : Claim7 := { stood := { row := unitsAddUpRow, standIns := [], harness := (true, "96a35c81a2d94282b8eb20dc71480946b99b398fda04ec45baaa1f2fa1bc80e8"), looks := true }, kinds := [], alts := [], laidByText := true, laidKinds := [.data, .data, .data, .data, .sentinel, .sentinel, .pinned], laidTests := true, laidLooks := .later }
def UnitsAddUpCardSaid : Prop := Claim7.holds Tryz.pinned (.plain (OpenSpec.ofChange unitsAddUpSpec)) unitsAddUpCard

/-- THE TIED CARD OF 'scankeep2.FailuresAgree'. -/
def failuresAgreeCard : Claim7 := { stood := { row := failuresAgreeRow, standIns := [], harness := (true, "96a35c81a2d94282b8eb20dc71480946b99b398fda04ec45baaa1f2fa1bc80e8"), looks := true }, kinds := [], alts := [], laidByText := true, laidKinds := [.data, .data, .data, .data, .sentinel, .sentinel, .pinned], laidTests := true, laidLooks := .later }
def FailuresAgreeCardSaid : Prop := Claim7.holds Tryz.pinned (.plain (OpenSpec.ofChange failuresAgreeSpec)) failuresAgreeCard

/-- THE TIED CARD OF 'scankeep2.TighterIsTight'. -/
def tighterIsTightCard : Claim7 := { stood := { row := tighterIsTightRow, standIns := [], harness := (true, "96a35c81a2d94282b8eb20dc71480946b99b398fda04ec45baaa1f2fa1bc80e8"), looks := true }, kinds := [], alts := [], laidByText := true, laidKinds := [.data, .pinned], laidTests := true, laidLooks := .later }
def TighterIsTightCardSaid : Prop := Claim7.holds Tryz.pinned (.plain (OpenSpec.ofChange tighterIsTightSpec)) tighterIsTightCard

/-- THE TIED CARD OF 'scankeep2.LotsStay'. -/
def lotsStayCard : Claim7 := { stood := { row := lotsStayRow, standIns := [], harness := (true, "96a35c81a2d94282b8eb20dc71480946b99b398fda04ec45baaa1f2fa1bc80e8"), looks := true }, kinds := [], alts := [], laidByText := true, laidKinds := [.data, .data, .data, .data, .pinned], laidTests := true, laidLooks := .later }
def LotsStayCardSaid : Prop := Claim7.holds Tryz.pinned (.plain (OpenSpec.ofChange lotsStaySpec)) lotsStayCard

/-- THE SECOND FORM's CARD OF 'scankeep2.ChartsMove'. -/
def chartsMoveUptoCard : Claim7 := { stood := { row := chartsMoveUptoRow, standIns := [], harness := (true, "96a35c81a2d94282b8eb20dc71480946b99b398fda04ec45baaa1f2fa1bc80e8"), looks := true }, kinds := [], alts := [], laidByText := true, laidKinds := [.data, .pinned], laidTests := true, laidLooks := .later }
def ChartsMoveUptoCardSaid : Prop := Claim7.holds Tryz.pinned (.plain (OpenSpec.upto chartsMoveSpec)) chartsMoveUptoCard

/-- THE SECOND FORM's CARD OF 'scankeep2.UnitsAddUp'. -/
def unitsAddUpUptoCard : Claim7 := { stood := { row := unitsAddUpUptoRow, standIns := [], harness := (true, "96a35c81a2d94282b8eb20dc71480946b99b398fda04ec45baaa1f2fa1bc80e8"), looks := true }, kinds := [], alts := [], laidByText := true, laidKinds := [.data, .data, .data, .data, .sentinel, .sentinel, .pinned], laidTests := true, laidLooks := .later }
def UnitsAddUpUptoCardSaid : Prop := Claim7.holds Tryz.pinned (.plain (OpenSpec.upto unitsAddUpSpec)) unitsAddUpUptoCard

/-- THE SECOND FORM's CARD OF 'scankeep2.FailuresAgree'. -/
def failuresAgreeUptoCard : Claim7 := { stood := { row := failuresAgreeUptoRow, standIns := [], harness := (true, "96a35c81a2d94282b8eb20dc71480946b99b398fda04ec45baaa1f2fa1bc80e8"), looks := true }, kinds := [], alts := [], laidByText := true, laidKinds := [.data, .data, .data, .data, .sentinel, .sentinel, .pinned], laidTests := true, laidLooks := .later }
def FailuresAgreeUptoCardSaid : Prop := Claim7.holds Tryz.pinned (.plain (OpenSpec.upto failuresAgreeSpec)) failuresAgreeUptoCard

/-- THE SECOND FORM's CARD OF 'scankeep2.TighterIsTight'. -/
def tighterIsTightUptoCard : Claim7 := { stood := { row := tighterIsTightUptoRow, standIns := [], harness := (true, "96a35c81a2d94282b8eb20dc71480946b99b398fda04ec45baaa1f2fa1bc80e8"), looks := true }, kinds := [], alts := [], laidByText := true, laidKinds := [.data, .pinned], laidTests := true, laidLooks := .later }
def TighterIsTightUptoCardSaid : Prop := Claim7.holds Tryz.pinned (.plain (OpenSpec.upto tighterIsTightSpec)) tighterIsTightUptoCard

/-- THE SECOND FORM's CARD OF 'scankeep2.LotsStay'. -/
def lotsStayUptoCard : Claim7 := { stood := { row := lotsStayUptoRow, standIns := [], harness := (true, "96a35c81a2d94282b8eb20dc71480946b99b398fda04ec45baaa1f2fa1bc80e8"), looks := true }, kinds := [], alts := [], laidByText := true, laidKinds := [.data, .data, .data, .data, .pinned], laidTests := true, laidLooks := .later }
def LotsStayUptoCardSaid : Prop := Claim7.holds Tryz.pinned (.plain (OpenSpec.upto lotsStaySpec)) lotsStayUptoCard
end Rows
end Go.Proofs.YtdjkfcdognndjaaGreatDoor
