/-
  DERIVED. GIVEN WITH THE SEED: THE CARDS: each row of YtojjldhoodnjiaaGreatDoorRows.lean that lists a variable, with what it lists TIED to the program's text (the seventh form; the later family's looks); each row that meets fmt, with fmt's text TOLD by the authors' own Lean function (tested against real Go, not proved from fmt's source: count such statements apart). THE CARD IS WHAT COUNTS. Prove the row's statement (the work); the ties are given (YtojjldhoodnjiaaGreatDoorTie.lean); close each card by the builder's one call (the guide's Derived/Test/ToyasCard.lean, 'card_holds'). Laid BY PROGRAM, IN A SANDBOX (cutbox-door.mjs). By AI agents, Wed Nov 11 2026. No macro, syntax, notation, axiom, sorry.
-/
import Derived.Test.YtojjldhoodnjiaaGreatDoorRows
import GoSem.ClaimSeven
namespace Go.Proofs.YtojjldhoodnjiaaGreatDoor
namespace Rows

/-- THE TIED CARD OF 'scankeep2.WithoutIsSame'. -/
def withoutIsSameCard : Claim7 := { stood := { row := withoutIsSameRow, standIns := [], harness := (true, "3b94c8486136f247239beb54f07daba8245d288f816a9b3a18a02d4e3405efa9"), looks := true }, kinds := [], alts := [], laidByText := true, laidKinds := [.data, .pinned], laidTests := true, laidLooks := .later }
def WithoutIsSameCardSaid : Prop := Claim7.holds Tryz.pinned (.plain (OpenSpec.ofChange withoutIsSameSpec)) withoutIsSameCard

/-- THE TIED CARD OF 'scankeep2.SignalsFit'. -/
def signalsFitCard : Claim7 := { stood := { row := signalsFitRow, standIns := [], harness := (true, "3b94c8486136f247239beb54f07daba8245d288f816a9b3a18a02d4e3405efa9"), looks := true }, kinds := [], alts := [], laidByText := true, laidKinds := [.data, .pinned], laidTests := true, laidLooks := .later }
def SignalsFitCardSaid : Prop := Claim7.holds Tryz.pinned (.plain (OpenSpec.ofChange signalsFitSpec)) signalsFitCard

/-- THE TIED CARD OF 'scanlaw2.ProgramTexts'. -/
def programTextsCard : Claim7 := { stood := { row := programTextsRow, standIns := [], harness := (true, "3b94c8486136f247239beb54f07daba8245d288f816a9b3a18a02d4e3405efa9"), looks := true }, kinds := [], alts := [], laidByText := true, laidKinds := [.data, .data, .data, .data, .sentinel, .sentinel, .pinned], laidTests := true, laidLooks := .later }
def ProgramTextsCardSaid : Prop := Claim7.holds Tryz.pinned (.plain (OpenSpec.ofChange programTextsSpec)) programTextsCard

/-- THE TIED CARD OF 'scankeep2.ProgramsComeBack'. -/
def programsComeBackCard : Claim7 := { stood := { row := programsComeBackRow, standIns := [], harness := (true, "3b94c8486136f247239beb54f07daba8245d288f816a9b3a18a02d4e3405efa9"), looks := true }, kinds := [], alts := [], laidByText := true, laidKinds := [.data, .data, .data, .data, .sentinel, .sentinel, .pinned], laidTests := true, laidLooks := .later }
def ProgramsComeBackCardSaid : Prop := Claim7.holds Tryz.pinned (.plain (OpenSpec.ofChange programsComeBackSpec)) programsComeBackCard

/-- THE SECOND FORM's CARD OF 'scankeep2.WithoutIsSame'. -/
def withoutIsSameUptoCard : Claim7 := { stood := { row := withoutIsSameUptoRow, standIns := [], harness := (true, "3b94c8486136f247239beb54f07daba8245d288f816a9b3a18a02d4e3405efa9"), looks := true }, kinds := [], alts := [], laidByText := true, laidKinds := [.data, .pinned], laidTests := true, laidLooks := .later }
def WithoutIsSameUptoCardSaid : Prop := Claim7.holds Tryz.pinned (.plain (OpenSpec.upto withoutIsSameSpec)) withoutIsSameUptoCard

/-- THE SECOND FORM's CARD OF 'scankeep2.SignalsFit'. -/
def signalsFitUptoCard : Claim7 := { stood := { row := signalsFitUptoRow, standIns := [], harness := (true, "3b94c8486136f247239beb54f07daba8245d288f816a9b3a18a02d4e3405efa9"), looks := true }, kinds := [], alts := [], laidByText := true, laidKinds := [.data, .pinned], laidTests := true, laidLooks := .later }
def SignalsFitUptoCardSaid : Prop := Claim7.holds Tryz.pinned (.plain (OpenSpec.upto signalsFitSpec)) signalsFitUptoCard

/-- THE SECOND FORM's CARD OF 'scanlaw2.ProgramTexts'. -/
def programTextsUptoCard : Claim7 := { stood := { row := programTextsUptoRow, standIns := [], harness := (true, "3b94c8486136f247239beb54f07daba8245d288f816a9b3a18a02d4e3405efa9"), looks := true }, kinds := [], alts := [], laidByText := true, laidKinds := [.data, .data, .data, .data, .sentinel, .sentinel, .pinned], laidTests := true, laidLooks := .later }
def ProgramTextsUptoCardSaid : Prop := Claim7.holds Tryz.pinned (.plain (OpenSpec.upto programTextsSpec)) programTextsUptoCard

/-- THE SECOND FORM's CARD OF 'scankeep2.ProgramsComeBack'. -/
def programsComeBackUptoCard : Claim7 := { stood := { row := programsComeBackUptoRow, standIns := [], harness := (true, "3b94c8486136f247239beb54f07daba8245d288f816a9b3a18a02d4e3405efa9"), looks := true }, kinds := [], alts := [], laidByText := true, laidKinds := [.data, .data, .data, .data, .sentinel, .sentinel, .pinned], laidTests := true, laidLooks := .later }
def ProgramsComeBackUptoCardSaid : Prop := Claim7.holds Tryz.pinned (.plain (OpenSpec.upto programsComeBackSpec)) programsComeBackUptoCard
end Rows
end Go.Proofs.YtojjldhoodnjiaaGreatDoor
