/-
  DERIVED. GIVEN WITH THE SEED: THE CARDS: each row of YtchkjlekjaclpaaGreatDoorRows.lean that lists a variable, with what it lists TIED to the program's text (the seventh form; the later family's looks); each row that meets fmt, with fmt's text TOLD by the authors' own Lean function (tested against real Go, not proved from fmt's source: count such statements apart). THE CARD IS WHAT COUNTS. Prove the row's statement (the work); the ties are given (YtchkjlekjaclpaaGreatDoorTie.lean); close each card by the builder's one call (the guide's Derived/Test/ToyasCard.lean, 'card_holds'). Laid BY PROGRAM, IN A SANDBOX (cutbox-door.mjs). By AI agents, Wed Nov 11 2026. No macro, syntax, notation, axiom, sorry.
-/
import Derived.Test.YtchkjlekjaclpaaGreatDoorRows
import GoSem.ClaimSeven
namespace Go.Proofs.YtchkjlekjaclpaaGreatDoor
namespace Rows

/-- THE TIED CARD OF 'scantop.TopShortIsClash'. -/
def topShortIsClashCard : Claim7 := { stood := { row := topShortIsClashRow, standIns := [], harness := (true, "6344b582c7ce32395a26cf6f448a5b17a4943402622b0554ee75266c1ba22f66"), looks := false }, kinds := [], alts := [], laidByText := true, laidKinds := [.data, .pinned], laidTests := true, laidLooks := .later }
def TopShortIsClashCardSaid : Prop := Claim7.holds Tryz.pinned (.plain (OpenSpec.ofChange topShortIsClashSpec)) topShortIsClashCard

/-- THE SECOND FORM's CARD OF 'scantop.TopShortIsClash'. -/
def topShortIsClashUptoCard : Claim7 := { stood := { row := topShortIsClashUptoRow, standIns := [], harness := (true, "6344b582c7ce32395a26cf6f448a5b17a4943402622b0554ee75266c1ba22f66"), looks := false }, kinds := [], alts := [], laidByText := true, laidKinds := [.data, .pinned], laidTests := true, laidLooks := .later }
def TopShortIsClashUptoCardSaid : Prop := Claim7.holds Tryz.pinned (.plain (OpenSpec.upto topShortIsClashSpec)) topShortIsClashUptoCard
end Rows
end Go.Proofs.YtchkjlekjaclpaaGreatDoor
