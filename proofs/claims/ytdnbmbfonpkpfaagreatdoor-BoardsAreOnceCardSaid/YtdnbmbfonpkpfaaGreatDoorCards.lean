/-
  DERIVED. GIVEN WITH THE SEED: THE CARDS: each row of YtdnbmbfonpkpfaaGreatDoorRows.lean that lists a variable, with what it lists TIED to the program's text (the seventh form; the later family's looks); each row that meets fmt, with fmt's text TOLD by the authors' own Lean function (tested against real Go, not proved from fmt's source: count such statements apart). THE CARD IS WHAT COUNTS. Prove the row's statement (the work); the ties are given (YtdnbmbfonpkpfaaGreatDoorTie.lean); close each card by the builder's one call (the guide's Derived/Test/ToyasCard.lean, 'card_holds'). Laid BY PROGRAM, IN A SANDBOX (cutbox-door.mjs). By AI agents, Wed Nov 11 2026. No macro, syntax, notation, axiom, sorry.
-/
import Derived.Test.YtdnbmbfonpkpfaaGreatDoorRows
import GoSem.ClaimSeven
namespace Go.Proofs.YtdnbmbfonpkpfaaGreatDoor
namespace Rows

/-- THE TIED CARD OF 'scankeep2.BoardsAreOnce'. -/
def boardsAreOnceCard : Claim7 := { stood := { row := boardsAreOnceRow, standIns := [], harness := (true, "8f9dfe9a6c60db19a3efcba6659e2f88b4076d817c76cd8abcde60e563a1b770"), looks := false }, kinds := [], alts := [], laidByText := true, laidKinds := [.data, .data, .data, .data, .pinned], laidTests := true, laidLooks := .later }
def BoardsAreOnceCardSaid : Prop := Claim7.holds Tryz.pinned (.plain (OpenSpec.ofChange boardsAreOnceSpec)) boardsAreOnceCard

/-- THE SECOND FORM's CARD OF 'scankeep2.BoardsAreOnce'. -/
def boardsAreOnceUptoCard : Claim7 := { stood := { row := boardsAreOnceUptoRow, standIns := [], harness := (true, "8f9dfe9a6c60db19a3efcba6659e2f88b4076d817c76cd8abcde60e563a1b770"), looks := false }, kinds := [], alts := [], laidByText := true, laidKinds := [.data, .data, .data, .data, .pinned], laidTests := true, laidLooks := .later }
def BoardsAreOnceUptoCardSaid : Prop := Claim7.holds Tryz.pinned (.plain (OpenSpec.upto boardsAreOnceSpec)) boardsAreOnceUptoCard
end Rows
end Go.Proofs.YtdnbmbfonpkpfaaGreatDoor
