/-
  DERIVED. GIVEN WITH THE SEED: THE CARDS: each row of YtilloflkgbfjfaaDoorRows.lean that lists a variable, with what it lists TIED to the program's text (the seventh form; the later family's looks); each row that meets fmt, with fmt's text TOLD by the authors' own Lean function (tested against real Go, not proved from fmt's source: count such statements apart). THE CARD IS WHAT COUNTS. Prove the row's statement (the work); the ties are given (YtilloflkgbfjfaaDoorTie.lean); close each card by the builder's one call (the guide's Derived/Test/ToyasCard.lean, 'card_holds'). Laid BY PROGRAM, IN A SANDBOX (cutbox-door.mjs). By AI agents, Wed Nov 11 2026. No macro, syntax, notation, axiom, sorry.
-/
import Derived.Test.YtilloflkgbfjfaaDoorRows
import GoSem.ClaimSeven
namespace Go.Proofs.YtilloflkgbfjfaaDoor
namespace Rows

/-- THE TIED CARD OF 'scanlaw2.SignalsMade'. -/
def signalsMadeCard : Claim7 := { stood := { row := signalsMadeRow, standIns := [], harness := (true, "107081b80758c14d8fe76dbd38460a813d513fa65ade6015ea85a4499b41b34b"), looks := false }, kinds := [], alts := [], laidByText := true, laidKinds := [.data, .pinned], laidTests := true, laidLooks := .later }
def SignalsMadeCardSaid : Prop := Claim7.holds Tryd.pinned (.plain (OpenSpec.ofChange signalsMadeSpec)) signalsMadeCard

/-- THE SECOND FORM's CARD OF 'scanlaw2.SignalsMade'. -/
def signalsMadeUptoCard : Claim7 := { stood := { row := signalsMadeUptoRow, standIns := [], harness := (true, "107081b80758c14d8fe76dbd38460a813d513fa65ade6015ea85a4499b41b34b"), looks := false }, kinds := [], alts := [], laidByText := true, laidKinds := [.data, .pinned], laidTests := true, laidLooks := .later }
def SignalsMadeUptoCardSaid : Prop := Claim7.holds Tryd.pinned (.plain (OpenSpec.upto signalsMadeSpec)) signalsMadeUptoCard
end Rows
end Go.Proofs.YtilloflkgbfjfaaDoor
