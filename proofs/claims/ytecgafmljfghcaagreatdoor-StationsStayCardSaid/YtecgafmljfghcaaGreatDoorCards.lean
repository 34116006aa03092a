/-
  DERIVED. GIVEN WITH THE SEED: THE CARDS: each row of YtecgafmljfghcaaGreatDoorRows.lean that lists a variable, with what it lists TIED to the program's text (the seventh form; the later family's looks); each row that meets fmt, with fmt's text TOLD by the authors' own Lean function (tested against real Go, not proved from fmt's source: count such statements apart). THE CARD IS WHAT COUNTS. Prove the row's statement (the work); the ties are given (YtecgafmljfghcaaGreatDoorTie.lean); close each card by the builder's one call (the guide's Derived/Test/ToyasCard.lean, 'card_holds'). Laid BY PROGRAM, IN A SANDBOX (cutbox-door.mjs). By AI agents, Wed Nov 11 2026. No macro, syntax, notation, axiom, sorry.
-/
import Derived.Test.YtecgafmljfghcaaGreatDoorRows
import GoSem.ClaimSeven
namespace Go.Proofs.YtecgafmljfghcaaGreatDoor
namespace Rows

/-- THE TIED CARD OF 'scankeep2.StationsStay'. -/
def stationsStayCard : Claim7 := { stood := { row := stationsStayRow, standIns := [], harness := (true, "948ebab4cd4971d54392f3637af0858bc9c4d3255da04f50ee5e4661271ede99"), looks := false }, kinds := [], alts := [], laidByText := true, laidKinds := [.data, .pinned], laidTests := true, laidLooks := .later }
def StationsStayCardSaid : Prop := Claim7.holds Tryz.pinned (.plain (OpenSpec.ofChange stationsStaySpec)) stationsStayCard

/-- THE SECOND FORM's CARD OF 'scankeep2.StationsStay'. -/
def stationsStayUptoCard : Claim7 := { stood := { row := stationsStayUptoRow, standIns := [], harness := (true, "948ebab4cd4971d54392f3637af0858bc9c4d3255da04f50ee5e4661271ede99"), looks := false }, kinds := [], alts := [], laidByText := true, laidKinds := [.data, .pinned], laidTests := true, laidLooks := .later }
def StationsStayUptoCardSaid : Prop := Claim7.holds Tryz.pinned (.plain (OpenSpec.upto stationsStaySpec)) stationsStayUptoCard
end Rows
end Go.Proofs.YtecgafmljfghcaaGreatDoor
