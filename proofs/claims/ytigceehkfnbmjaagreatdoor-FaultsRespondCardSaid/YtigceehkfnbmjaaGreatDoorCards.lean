/-
  DERIVED. GIVEN WITH THE SEED: THE CARDS: each row of YtigceehkfnbmjaaGreatDoorRows.lean that lists a variable, with what it lists TIED to the program's text (the seventh form; the later family's looks); each row that meets fmt, with fmt's text TOLD by the authors' own Lean function (tested against real Go, not proved from fmt's source: count such statements apart). THE CARD IS WHAT COUNTS. Prove the row's statement (the work); the ties are given (YtigceehkfnbmjaaGreatDoorTie.lean); close each card by the builder's one call (the guide's Derived/Test/ToyasCard.lean, 'card_holds'). Laid BY PROGRAM, IN A SANDBOX (cutbox-door.mjs). By AI agents, Wed Nov 11 2026. No macro, syntax, notation, axiom, sorry.
-/
import Derived.Test.YtigceehkfnbmjaaGreatDoorRows
import GoSem.ClaimSeven
namespace Go.Proofs.YtigceehkfnbmjaaGreatDoor
namespace Rows

/-- THE TIED CARD OF 'scanlaw2.FaultsRespond'. -/
def faultsRespondCard : Claim7 := { stood := { row := faultsRespondRow, standIns := [], harness := (true, "14ff6f61ed16e66b8fe471f33012a88ce9c5039997036d5bad457ce99a328ee6"), looks := false }, kinds := [], alts := [], laidByText := true, laidKinds := [.data, .data, .pinned], laidTests := true, laidLooks := .later }
def FaultsRespondCardSaid : Prop := Claim7.holds Tryz.pinned (.plain (OpenSpec.ofChange faultsRespondSpec)) faultsRespondCard

/-- THE TIED CARD OF 'scankeep2.ShortsAreAlike'. -/
def shortsAreAlikeCard : Claim7 := { stood := { row := shortsAreAlikeRow, standIns := [], harness := (true, "14ff6f61ed16e66b8fe471f33012a88ce9c5039997036d5bad457ce99a328ee6"), looks := false }, kinds := [], alts := [], laidByText := true, laidKinds := [.data, .pinned], laidTests := true, laidLooks := .later }
def ShortsAreAlikeCardSaid : Prop := Claim7.holds Tryz.pinned (.plain (OpenSpec.ofChange shortsAreAlikeSpec)) shortsAreAlikeCard

/-- THE TIED CARD OF 'scankeep2.FaultsAreOnes'. -/
def faultsAreOnesCard : Claim7 := { stood := { row := faultsAreOnesRow, standIns := [], harness := (true, "14ff6f61ed16e66b8fe471f33012a88ce9c5039997036d5bad457ce99a328ee6"), looks := false }, kinds := [], alts := [], laidByText := true, laidKinds := [.data, .data, .pinned], laidTests := true, laidLooks := .later }
def FaultsAreOnesCardSaid : Prop := Claim7.holds Tryz.pinned (.plain (OpenSpec.ofChange faultsAreOnesSpec)) faultsAreOnesCard

/-- THE SECOND FORM's CARD OF 'scanlaw2.FaultsRespond'. -/
def faultsRespondUptoCard : Claim7 := { stood := { row := faultsRespondUptoRow, standIns := [], harness := (true, "14ff6f61ed16e66b8fe471f33012a88ce9c5039997036d5bad457ce99a328ee6"), looks := false }, kinds := [], alts := [], laidByText := true, laidKinds := [.data, .data, .pinned], laidTests := true, laidLooks := .later }
def FaultsRespondUptoCardSaid : Prop := Claim7.holds Tryz.pinned (.plain (OpenSpec.upto faultsRespondSpec)) faultsRespondUptoCard

/-- THE SECOND FORM's CARD OF 'scankeep2.ShortsAreAlike'. -/
def shortsAreAlikeUptoCard : Claim7 := { stood := { row := shortsAreAlikeUptoRow, standIns := [], harness := (true, "14ff6f61ed16e66b8fe471f33012a88ce9c5039997036d5bad457ce99a328ee6"), looks := false }, kinds := [], alts := [], laidByText := true, laidKinds := [.data, .pinned], laidTests := true, laidLooks := .later }
def ShortsAreAlikeUptoCardSaid : Prop := Claim7.holds Tryz.pinned (.plain (OpenSpec.upto shortsAreAlikeSpec)) shortsAreAlikeUptoCard

/-- THE SECOND FORM's CARD OF 'scankeep2.FaultsAreOnes'. -/
def faultsAreOnesUptoCard : Claim7 := { stood := { row := faultsAreOnesUptoRow, standIns := [], harness := (true, "14ff6f61ed16e66b8fe471f33012a88ce9c5039997036d5bad457ce99a328ee6"), looks := false }, kinds := [], alts := [], laidByText := true, laidKinds := [.data, .data, .pinned], laidTests := true, laidLooks := .later }
def FaultsAreOnesUptoCardSaid : Prop := Claim7.holds Tryz.pinned (.plain (OpenSpec.upto faultsAreOnesSpec)) faultsAreOnesUptoCard
end Rows
end Go.Proofs.YtigceehkfnbmjaaGreatDoor
