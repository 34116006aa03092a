/-
  DERIVED. GIVEN WITH THE SEED: THE CARDS: each row of YtpmepdkfbangiaaGreatDoorRows.lean that lists a variable, with what it lists TIED to the program's text (the seventh form; the later family's looks); each row that meets fmt, with fmt's text TOLD by the authors' own Lean function (tested against real Go, not proved from fmt's source: count such statements apart). THE CARD IS WHAT COUNTS. Prove the row's statement (the work); the ties are given (YtpmepdkfbangiaaGreatDoorTie.lean); close each card by the builder's one call (the guide's Derived/Test/ToyasCard.lean, 'card_holds'). Laid BY PROGRAM, IN A SANDBOX (cutbox-door.mjs). By AI agents, Wed Nov 11 2026. No macro, syntax, notation, axiom, sorry.
-/
import Derived.Test.YtpmepdkfbangiaaGreatDoorRows
import GoSem.ClaimSeven
namespace Go.Proofs.YtpmepdkfbangiaaGreatDoor
namespace Rows

/-- THE TIED CARD OF 'scanlaw2.BoardsFollowed'. -/
def boardsFollowedCard : Claim7 := { stood := { row := boardsFollowedRow, standIns := [], harness := (true, "4e9b38a840ec2e9c5a49b404d7021011a9b34b4243d1bdb5ffcf240a14a020fd"), looks := false }, kinds := [], alts := [], laidByText := true, laidKinds := [.data, .data, .data], laidTests := true, laidLooks := .later }
def BoardsFollowedCardSaid : Prop := Claim7.holds Tryz.pinned (.plain (OpenSpec.ofChange boardsFollowedSpec)) boardsFollowedCard

/-- THE SECOND FORM's CARD OF 'scanlaw2.BoardsFollowed'. -/
def boardsFollowedUptoCard : Claim7 := { stood := { row := boardsFollowedUptoRow, standIns := [], harness := (true, "4e9b38a840ec2e9c5a49b404d7021011a9b34b4243d1bdb5ffcf240a14a020fd"), looks := false }, kinds := [], alts := [], laidByText := true, laidKinds := [.data, .data, .data], laidTests := true, laidLooks := .later }
def BoardsFollowedUptoCardSaid : Prop := Claim7.holds Tryz.pinned (.plain (OpenSpec.upto boardsFollowedSpec)) boardsFollowedUptoCard
end Rows
end Go.Proofs.YtpmepdkfbangiaaGreatDoor
