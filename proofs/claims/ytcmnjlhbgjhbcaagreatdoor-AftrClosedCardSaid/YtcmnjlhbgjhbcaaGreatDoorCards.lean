/-
  DERIVED. GIVEN WITH THE SEED: THE CARDS: each row of YtcmnjlhbgjhbcaaGreatDoorRows.lean that lists a variable, with what it lists TIED to the program's text (the seventh form; the later family's looks); each row that meets fmt, with fmt's text TOLD by the authors' own Lean function (tested against real Go, not proved from fmt's source: count such statements apart). THE CARD IS WHAT COUNTS. Prove the row's statement (the work); the ties are given (YtcmnjlhbgjhbcaaGreatDoorTie.lean); close each card by the builder's one call (the guide's Derived/Test/ToyasCard.lean, 'card_holds'). Laid BY PROGRAM, IN A SANDBOX (cutbox-door.mjs). By AI agents, Wed Nov 11 2026. No macro, syntax, notation, axiom, sorry.
-/
import Derived.Test.YtcmnjlhbgjhbcaaGreatDoorRows
import GoSem.ClaimSeven
namespace Go.Proofs.YtcmnjlhbgjhbcaaGreatDoor
namespace Rows

/-- THE TIED CARD OF 'goosepondlaw33.AftrClosed'. -/
def aftrClosedCard : Claim7 := { stood := { row := aftrClosedRow, standIns := [], harness := (true, "581eb4c30dbbe869da6e7cf8f7a3d92d5ee04dc38fd1abb6869f472ebdef1da4"), looks := true }, kinds := [], alts := [], laidByText := true, laidKinds := [.handle], laidTests := true, laidLooks := .later }
def AftrClosedCardSaid : Prop := Claim7.holds Tryz.pinned (.plain (OpenSpec.ofChange aftrClosedSpec)) aftrClosedCard

/-- THE SECOND FORM's CARD OF 'goosepondlaw33.AftrClosed'. -/
def aftrClosedUptoCard : Claim7 := { stood := { row := aftrClosedUptoRow, standIns := [], harness := (true, "581eb4c30dbbe869da6e7cf8f7a3d92d5ee04dc38fd1abb6869f472ebdef1da4"), looks := true }, kinds := [], alts := [], laidByText := true, laidKinds := [.handle], laidTests := true, laidLooks := .later }
def AftrClosedUptoCardSaid : Prop := Claim7.holds Tryz.pinned (.plain (OpenSpec.upto aftrClosedSpec)) aftrClosedUptoCard
end Rows
end Go.Proofs.YtcmnjlhbgjhbcaaGreatDoor
