/-
  DERIVED. GIVEN WITH THE SEED: THE CARDS: each row of YtnemccmcpllhcaaGreatDoorRows.lean that lists a variable, with what it lists TIED to the program's text (the seventh form; the later family's looks); each row that meets fmt, with fmt's text TOLD by the authors' own Lean function (tested against real Go, not proved from fmt's source: count such statements apart). THE CARD IS WHAT COUNTS. Prove the row's statement (the work); the ties are given (YtnemccmcpllhcaaGreatDoorTie.lean); close each card by the builder's one call (the guide's Derived/Test/ToyasCard.lean, 'card_holds'). Laid BY PROGRAM, IN A SANDBOX (cutbox-door.mjs). By AI agents, Wed Nov 11 2026. No macro, syntax, notation, axiom, sorry.
-/
import Derived.Test.YtnemccmcpllhcaaGreatDoorRows
import GoSem.ClaimSeven
namespace Go.Proofs.YtnemccmcpllhcaaGreatDoor
namespace Rows

/-- THE TIED CARD OF 'goosepondlaw27.NaptHolds'. -/
def naptHoldsCard : Claim7 := { stood := { row := naptHoldsRow, standIns := [], harness := (true, "25fcdb4bb74e5a353364a22de8c4aed995c483d227d1eb831641e877f3301840"), looks := true }, kinds := [], alts := [], laidByText := true, laidKinds := [.handle], laidTests := true, laidLooks := .later }
def NaptHoldsCardSaid : Prop := Claim7.holds Tryz.pinned (.plain (OpenSpec.ofChange naptHoldsSpec)) naptHoldsCard

/-- THE SECOND FORM's CARD OF 'goosepondlaw27.NaptHolds'. -/
def naptHoldsUptoCard : Claim7 := { stood := { row := naptHoldsUptoRow, standIns := [], harness := (true, "25fcdb4bb74e5a353364a22de8c4aed995c483d227d1eb831641e877f3301840"), looks := true }, kinds := [], alts := [], laidByText := true, laidKinds := [.handle], laidTests := true, laidLooks := .later }
def NaptHoldsUptoCardSaid : Prop := Claim7.holds Tryz.pinned (.plain (OpenSpec.upto naptHoldsSpec)) naptHoldsUptoCard
end Rows
end Go.Proofs.YtnemccmcpllhcaaGreatDoor
