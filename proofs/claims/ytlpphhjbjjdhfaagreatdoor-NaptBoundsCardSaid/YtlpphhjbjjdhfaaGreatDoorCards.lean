/-
  DERIVED. GIVEN WITH THE SEED: THE CARDS: each row of YtlpphhjbjjdhfaaGreatDoorRows.lean that lists a variable, with what it lists TIED to the program's text (the seventh form; the later family's looks); each row that meets fmt, with fmt's text TOLD by the authors' own Lean function (tested against real Go, not proved from fmt's source: count such statements apart). THE CARD IS WHAT COUNTS. Prove the row's statement (the work); the ties are given (YtlpphhjbjjdhfaaGreatDoorTie.lean); close each card by the builder's one call (the guide's Derived/Test/ToyasCard.lean, 'card_holds'). Laid BY PROGRAM, IN A SANDBOX (cutbox-door.mjs). By AI agents, Wed Nov 11 2026. No macro, syntax, notation, axiom, sorry.
-/
import Derived.Test.YtlpphhjbjjdhfaaGreatDoorRows
import GoSem.ClaimSeven
namespace Go.Proofs.YtlpphhjbjjdhfaaGreatDoor
namespace Rows

/-- THE TIED CARD OF 'goosepondlaw27.NaptBounds'. -/
def naptBoundsCard : Claim7 := { stood := { row := naptBoundsRow, standIns := [], harness := (true, "ac157568cdcc0b958ab10e350c8fffe5b0ecafc773ae5d827d05dc7b5fd5c2b0"), looks := true }, kinds := [], alts := [], laidByText := true, laidKinds := [.handle], laidTests := true, laidLooks := .later }
def NaptBoundsCardSaid : Prop := Claim7.holds Tryz.pinned (.plain (OpenSpec.ofChange naptBoundsSpec)) naptBoundsCard

/-- THE SECOND FORM's CARD OF 'goosepondlaw27.NaptBounds'. -/
def naptBoundsUptoCard : Claim7 := { stood := { row := naptBoundsUptoRow, standIns := [], harness := (true, "ac157568cdcc0b958ab10e350c8fffe5b0ecafc773ae5d827d05dc7b5fd5c2b0"), looks := true }, kinds := [], alts := [], laidByText := true, laidKinds := [.handle], laidTests := true, laidLooks := .later }
def NaptBoundsUptoCardSaid : Prop := Claim7.holds Tryz.pinned (.plain (OpenSpec.upto naptBoundsSpec)) naptBoundsUptoCard
end Rows
end Go.Proofs.YtlpphhjbjjdhfaaGreatDoor
