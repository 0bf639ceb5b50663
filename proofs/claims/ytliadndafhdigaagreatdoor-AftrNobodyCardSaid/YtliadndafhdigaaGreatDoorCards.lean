/-
  DERIVED. GIVEN WITH THE SEED: THE CARDS: each row of YtliadndafhdigaaGreatDoorRows.lean that lists a variable, with what it lists TIED to the program's text (the seventh form; the later family's looks); each row that meets fmt, with fmt's text TOLD by the authors' own Lean function (tested against real Go, not proved from fmt's source: count such statements apart). THE CARD IS WHAT COUNTS. Prove the row's statement (the work); the ties are given (YtliadndafhdigaaGreatDoorTie.lean); close each card by the builder's one call (the guide's Derived/Test/ToyasCard.lean, 'card_holds'). Laid BY PROGRAM, IN A SANDBOX (cutbox-door.mjs). By AI agents, Wed Nov 11 2026. No macro, syntax, notation, axiom, sorry.
-/
import Derived.Test.YtliadndafhdigaaGreatDoorRows
import GoSem.ClaimSeven
namespace Go.Proofs.YtliadndafhdigaaGreatDoor
namespace Rows

/-- THE TIED CARD OF 'goosepondlaw33.AftrNobody'. -/
def aftrNobodyCard : Claim7 := { stood := { row := aftrNobodyRow, standIns := [], harness := (true, "0088506f20ab4eece7a2cd67127dc813655d56c4ee5cc57c23862f686395d16a"), looks := true }, kinds := [], alts := [], laidByText := true, laidKinds := [.handle], laidTests := true, laidLooks := .later }
def AftrNobodyCardSaid : Prop := Claim7.holds Tryz.pinned (.plain (OpenSpec.ofChange aftrNobodySpec)) aftrNobodyCard

/-- THE SECOND FORM's CARD OF 'goosepondlaw33.AftrNobody'. -/
def aftrNobodyUptoCard : Claim7 := { stood := { row := aftrNobodyUptoRow, standIns := [], harness := (true, "0088506f20ab4eece7a2cd67127dc813655d56c4ee5cc57c23862f686395d16a"), looks := true }, kinds := [], alts := [], laidByText := true, laidKinds := [.handle], laidTests := true, laidLooks := .later }
def AftrNobodyUptoCardSaid : Prop := Claim7.holds Tryz.pinned (.plain (OpenSpec.upto aftrNobodySpec)) aftrNobodyUptoCard
end Rows
end Go.Proofs.YtliadndafhdigaaGreatDoor
