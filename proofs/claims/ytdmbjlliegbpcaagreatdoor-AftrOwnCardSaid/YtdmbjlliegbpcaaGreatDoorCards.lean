/-
  DERIVED. GIVEN WITH THE SEED: THE CARDS: each row of YtdmbjlliegbpcaaGreatDoorRows.lean that lists a variable, with what it lists TIED to the program's text (the seventh form; the later family's looks); each row that meets fmt, with fmt's text TOLD by the authors' own Lean function (tested against real Go, not proved from fmt's source: count such statements apart). THE CARD IS WHAT COUNTS. Prove the row's statement (the work); the ties are given (YtdmbjlliegbpcaaGreatDoorTie.lean); close each card by the builder's one call (the guide's Derived/Test/ToyasCard.lean, 'card_holds'). Laid BY PROGRAM, IN A SANDBOX (cutbox-door.mjs). By AI agents, Wed Nov 11 2026. No macro, syntax, notation, axiom, sorry.
-/
import Derived.Test.YtdmbjlliegbpcaaGreatDoorRows
import GoSem.ClaimSeven
namespace Go.Proofs.YtdmbjlliegbpcaaGreatDoor
namespace Rows

/-- THE TIED CARD OF 'goosepondlaw33.AftrOwn'. -/
def aftrOwnCard : Claim7 := { stood := { row := aftrOwnRow, standIns := [], harness := (true, "370e01e86575b0106598f73e3413e5757ac666d3b943668f89b65152b773df76"), looks := true }, kinds := [], alts := [], laidByText := true, laidKinds := [.handle], laidTests := true, laidLooks := .later }
def AftrOwnCardSaid : Prop := Claim7.holds Tryz.pinned (.plain (OpenSpec.ofChange aftrOwnSpec)) aftrOwnCard

/-- THE SECOND FORM's CARD OF 'goosepondlaw33.AftrOwn'. -/
def aftrOwnUptoCard : Claim7 := { stood := { row := aftrOwnUptoRow, standIns := [], harness := (true, "370e01e86575b0106598f73e3413e5757ac666d3b943668f89b65152b773df76"), looks := true }, kinds := [], alts := [], laidByText := true, laidKinds := [.handle], laidTests := true, laidLooks := .later }
def AftrOwnUptoCardSaid : Prop := Claim7.holds Tryz.pinned (.plain (OpenSpec.upto aftrOwnSpec)) aftrOwnUptoCard
end Rows
end Go.Proofs.YtdmbjlliegbpcaaGreatDoor
