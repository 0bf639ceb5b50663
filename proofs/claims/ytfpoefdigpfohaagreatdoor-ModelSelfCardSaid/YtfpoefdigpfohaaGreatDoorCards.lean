/-
  DERIVED. GIVEN WITH THE SEED: THE CARDS: each row of YtfpoefdigpfohaaGreatDoorRows.lean that lists a variable, with what it lists TIED to the program's text (the seventh form; the later family's looks); each row that meets fmt, with fmt's text TOLD by the authors' own Lean function (tested against real Go, not proved from fmt's source: count such statements apart). THE CARD IS WHAT COUNTS. Prove the row's statement (the work); the ties are given (YtfpoefdigpfohaaGreatDoorTie.lean); close each card by the builder's one call (the guide's Derived/Test/ToyasCard.lean, 'card_holds'). Laid BY PROGRAM, IN A SANDBOX (cutbox-door.mjs). By AI agents, Wed Nov 11 2026. No macro, syntax, notation, axiom, sorry.
-/
import Derived.Test.YtfpoefdigpfohaaGreatDoorRows
import GoSem.ClaimSeven
namespace Go.Proofs.YtfpoefdigpfohaaGreatDoor
namespace Rows

/-- THE TIED CARD OF 'goosepondlaw39.ModelSelf'. -/
def modelSelfCard : Claim7 := { stood := { row := modelSelfRow, standIns := [], harness := (true, "0621618c5edb00a0fcd75506bcf0fbb252a614ba0690883e4ae58f1a64bad654"), looks := false }, kinds := [], alts := [], laidByText := true, laidKinds := [.data, .pinned], laidTests := true, laidLooks := .later }
def ModelSelfCardSaid : Prop := Claim7.holds Tryz.pinned (.plain (OpenSpec.ofChange modelSelfSpec)) modelSelfCard

/-- THE SECOND FORM's CARD OF 'goosepondlaw39.ModelSelf'. -/
def modelSelfUptoCard : Claim7 := { stood := { row := modelSelfUptoRow, standIns := [], harness := (true, "0621618c5edb00a0fcd75506bcf0fbb252a614ba0690883e4ae58f1a64bad654"), looks := false }, kinds := [], alts := [], laidByText := true, laidKinds := [.data, .pinned], laidTests := true, laidLooks := .later }
def ModelSelfUptoCardSaid : Prop := Claim7.holds Tryz.pinned (.plain (OpenSpec.upto modelSelfSpec)) modelSelfUptoCard
end Rows
end Go.Proofs.YtfpoefdigpfohaaGreatDoor
