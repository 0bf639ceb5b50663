/-
  DERIVED. GIVEN WITH THE SEED: THE CARDS: each row of YtnifdmfflblbbaaGreatDoorRows.lean that lists a variable, with what it lists TIED to the program's text (the seventh form; the later family's looks); each row that meets fmt, with fmt's text TOLD by the authors' own Lean function (tested against real Go, not proved from fmt's source: count such statements apart). THE CARD IS WHAT COUNTS. Prove the row's statement (the work); the ties are given (YtnifdmfflblbbaaGreatDoorTie.lean); close each card by the builder's one call (the guide's Derived/Test/ToyasCard.lean, 'card_holds'). Laid BY PROGRAM, IN A SANDBOX (cutbox-door.mjs). By AI agents, Wed Nov 11 2026. No macro, syntax, notation, axiom, sorry.
-/
import Derived.Test.YtnifdmfflblbbaaGreatDoorRows
import GoSem.ClaimSeven
namespace Go.Proofs.YtnifdmfflblbbaaGreatDoor
namespace Rows

/-- THE TIED CARD OF 'goosepondlaw37.WorldNobody'. -/
def worldNobodyCard : Claim7 := { stood := { row := worldNobodyRow, standIns := [], harness := (true, "1569d1264d8ccd0f409bf5e49d468a30515c9d5a4e8a550680295cc83196ca49"), looks := true }, kinds := [], alts := [], laidByText := true, laidKinds := [.handle, .pinned, .data, .data, .data, .data], laidTests := true, laidLooks := .later }
def WorldNobodyCardSaid : Prop := Claim7.holds Tryz.pinned (.plain (OpenSpec.ofChange worldNobodySpec)) worldNobodyCard

/-- THE SECOND FORM's CARD OF 'goosepondlaw37.WorldNobody'. -/
def worldNobodyUptoCard : Claim7 := { stood := { row := worldNobodyUptoRow, standIns := [], harness := (true, "1569d1264d8ccd0f409bf5e49d468a30515c9d5a4e8a550680295cc83196ca49"), looks := true }, kinds := [], alts := [], laidByText := true, laidKinds := [.handle, .pinned, .data, .data, .data, .data], laidTests := true, laidLooks := .later }
def WorldNobodyUptoCardSaid : Prop := Claim7.holds Tryz.pinned (.plain (OpenSpec.upto worldNobodySpec)) worldNobodyUptoCard
end Rows
end Go.Proofs.YtnifdmfflblbbaaGreatDoor
