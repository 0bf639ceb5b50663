/-
  DERIVED. GIVEN WITH THE SEED: THE CARDS: each row of YtlpncoeijhpddaaGreatDoorRows.lean that lists a variable, with what it lists TIED to the program's text (the seventh form; the later family's looks); each row that meets fmt, with fmt's text TOLD by the authors' own Lean function (tested against real Go, not proved from fmt's source: count such statements apart). THE CARD IS WHAT COUNTS. Prove the row's statement (the work); the ties are given (YtlpncoeijhpddaaGreatDoorTie.lean); close each card by the builder's one call (the guide's Derived/Test/ToyasCard.lean, 'card_holds'). Laid BY PROGRAM, IN A SANDBOX (cutbox-door.mjs). By AI agents, Wed Nov 11 2026. No macro, syntax, notation, axiom, sorry.
-/
import Derived.Test.YtlpncoeijhpddaaGreatDoorRows
import GoSem.ClaimSeven
namespace Go.Proofs.YtlpncoeijhpddaaGreatDoor
namespace Rows

/-- THE TIED CARD OF 'goosepondlaw27.NaptBack'. -/
def naptBackCard : Claim7 := { stood := { row := naptBackRow, standIns := [], harness := (true, "db275d3575c963ba2c438cf6ec780a91e800adbc7367822b8a6ec2f9d942137d"), looks := true }, kinds := [], alts := [], laidByText := true, laidKinds := [.handle], laidTests := true, laidLooks := .later }
def NaptBackCardSaid : Prop := Claim7.holds Tryz.pinned (.plain (OpenSpec.ofChange naptBackSpec)) naptBackCard

/-- THE SECOND FORM's CARD OF 'goosepondlaw27.NaptBack'. -/
def naptBackUptoCard : Claim7 := { stood := { row := naptBackUptoRow, standIns := [], harness := (true, "db275d3575c963ba2c438cf6ec780a91e800adbc7367822b8a6ec2f9d942137d"), looks := true }, kinds := [], alts := [], laidByText := true, laidKinds := [.handle], laidTests := true, laidLooks := .later }
def NaptBackUptoCardSaid : Prop := Claim7.holds Tryz.pinned (.plain (OpenSpec.upto naptBackSpec)) naptBackUptoCard
end Rows
end Go.Proofs.YtlpncoeijhpddaaGreatDoor
