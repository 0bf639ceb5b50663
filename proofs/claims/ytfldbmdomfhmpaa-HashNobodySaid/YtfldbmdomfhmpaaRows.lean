/-
  No cell of these rows narrows 'for every input' (looked for: loops, veiled, ifaces, maps, wideKeys, modest, calm, conditions, laid).
  DERIVED. THE GIVEN ROWS OF THIS SEAT. 4 by the template 'for every input the law returns true; each argument reads behind the call as it read before'; 0 by the template 'total and deterministic' (their statements: YtfldbmdomfhmpaaTotals.lean).
  GIVEN WITH THE SEED: the statements are not yours to turn. If you find one false, say at which input.
  Laid BY PROGRAM, IN A SANDBOX (cutbox-rows.mjs): the forced cells as the released guide's own fill.sh prints them over the translation c407acc6bdbefe32… (all of the seat's roots in one cut). By AI agents, Wed Nov 11 2026. No macro, syntax, notation, axiom, sorry.
-/
import Derived.Test.YtfldbmdomfhmpaaChecked
import GoSem.Claim
import GoSem.ClaimJoined
import GoSem.ClaimMapViews
import Derived.JoinedTies
import Derived.KernelRfl
namespace Go.Proofs.Ytfldbmdomfhmpaa
/- THE CELL 'sum', in the pinned program and in every row, IS THE sha256 OF THE DUMP (.gsa) THAT YtfldbmdomfhmpaaProg.lean LOADS. Nothing in Lean hashes anything: it is a label: what it is worth is what the hold of that sum in a sandbox is worth. -/
noncomputable def Try.pinned : Pinned := { name := "ytfldbmdomfhmpaa", sum := "c407acc6bdbefe325e2cf385b55703644e10dd05a3384e5baffb6279ca6a2203", checked := Try.checked }
namespace Rows
def none {H : Type} : Left H := { results := [], args := [] }

/-- 'goosepondlaw18.HashKeeps': WHATEVER THE INPUT: true; the input reads as it did. -/
def hashKeepsSpec : ChangeSpec := { name := "hashKeeps", fn := fun _ => fun
  | [d1, d2] => { results := [.lit (.bool true)], args := [d1, d2] }
  | _ => none }
def hashKeepsRow : OpenClaim := { program := "ytfldbmdomfhmpaa", sum := "c407acc6bdbefe325e2cf385b55703644e10dd05a3384e5baffb6279ca6a2203", func := "goosepond/goosepondlaw18.HashKeeps", spec := "hashKeeps", unfollowed := true, recurses := true, apart := false }
def HashKeepsSaid : Prop := hashKeepsRow.holds Try.pinned (OpenSpec.ofChange hashKeepsSpec)

/-- ITS FALSE NEIGHBOUR: 'it returns false'. Refute it at one input. -/
def hashKeepsWrong : ChangeSpec := { name := "hashKeeps", fn := fun _ => fun
  | [d1, d2] => { results := [.lit (.bool false)], args := [d1, d2] }
  | _ => none }
def HashKeepsWrongFalsely : Prop := hashKeepsRow.holds Try.pinned (OpenSpec.ofChange hashKeepsWrong)

/-- 'goosepondlaw18.HashMany': WHATEVER THE INPUT: true; the input reads as it did. -/
def hashManySpec : ChangeSpec := { name := "hashMany", fn := fun _ => fun
  | [d] => { results := [.lit (.bool true)], args := [d] }
  | _ => none }
def hashManyRow : OpenClaim := { program := "ytfldbmdomfhmpaa", sum := "c407acc6bdbefe325e2cf385b55703644e10dd05a3384e5baffb6279ca6a2203", func := "goosepond/goosepondlaw18.HashMany", spec := "hashMany", unfollowed := true, recurses := true, apart := false }
def HashManySaid : Prop := hashManyRow.holds Try.pinned (OpenSpec.ofChange hashManySpec)

/-- ITS FALSE NEIGHBOUR: 'it returns false'. Refute it at one input. -/
def hashManyWrong : ChangeSpec := { name := "hashMany", fn := fun _ => fun
  | [d] => { results := [.lit (.bool false)], args := [d] }
  | _ => none }
def HashManyWrongFalsely : Prop := hashManyRow.holds Try.pinned (OpenSpec.ofChange hashManyWrong)

/-- 'goosepondlaw18.HashLives': WHATEVER THE INPUT: true; the input reads as it did. -/
def hashLivesSpec : ChangeSpec := { name := "hashLives", fn := fun _ => fun
  | [d1, d2] => { results := [.lit (.bool true)], args := [d1, d2] }
  | _ => none }
def hashLivesRow : OpenClaim := { program := "ytfldbmdomfhmpaa", sum := "c407acc6bdbefe325e2cf385b55703644e10dd05a3384e5baffb6279ca6a2203", func := "goosepond/goosepondlaw18.HashLives", spec := "hashLives", unfollowed := true, recurses := true, apart := false }
def HashLivesSaid : Prop := hashLivesRow.holds Try.pinned (OpenSpec.ofChange hashLivesSpec)

/-- ITS FALSE NEIGHBOUR: 'it returns false'. Refute it at one input. -/
def hashLivesWrong : ChangeSpec := { name := "hashLives", fn := fun _ => fun
  | [d1, d2] => { results := [.lit (.bool false)], args := [d1, d2] }
  | _ => none }
def HashLivesWrongFalsely : Prop := hashLivesRow.holds Try.pinned (OpenSpec.ofChange hashLivesWrong)

/-- 'goosepondlaw18.HashNobody': WHATEVER THE INPUT: true; the input reads as it did. -/
def hashNobodySpec : ChangeSpec := { name := "hashNobody", fn := fun _ => fun
  | [d1, d2] => { results := [.lit (.bool true)], args := [d1, d2] }
  | _ => none }
def hashNobodyRow : OpenClaim := { program := "ytfldbmdomfhmpaa", sum := "c407acc6bdbefe325e2cf385b55703644e10dd05a3384e5baffb6279ca6a2203", func := "goosepond/goosepondlaw18.HashNobody", spec := "hashNobody", unfollowed := true, recurses := true, apart := false }
def HashNobodySaid : Prop := hashNobodyRow.holds Try.pinned (OpenSpec.ofChange hashNobodySpec)

/-- ITS FALSE NEIGHBOUR: 'it returns false'. Refute it at one input. -/
def hashNobodyWrong : ChangeSpec := { name := "hashNobody", fn := fun _ => fun
  | [d1, d2] => { results := [.lit (.bool false)], args := [d1, d2] }
  | _ => none }
def HashNobodyWrongFalsely : Prop := hashNobodyRow.holds Try.pinned (OpenSpec.ofChange hashNobodyWrong)

/- THE SECOND FORM. 'bulk': how many values and letters a reading holds, each counted each time it is reached (what is shared counts as often as it is met; a slice's spare places count too). A statement '..UptoSaid' is the law's where the arguments, and the package variables that the reading takes, are together of bulk at most 1048576: NARROWER than '..Said'. Prove '..Said' where nothing that the law and all that it calls make is longer than what came in: it says more and counts as full. Else prove '..UptoSaid'. A law counts once. -/
mutual
def uptoBulk {H : Type} : DataW H → Nat
  | .lit (.string bytes) => bytes.length + 1
  | .lit _ => 1
  | .nil => 1
  | .ptr d => uptoBulk d + 1
  | .slice elems spare => uptoBulkAll elems + uptoBulkAll spare + 1
  | .agg parts => uptoBulkAll parts + 1
  | .iface _ d => uptoBulk d + 1
  | .map entries => uptoBulkEntries entries + 1
  | .held _ => 1
def uptoBulkAll {H : Type} : List (DataW H) → Nat
  | [] => 0
  | d :: r => uptoBulk d + uptoBulkAll r
def uptoBulkEntries {H : Type} : List (Lit × DataW H) → Nat
  | [] => 0
  | x :: r => uptoBulkEntry x + uptoBulkEntries r
def uptoBulkEntry {H : Type} : Lit × DataW H → Nat
  | (.string bytes, d) => bytes.length + uptoBulk d + 1
  | (_, d) => uptoBulk d + 1
 end
def uptoSmall : (H : Type) → List (DataW H) → Bool := fun _ ds => decide (uptoBulkAll ds ≤ 1048576)
def OpenSpec.upto (s : _root_.Go.ChangeSpec) : _root_.Go.OpenSpec := { _root_.Go.OpenSpec.ofChange s with cond := some uptoSmall }

/-- 'goosepondlaw18.HashKeeps', WHERE WHAT IT READS IS OF BULK AT MOST 1048576: true; the input reads as it did. -/
def hashKeepsUptoRow : OpenClaim := { program := "ytfldbmdomfhmpaa", sum := "c407acc6bdbefe325e2cf385b55703644e10dd05a3384e5baffb6279ca6a2203", func := "goosepond/goosepondlaw18.HashKeeps", spec := "hashKeeps", unfollowed := true, recurses := true, apart := false, narrowed := true }
def HashKeepsUptoSaid : Prop := hashKeepsUptoRow.holds Try.pinned (OpenSpec.upto hashKeepsSpec)

/-- 'goosepondlaw18.HashMany', WHERE WHAT IT READS IS OF BULK AT MOST 1048576: true; the input reads as it did. -/
def hashManyUptoRow : OpenClaim := { program := "ytfldbmdomfhmpaa", sum := "c407acc6bdbefe325e2cf385b55703644e10dd05a3384e5baffb6279ca6a2203", func := "goosepond/goosepondlaw18.HashMany", spec := "hashMany", unfollowed := true, recurses := true, apart := false, narrowed := true }
def HashManyUptoSaid : Prop := hashManyUptoRow.holds Try.pinned (OpenSpec.upto hashManySpec)

/-- 'goosepondlaw18.HashLives', WHERE WHAT IT READS IS OF BULK AT MOST 1048576: true; the input reads as it did. -/
def hashLivesUptoRow : OpenClaim := { program := "ytfldbmdomfhmpaa", sum := "c407acc6bdbefe325e2cf385b55703644e10dd05a3384e5baffb6279ca6a2203", func := "goosepond/goosepondlaw18.HashLives", spec := "hashLives", unfollowed := true, recurses := true, apart := false, narrowed := true }
def HashLivesUptoSaid : Prop := hashLivesUptoRow.holds Try.pinned (OpenSpec.upto hashLivesSpec)

/-- 'goosepondlaw18.HashNobody', WHERE WHAT IT READS IS OF BULK AT MOST 1048576: true; the input reads as it did. -/
def hashNobodyUptoRow : OpenClaim := { program := "ytfldbmdomfhmpaa", sum := "c407acc6bdbefe325e2cf385b55703644e10dd05a3384e5baffb6279ca6a2203", func := "goosepond/goosepondlaw18.HashNobody", spec := "hashNobody", unfollowed := true, recurses := true, apart := false, narrowed := true }
def HashNobodyUptoSaid : Prop := hashNobodyUptoRow.holds Try.pinned (OpenSpec.upto hashNobodySpec)

end Rows
end Go.Proofs.Ytfldbmdomfhmpaa
