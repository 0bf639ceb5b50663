/-
  No cell of these rows narrows 'for every input' (looked for: loops, veiled, ifaces, maps, wideKeys, modest, calm, conditions, laid).
  DERIVED. THE GIVEN ROWS OF THIS SEAT. 2 by the template 'for every input the law returns true; each argument reads behind the call as it read before'; 0 by the template 'total and deterministic' (their statements: YtmcdmhegjhcjhaaGreatTotals.lean).
  GIVEN WITH THE SEED: the statements are not yours to turn. If you find one false, say at which input.
  Laid BY PROGRAM, IN A SANDBOX (cutbox-rows.mjs): the forced cells as the released guide's own fill.sh prints them over the translation e7ffe6379da3cc70… (all of the seat's roots in one cut). By AI agents, Wed Nov 11 2026. No macro, syntax, notation, axiom, sorry.
-/
import Derived.Test.YtmcdmhegjhcjhaaGreatChecked
import GoSem.Claim
import GoSem.ClaimJoined
import GoSem.ClaimMapViews
import Derived.JoinedTies
import Derived.KernelRfl
namespace Go.Proofs.YtmcdmhegjhcjhaaGreat
/- THE CELL 'sum', in the pinned program and in every row, IS THE sha256 OF THE DUMP (.gsa) THAT YtmcdmhegjhcjhaaGreatProg.lean LOADS. Nothing in Lean hashes anything: it is a label: what it is worth is what the hold of that sum in a sandbox is worth. -/
noncomputable def Tryz.pinned : Pinned := { name := "ytmcdmhegjhcjhaagreat", sum := "e7ffe6379da3cc704934960eaa7c787b0b5169a1d9ca3c5723f735e80bd006d9", checked := Tryz.checked }
namespace Rows
def none {H : Type} : Left H := { results := [], args := [] }

/-- 'goosepondlaw32.B4Nobody': WHATEVER THE INPUT: true; the input reads as it did. -/
def b4NobodySpec : ChangeSpec := { name := "b4Nobody", fn := fun _ => fun
  | [d1, d2] => { results := [.lit (.bool true)], args := [d1, d2] }
  | _ => none }
def b4NobodyRow : OpenClaim := { program := "ytmcdmhegjhcjhaagreat", sum := "e7ffe6379da3cc704934960eaa7c787b0b5169a1d9ca3c5723f735e80bd006d9", func := "goosepond/goosepondlaw32.B4Nobody", spec := "b4Nobody", inPlace := ["slices.overlaps[goosepond/holes.piece]"], unfollowed := true, recurses := true, plainKeys := false, apart := false }
def B4NobodySaid : Prop := b4NobodyRow.holds Tryz.pinned (OpenSpec.ofChange b4NobodySpec)

/-- ITS FALSE NEIGHBOUR: 'it returns false'. Refute it at one input. -/
def b4NobodyWrong : ChangeSpec := { name := "b4Nobody", fn := fun _ => fun
  | [d1, d2] => { results := [.lit (.bool false)], args := [d1, d2] }
  | _ => none }
def B4NobodyWrongFalsely : Prop := b4NobodyRow.holds Tryz.pinned (OpenSpec.ofChange b4NobodyWrong)

/-- 'goosepondlaw44.PcpdNobody': WHATEVER THE INPUT: true; the input reads as it did. -/
def pcpdNobodySpec : ChangeSpec := { name := "pcpdNobody", fn := fun _ => fun
  | [d1, d2, d3, d4] => { results := [.lit (.bool true)], args := [d1, d2, d3, d4] }
  | _ => none }
def pcpdNobodyRow : OpenClaim := { program := "ytmcdmhegjhcjhaagreat", sum := "e7ffe6379da3cc704934960eaa7c787b0b5169a1d9ca3c5723f735e80bd006d9", func := "goosepond/goosepondlaw44.PcpdNobody", spec := "pcpdNobody", unfollowed := true, recurses := true, plainKeys := false, apart := false }
def PcpdNobodySaid : Prop := pcpdNobodyRow.holds Tryz.pinned (OpenSpec.ofChange pcpdNobodySpec)

/-- ITS FALSE NEIGHBOUR: 'it returns false'. Refute it at one input. -/
def pcpdNobodyWrong : ChangeSpec := { name := "pcpdNobody", fn := fun _ => fun
  | [d1, d2, d3, d4] => { results := [.lit (.bool false)], args := [d1, d2, d3, d4] }
  | _ => none }
def PcpdNobodyWrongFalsely : Prop := pcpdNobodyRow.holds Tryz.pinned (OpenSpec.ofChange pcpdNobodyWrong)

/- THE SECOND FORM. 'bulk': how many values and letters a reading holds, each counted each time it is reached (what is shared counts as often as it is met; a slice's spare places count too). A statement '..UptoSaid' is the law's where the arguments, and the package variables that the reading takes, are together of bulk at most 1048576: NARROWER than '..Said'. Prove '..Said' where nothing that the law and all that it calls make is longer than what came in: it says more and counts as full. Else prove '..UptoSaid'. A law counts once. -/
mutual
def uptoBulk {H : Type} : DataW H → Nat
  | .lit (.string bytes) => bytes.length + 1
  | .lit _ => 1
  | .nil => 1
  | .ptr d => uptoBulk d + 1
  | .slice elems spare => uptoBulkAll elems + uptoBulkAll spare + 1
  | .agg parts => uptoBulkAll parts + 1
  | .iface _ d => uptoBulk d + 1
  | .map entries => uptoBulkEntries entries + 1
  | .held _ => 1
def uptoBulkAll {H : Type} : List (DataW H) → Nat
  | [] => 0
  | d :: r => uptoBulk d + uptoBulkAll r
def uptoBulkEntries {H : Type} : List (Lit × DataW H) → Nat
  | [] => 0
  | x :: r => uptoBulkEntry x + uptoBulkEntries r
def uptoBulkEntry {H : Type} : Lit × DataW H → Nat
  | (.string bytes, d) => bytes.length + uptoBulk d + 1
  | (_, d) => uptoBulk d + 1
 end
def uptoSmall : (H : Type) → List (DataW H) → Bool := fun _ ds => decide (uptoBulkAll ds ≤ 1048576)
def OpenSpec.upto (s : _root_.Go.ChangeSpec) : _root_.Go.OpenSpec := { _root_.Go.OpenSpec.ofChange s with cond := some uptoSmall }

/-- 'goosepondlaw32.B4Nobody', WHERE WHAT IT READS IS OF BULK AT MOST 1048576: true; the input reads as it did. -/
def b4NobodyUptoRow : OpenClaim := { program := "ytmcdmhegjhcjhaagreat", sum := "e7ffe6379da3cc704934960eaa7c787b0b5169a1d9ca3c5723f735e80bd006d9", func := "goosepond/goosepondlaw32.B4Nobody", spec := "b4Nobody", inPlace := ["slices.overlaps[goosepond/holes.piece]"], unfollowed := true, recurses := true, plainKeys := false, apart := false, narrowed := true }
def B4NobodyUptoSaid : Prop := b4NobodyUptoRow.holds Tryz.pinned (OpenSpec.upto b4NobodySpec)

/-- 'goosepondlaw44.PcpdNobody', WHERE WHAT IT READS IS OF BULK AT MOST 1048576: true; the input reads as it did. -/
def pcpdNobodyUptoRow : OpenClaim := { program := "ytmcdmhegjhcjhaagreat", sum := "e7ffe6379da3cc704934960eaa7c787b0b5169a1d9ca3c5723f735e80bd006d9", func := "goosepond/goosepondlaw44.PcpdNobody", spec := "pcpdNobody", unfollowed := true, recurses := true, plainKeys := false, apart := false, narrowed := true }
def PcpdNobodyUptoSaid : Prop := pcpdNobodyUptoRow.holds Tryz.pinned (OpenSpec.upto pcpdNobodySpec)

end Rows
end Go.Proofs.YtmcdmhegjhcjhaaGreat
