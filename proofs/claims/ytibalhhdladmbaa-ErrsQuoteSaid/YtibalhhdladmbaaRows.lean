/-
  No cell of these rows narrows 'for every input' (looked for: loops, veiled, ifaces, maps, wideKeys, modest, calm, conditions, laid).
  DERIVED. THE GIVEN ROWS OF THIS SEAT. 7 by the template 'for every input the law returns true; each argument reads behind the call as it read before'; 0 by the template 'total and deterministic' (their statements: YtibalhhdladmbaaTotals.lean).
  GIVEN WITH THE SEED: the statements are not yours to turn. If you find one false, say at which input.
  Laid BY PROGRAM, IN A SANDBOX (cutbox-rows.mjs): the forced cells as the released guide's own fill.sh prints them over the translation 46785730e1f08b96… (all of the seat's roots in one cut). By AI agents, Wed Nov 11 2026. No macro, syntax, notation, axiom, sorry.
-/
import Derived.Test.YtibalhhdladmbaaChecked
import GoSem.Claim
import GoSem.ClaimJoined
import GoSem.ClaimMapViews
import Derived.JoinedTies
import Derived.KernelRfl
namespace Go.Proofs.Ytibalhhdladmbaa
/- THE CELL 'sum', in the pinned program and in every row, IS THE sha256 OF THE DUMP (.gsa) THAT YtibalhhdladmbaaProg.lean LOADS. Nothing in Lean hashes anything: it is a label: what it is worth is what the hold of that sum in a sandbox is worth. -/
noncomputable def Try.pinned : Pinned := { name := "ytibalhhdladmbaa", sum := "46785730e1f08b966bcba203ec3044a19dda600bad7830b63b01f141185c55cc", checked := Try.checked }
namespace Rows
def none {H : Type} : Left H := { results := [], args := [] }

/-- 'goosepondlaw05.V4Again': WHATEVER THE INPUT: true; the input reads as it did. -/
def v4AgainSpec : ChangeSpec := { name := "v4Again", fn := fun _ => fun
  | [d] => { results := [.lit (.bool true)], args := [d] }
  | _ => none }
def v4AgainRow : OpenClaim := { program := "ytibalhhdladmbaa", sum := "46785730e1f08b966bcba203ec3044a19dda600bad7830b63b01f141185c55cc", func := "goosepond/goosepondlaw05.V4Again", spec := "v4Again", unfollowed := true, recurses := true, apart := false }
def V4AgainSaid : Prop := v4AgainRow.holds Try.pinned (OpenSpec.ofChange v4AgainSpec)

/-- ITS FALSE NEIGHBOUR: 'it returns false'. Refute it at one input. -/
def v4AgainWrong : ChangeSpec := { name := "v4Again", fn := fun _ => fun
  | [d] => { results := [.lit (.bool false)], args := [d] }
  | _ => none }
def V4AgainWrongFalsely : Prop := v4AgainRow.holds Try.pinned (OpenSpec.ofChange v4AgainWrong)

/-- 'goosepondlaw05.V4Parses': WHATEVER THE INPUT: true; the input reads as it did. -/
def v4ParsesSpec : ChangeSpec := { name := "v4Parses", fn := fun _ => fun
  | [d] => { results := [.lit (.bool true)], args := [d] }
  | _ => none }
def v4ParsesRow : OpenClaim := { program := "ytibalhhdladmbaa", sum := "46785730e1f08b966bcba203ec3044a19dda600bad7830b63b01f141185c55cc", func := "goosepond/goosepondlaw05.V4Parses", spec := "v4Parses", unfollowed := true, recurses := true, apart := false }
def V4ParsesSaid : Prop := v4ParsesRow.holds Try.pinned (OpenSpec.ofChange v4ParsesSpec)

/-- ITS FALSE NEIGHBOUR: 'it returns false'. Refute it at one input. -/
def v4ParsesWrong : ChangeSpec := { name := "v4Parses", fn := fun _ => fun
  | [d] => { results := [.lit (.bool false)], args := [d] }
  | _ => none }
def V4ParsesWrongFalsely : Prop := v4ParsesRow.holds Try.pinned (OpenSpec.ofChange v4ParsesWrong)

/-- 'goosepondlaw05.V4Builds': WHATEVER THE INPUT: true; the input reads as it did. -/
def v4BuildsSpec : ChangeSpec := { name := "v4Builds", fn := fun _ => fun
  | [d1, d2] => { results := [.lit (.bool true)], args := [d1, d2] }
  | _ => none }
def v4BuildsRow : OpenClaim := { program := "ytibalhhdladmbaa", sum := "46785730e1f08b966bcba203ec3044a19dda600bad7830b63b01f141185c55cc", func := "goosepond/goosepondlaw05.V4Builds", spec := "v4Builds", unfollowed := true, recurses := true, apart := false }
def V4BuildsSaid : Prop := v4BuildsRow.holds Try.pinned (OpenSpec.ofChange v4BuildsSpec)

/-- ITS FALSE NEIGHBOUR: 'it returns false'. Refute it at one input. -/
def v4BuildsWrong : ChangeSpec := { name := "v4Builds", fn := fun _ => fun
  | [d1, d2] => { results := [.lit (.bool false)], args := [d1, d2] }
  | _ => none }
def V4BuildsWrongFalsely : Prop := v4BuildsRow.holds Try.pinned (OpenSpec.ofChange v4BuildsWrong)

/-- 'goosepondlaw05.V4Back': WHATEVER THE INPUT: true; the input reads as it did. -/
def v4BackSpec : ChangeSpec := { name := "v4Back", fn := fun _ => fun
  | [d1, d2] => { results := [.lit (.bool true)], args := [d1, d2] }
  | _ => none }
def v4BackRow : OpenClaim := { program := "ytibalhhdladmbaa", sum := "46785730e1f08b966bcba203ec3044a19dda600bad7830b63b01f141185c55cc", func := "goosepond/goosepondlaw05.V4Back", spec := "v4Back", unfollowed := true, recurses := true, apart := false }
def V4BackSaid : Prop := v4BackRow.holds Try.pinned (OpenSpec.ofChange v4BackSpec)

/-- ITS FALSE NEIGHBOUR: 'it returns false'. Refute it at one input. -/
def v4BackWrong : ChangeSpec := { name := "v4Back", fn := fun _ => fun
  | [d1, d2] => { results := [.lit (.bool false)], args := [d1, d2] }
  | _ => none }
def V4BackWrongFalsely : Prop := v4BackRow.holds Try.pinned (OpenSpec.ofChange v4BackWrong)

/-- 'goosepondlaw28.ErrsMake': WHATEVER THE INPUT: true; the input reads as it did. -/
def errsMakeSpec : ChangeSpec := { name := "errsMake", fn := fun _ => fun
  | [d1, d2, d3, d4, d5] => { results := [.lit (.bool true)], args := [d1, d2, d3, d4, d5] }
  | _ => none }
def errsMakeRow : OpenClaim := { program := "ytibalhhdladmbaa", sum := "46785730e1f08b966bcba203ec3044a19dda600bad7830b63b01f141185c55cc", func := "goosepond/goosepondlaw28.ErrsMake", spec := "errsMake", unfollowed := true, recurses := true, apart := false }
def ErrsMakeSaid : Prop := errsMakeRow.holds Try.pinned (OpenSpec.ofChange errsMakeSpec)

/-- ITS FALSE NEIGHBOUR: 'it returns false'. Refute it at one input. -/
def errsMakeWrong : ChangeSpec := { name := "errsMake", fn := fun _ => fun
  | [d1, d2, d3, d4, d5] => { results := [.lit (.bool false)], args := [d1, d2, d3, d4, d5] }
  | _ => none }
def ErrsMakeWrongFalsely : Prop := errsMakeRow.holds Try.pinned (OpenSpec.ofChange errsMakeWrong)

/-- 'goosepondlaw28.ErrsQuote': WHATEVER THE INPUT: true; the input reads as it did. -/
def errsQuoteSpec : ChangeSpec := { name := "errsQuote", fn := fun _ => fun
  | [d1, d2, d3, d4] => { results := [.lit (.bool true)], args := [d1, d2, d3, d4] }
  | _ => none }
def errsQuoteRow : OpenClaim := { program := "ytibalhhdladmbaa", sum := "46785730e1f08b966bcba203ec3044a19dda600bad7830b63b01f141185c55cc", func := "goosepond/goosepondlaw28.ErrsQuote", spec := "errsQuote", unfollowed := true, recurses := true, apart := false }
def ErrsQuoteSaid : Prop := errsQuoteRow.holds Try.pinned (OpenSpec.ofChange errsQuoteSpec)

/-- ITS FALSE NEIGHBOUR: 'it returns false'. Refute it at one input. -/
def errsQuoteWrong : ChangeSpec := { name := "errsQuote", fn := fun _ => fun
  | [d1, d2, d3, d4] => { results := [.lit (.bool false)], args := [d1, d2, d3, d4] }
  | _ => none }
def ErrsQuoteWrongFalsely : Prop := errsQuoteRow.holds Try.pinned (OpenSpec.ofChange errsQuoteWrong)

/-- 'goosepondlaw28.ErrsOnce': WHATEVER THE INPUT: true; the input reads as it did. -/
def errsOnceSpec : ChangeSpec := { name := "errsOnce", fn := fun _ => fun
  | [d1, d2, d3, d4, d5] => { results := [.lit (.bool true)], args := [d1, d2, d3, d4, d5] }
  | _ => none }
def errsOnceRow : OpenClaim := { program := "ytibalhhdladmbaa", sum := "46785730e1f08b966bcba203ec3044a19dda600bad7830b63b01f141185c55cc", func := "goosepond/goosepondlaw28.ErrsOnce", spec := "errsOnce", unfollowed := true, recurses := true, apart := false }
def ErrsOnceSaid : Prop := errsOnceRow.holds Try.pinned (OpenSpec.ofChange errsOnceSpec)

/-- ITS FALSE NEIGHBOUR: 'it returns false'. Refute it at one input. -/
def errsOnceWrong : ChangeSpec := { name := "errsOnce", fn := fun _ => fun
  | [d1, d2, d3, d4, d5] => { results := [.lit (.bool false)], args := [d1, d2, d3, d4, d5] }
  | _ => none }
def ErrsOnceWrongFalsely : Prop := errsOnceRow.holds Try.pinned (OpenSpec.ofChange errsOnceWrong)

/- THE SECOND FORM. 'bulk': how many values and letters a reading holds, each counted each time it is reached (what is shared counts as often as it is met; a slice's spare places count too). A statement '..UptoSaid' is the law's where the arguments, and the package variables that the reading takes, are together of bulk at most 1048576: NARROWER than '..Said'. Prove '..Said' where nothing that the law and all that it calls make is longer than what came in: it says more and counts as full. Else prove '..UptoSaid'. A law counts once. -/
mutual
def uptoBulk {H : Type} : DataW H → Nat
  | .lit (.string bytes) => bytes.length + 1
  | .lit _ => 1
  | .nil => 1
  | .ptr d => uptoBulk d + 1
  | .slice elems spare => uptoBulkAll elems + uptoBulkAll spare + 1
  | .agg parts => uptoBulkAll parts + 1
  | .iface _ d => uptoBulk d + 1
  | .map entries => uptoBulkEntries entries + 1
  | .held _ => 1
def uptoBulkAll {H : Type} : List (DataW H) → Nat
  | [] => 0
  | d :: r => uptoBulk d + uptoBulkAll r
def uptoBulkEntries {H : Type} : List (Lit × DataW H) → Nat
  | [] => 0
  | x :: r => uptoBulkEntry x + uptoBulkEntries r
def uptoBulkEntry {H : Type} : Lit × DataW H → Nat
  | (.string bytes, d) => bytes.length + uptoBulk d + 1
  | (_, d) => uptoBulk d + 1
 end
def uptoSmall : (H : Type) → List (DataW H) → Bool := fun _ ds => decide (uptoBulkAll ds ≤ 1048576)
def OpenSpec.upto (s : _root_.Go.ChangeSpec) : _root_.Go.OpenSpec := { _root_.Go.OpenSpec.ofChange s with cond := some uptoSmall }

/-- 'goosepondlaw05.V4Again', WHERE WHAT IT READS IS OF BULK AT MOST 1048576: true; the input reads as it did. -/
def v4AgainUptoRow : OpenClaim := { program := "ytibalhhdladmbaa", sum := "46785730e1f08b966bcba203ec3044a19dda600bad7830b63b01f141185c55cc", func := "goosepond/goosepondlaw05.V4Again", spec := "v4Again", unfollowed := true, recurses := true, apart := false, narrowed := true }
def V4AgainUptoSaid : Prop := v4AgainUptoRow.holds Try.pinned (OpenSpec.upto v4AgainSpec)

/-- 'goosepondlaw05.V4Parses', WHERE WHAT IT READS IS OF BULK AT MOST 1048576: true; the input reads as it did. -/
def v4ParsesUptoRow : OpenClaim := { program := "ytibalhhdladmbaa", sum := "46785730e1f08b966bcba203ec3044a19dda600bad7830b63b01f141185c55cc", func := "goosepond/goosepondlaw05.V4Parses", spec := "v4Parses", unfollowed := true, recurses := true, apart := false, narrowed := true }
def V4ParsesUptoSaid : Prop := v4ParsesUptoRow.holds Try.pinned (OpenSpec.upto v4ParsesSpec)

/-- 'goosepondlaw05.V4Builds', WHERE WHAT IT READS IS OF BULK AT MOST 1048576: true; the input reads as it did. -/
def v4BuildsUptoRow : OpenClaim := { program := "ytibalhhdladmbaa", sum := "46785730e1f08b966bcba203ec3044a19dda600bad7830b63b01f141185c55cc", func := "goosepond/goosepondlaw05.V4Builds", spec := "v4Builds", unfollowed := true, recurses := true, apart := false, narrowed := true }
def V4BuildsUptoSaid : Prop := v4BuildsUptoRow.holds Try.pinned (OpenSpec.upto v4BuildsSpec)

/-- 'goosepondlaw05.V4Back', WHERE WHAT IT READS IS OF BULK AT MOST 1048576: true; the input reads as it did. -/
def v4BackUptoRow : OpenClaim := { program := "ytibalhhdladmbaa", sum := "46785730e1f08b966bcba203ec3044a19dda600bad7830b63b01f141185c55cc", func := "goosepond/goosepondlaw05.V4Back", spec := "v4Back", unfollowed := true, recurses := true, apart := false, narrowed := true }
def V4BackUptoSaid : Prop := v4BackUptoRow.holds Try.pinned (OpenSpec.upto v4BackSpec)

/-- 'goosepondlaw28.ErrsMake', WHERE WHAT IT READS IS OF BULK AT MOST 1048576: true; the input reads as it did. -/
def errsMakeUptoRow : OpenClaim := { program := "ytibalhhdladmbaa", sum := "46785730e1f08b966bcba203ec3044a19dda600bad7830b63b01f141185c55cc", func := "goosepond/goosepondlaw28.ErrsMake", spec := "errsMake", unfollowed := true, recurses := true, apart := false, narrowed := true }
def ErrsMakeUptoSaid : Prop := errsMakeUptoRow.holds Try.pinned (OpenSpec.upto errsMakeSpec)

/-- 'goosepondlaw28.ErrsQuote', WHERE WHAT IT READS IS OF BULK AT MOST 1048576: true; the input reads as it did. -/
def errsQuoteUptoRow : OpenClaim := { program := "ytibalhhdladmbaa", sum := "46785730e1f08b966bcba203ec3044a19dda600bad7830b63b01f141185c55cc", func := "goosepond/goosepondlaw28.ErrsQuote", spec := "errsQuote", unfollowed := true, recurses := true, apart := false, narrowed := true }
def ErrsQuoteUptoSaid : Prop := errsQuoteUptoRow.holds Try.pinned (OpenSpec.upto errsQuoteSpec)

/-- 'goosepondlaw28.ErrsOnce', WHERE WHAT IT READS IS OF BULK AT MOST 1048576: true; the input reads as it did. -/
def errsOnceUptoRow : OpenClaim := { program := "ytibalhhdladmbaa", sum := "46785730e1f08b966bcba203ec3044a19dda600bad7830b63b01f141185c55cc", func := "goosepond/goosepondlaw28.ErrsOnce", spec := "errsOnce", unfollowed := true, recurses := true, apart := false, narrowed := true }
def ErrsOnceUptoSaid : Prop := errsOnceUptoRow.holds Try.pinned (OpenSpec.upto errsOnceSpec)

end Rows
end Go.Proofs.Ytibalhhdladmbaa
