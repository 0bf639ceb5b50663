/-
  No cell of these rows narrows 'for every input' (looked for: loops, veiled, ifaces, maps, wideKeys, modest, calm, conditions, laid).
  DERIVED. THE GIVEN ROWS OF THIS SEAT. 4 by the template 'for every input the law returns true; each argument reads behind the call as it read before'; 0 by the template 'total and deterministic' (their statements: YtcoolonmnjacfaaTotals.lean).
  GIVEN WITH THE SEED: the statements are not yours to turn. If you find one false, say at which input.
  Laid BY PROGRAM, IN A SANDBOX (cutbox-rows.mjs): the forced cells as the released guide's own fill.sh prints them over the translation e33d7017bcec2c3e… (all of the seat's roots in one cut). By AI agents, Wed Nov 11 2026. No macro, syntax, notation, axiom, sorry.
-/
import Derived.Test.YtcoolonmnjacfaaChecked
import GoSem.Claim
import GoSem.ClaimJoined
import GoSem.ClaimMapViews
import Derived.JoinedTies
import Derived.KernelRfl
namespace Go.Proofs.Ytcoolonmnjacfaa
/- THE CELL 'sum', in the pinned program and in every row, IS THE sha256 OF THE DUMP (.gsa) THAT YtcoolonmnjacfaaProg.lean LOADS. Nothing in Lean hashes anything: it is a label: what it is worth is what the hold of that sum in a sandbox is worth. -/
noncomputable def Try.pinned : Pinned := { name := "ytcoolonmnjacfaa", sum := "e33d7017bcec2c3ecec8639f7faeda8b8f92d0a92411847dae7ec66ca0bd6c83", checked := Try.checked }
namespace Rows
def none {H : Type} : Left H := { results := [], args := [] }

/-- 'goosepondlaw16.JoinBounds': WHATEVER THE INPUT: true; the input reads as it did. -/
def joinBoundsSpec : ChangeSpec := { name := "joinBounds", fn := fun _ => fun
  | [d1, d2, d3] => { results := [.lit (.bool true)], args := [d1, d2, d3] }
  | _ => none }
def joinBoundsRow : OpenClaim := { program := "ytcoolonmnjacfaa", sum := "e33d7017bcec2c3ecec8639f7faeda8b8f92d0a92411847dae7ec66ca0bd6c83", func := "goosepond/goosepondlaw16.JoinBounds", spec := "joinBounds", inPlace := ["slices.overlaps[goosepond/holes.piece]"], unfollowed := true, recurses := true, apart := false }
def JoinBoundsSaid : Prop := joinBoundsRow.holds Try.pinned (OpenSpec.ofChange joinBoundsSpec)

/-- ITS FALSE NEIGHBOUR: 'it returns false'. Refute it at one input. -/
def joinBoundsWrong : ChangeSpec := { name := "joinBounds", fn := fun _ => fun
  | [d1, d2, d3] => { results := [.lit (.bool false)], args := [d1, d2, d3] }
  | _ => none }
def JoinBoundsWrongFalsely : Prop := joinBoundsRow.holds Try.pinned (OpenSpec.ofChange joinBoundsWrong)

/-- 'goosepondlaw16.JoinGone': WHATEVER THE INPUT: true; the input reads as it did. -/
def joinGoneSpec : ChangeSpec := { name := "joinGone", fn := fun _ => fun
  | [d] => { results := [.lit (.bool true)], args := [d] }
  | _ => none }
def joinGoneRow : OpenClaim := { program := "ytcoolonmnjacfaa", sum := "e33d7017bcec2c3ecec8639f7faeda8b8f92d0a92411847dae7ec66ca0bd6c83", func := "goosepond/goosepondlaw16.JoinGone", spec := "joinGone", inPlace := ["slices.overlaps[goosepond/holes.piece]"], unfollowed := true, recurses := true, apart := false }
def JoinGoneSaid : Prop := joinGoneRow.holds Try.pinned (OpenSpec.ofChange joinGoneSpec)

/-- ITS FALSE NEIGHBOUR: 'it returns false'. Refute it at one input. -/
def joinGoneWrong : ChangeSpec := { name := "joinGone", fn := fun _ => fun
  | [d] => { results := [.lit (.bool false)], args := [d] }
  | _ => none }
def JoinGoneWrongFalsely : Prop := joinGoneRow.holds Try.pinned (OpenSpec.ofChange joinGoneWrong)

/-- 'goosepondlaw16.JoinNobody': WHATEVER THE INPUT: true; the input reads as it did. -/
def joinNobodySpec : ChangeSpec := { name := "joinNobody", fn := fun _ => fun
  | [d1, d2, d3, d4] => { results := [.lit (.bool true)], args := [d1, d2, d3, d4] }
  | _ => none }
def joinNobodyRow : OpenClaim := { program := "ytcoolonmnjacfaa", sum := "e33d7017bcec2c3ecec8639f7faeda8b8f92d0a92411847dae7ec66ca0bd6c83", func := "goosepond/goosepondlaw16.JoinNobody", spec := "joinNobody", inPlace := ["slices.overlaps[goosepond/holes.piece]"], unfollowed := true, recurses := true, apart := false }
def JoinNobodySaid : Prop := joinNobodyRow.holds Try.pinned (OpenSpec.ofChange joinNobodySpec)

/-- ITS FALSE NEIGHBOUR: 'it returns false'. Refute it at one input. -/
def joinNobodyWrong : ChangeSpec := { name := "joinNobody", fn := fun _ => fun
  | [d1, d2, d3, d4] => { results := [.lit (.bool false)], args := [d1, d2, d3, d4] }
  | _ => none }
def JoinNobodyWrongFalsely : Prop := joinNobodyRow.holds Try.pinned (OpenSpec.ofChange joinNobodyWrong)

/-- 'goosepondlaw16.JoinLives': WHATEVER THE INPUT: true; the input reads as it did. -/
def joinLivesSpec : ChangeSpec := { name := "joinLives", fn := fun _ => fun
  | [d1, d2, d3, d4] => { results := [.lit (.bool true)], args := [d1, d2, d3, d4] }
  | _ => none }
def joinLivesRow : OpenClaim := { program := "ytcoolonmnjacfaa", sum := "e33d7017bcec2c3ecec8639f7faeda8b8f92d0a92411847dae7ec66ca0bd6c83", func := "goosepond/goosepondlaw16.JoinLives", spec := "joinLives", inPlace := ["slices.overlaps[goosepond/holes.piece]"], unfollowed := true, recurses := true, apart := false }
def JoinLivesSaid : Prop := joinLivesRow.holds Try.pinned (OpenSpec.ofChange joinLivesSpec)

/-- ITS FALSE NEIGHBOUR: 'it returns false'. Refute it at one input. -/
def joinLivesWrong : ChangeSpec := { name := "joinLives", fn := fun _ => fun
  | [d1, d2, d3, d4] => { results := [.lit (.bool false)], args := [d1, d2, d3, d4] }
  | _ => none }
def JoinLivesWrongFalsely : Prop := joinLivesRow.holds Try.pinned (OpenSpec.ofChange joinLivesWrong)

/- THE SECOND FORM. 'bulk': how many values and letters a reading holds, each counted each time it is reached (what is shared counts as often as it is met; a slice's spare places count too). A statement '..UptoSaid' is the law's where the arguments, and the package variables that the reading takes, are together of bulk at most 1048576: NARROWER than '..Said'. Prove '..Said' where nothing that the law and all that it calls make is longer than what came in: it says more and counts as full. Else prove '..UptoSaid'. A law counts once. -/
mutual
def uptoBulk {H : Type} : DataW H → Nat
  | .lit (.string bytes) => bytes.length + 1
  | .lit _ => 1
  | .nil => 1
  | .ptr d => uptoBulk d + 1
  | .slice elems spare => uptoBulkAll elems + uptoBulkAll spare + 1
  | .agg parts => uptoBulkAll parts + 1
  | .iface _ d => uptoBulk d + 1
  | .map entries => uptoBulkEntries entries + 1
  | .held _ => 1
def uptoBulkAll {H : Type} : List (DataW H) → Nat
  | [] => 0
  | d :: r => uptoBulk d + uptoBulkAll r
def uptoBulkEntries {H : Type} : List (Lit × DataW H) → Nat
  | [] => 0
  | x :: r => uptoBulkEntry x + uptoBulkEntries r
def uptoBulkEntry {H : Type} : Lit × DataW H → Nat
  | (.string bytes, d) => bytes.length + uptoBulk d + 1
  | (_, d) => uptoBulk d + 1
 end
def uptoSmall : (H : Type) → List (DataW H) → Bool := fun _ ds => decide (uptoBulkAll ds ≤ 1048576)
def OpenSpec.upto (s : _root_.Go.ChangeSpec) : _root_.Go.OpenSpec := { _root_.Go.OpenSpec.ofChange s with cond := some uptoSmall }

/-- 'goosepondlaw16.JoinBounds', WHERE WHAT IT READS IS OF BULK AT MOST 1048576: true; the input reads as it did. -/
def joinBoundsUptoRow : OpenClaim := { program := "ytcoolonmnjacfaa", sum := "e33d7017bcec2c3ecec8639f7faeda8b8f92d0a92411847dae7ec66ca0bd6c83", func := "goosepond/goosepondlaw16.JoinBounds", spec := "joinBounds", inPlace := ["slices.overlaps[goosepond/holes.piece]"], unfollowed := true, recurses := true, apart := false, narrowed := true }
def JoinBoundsUptoSaid : Prop := joinBoundsUptoRow.holds Try.pinned (OpenSpec.upto joinBoundsSpec)

/-- 'goosepondlaw16.JoinGone', WHERE WHAT IT READS IS OF BULK AT MOST 1048576: true; the input reads as it did. -/
def joinGoneUptoRow : OpenClaim := { program := "ytcoolonmnjacfaa", sum := "e33d7017bcec2c3ecec8639f7faeda8b8f92d0a92411847dae7ec66ca0bd6c83", func := "goosepond/goosepondlaw16.JoinGone", spec := "joinGone", inPlace := ["slices.overlaps[goosepond/holes.piece]"], unfollowed := true, recurses := true, apart := false, narrowed := true }
def JoinGoneUptoSaid : Prop := joinGoneUptoRow.holds Try.pinned (OpenSpec.upto joinGoneSpec)

/-- 'goosepondlaw16.JoinNobody', WHERE WHAT IT READS IS OF BULK AT MOST 1048576: true; the input reads as it did. -/
def joinNobodyUptoRow : OpenClaim := { program := "ytcoolonmnjacfaa", sum := "e33d7017bcec2c3ecec8639f7faeda8b8f92d0a92411847dae7ec66ca0bd6c83", func := "goosepond/goosepondlaw16.JoinNobody", spec := "joinNobody", inPlace := ["slices.overlaps[goosepond/holes.piece]"], unfollowed := true, recurses := true, apart := false, narrowed := true }
def JoinNobodyUptoSaid : Prop := joinNobodyUptoRow.holds Try.pinned (OpenSpec.upto joinNobodySpec)

/-- 'goosepondlaw16.JoinLives', WHERE WHAT IT READS IS OF BULK AT MOST 1048576: true; the input reads as it did. -/
def joinLivesUptoRow : OpenClaim := { program := "ytcoolonmnjacfaa", sum := "e33d7017bcec2c3ecec8639f7faeda8b8f92d0a92411847dae7ec66ca0bd6c83", func := "goosepond/goosepondlaw16.JoinLives", spec := "joinLives", inPlace := ["slices.overlaps[goosepond/holes.piece]"], unfollowed := true, recurses := true, apart := false, narrowed := true }
def JoinLivesUptoSaid : Prop := joinLivesUptoRow.holds Try.pinned (OpenSpec.upto joinLivesSpec)

end Rows
end Go.Proofs.Ytcoolonmnjacfaa
