/-
  No cell of these rows narrows 'for every input' (looked for: loops, veiled, ifaces, maps, wideKeys, modest, calm, conditions, laid).
  DERIVED. THE GIVEN ROWS OF THIS SEAT. 6 by the template 'for every input the law returns true; each argument reads behind the call as it read before'; 0 by the template 'total and deterministic' (their statements: YtjejhaefbhbghaaTotals.lean).
  GIVEN WITH THE SEED: the statements are not yours to turn. If you find one false, say at which input.
  Laid BY PROGRAM, IN A SANDBOX (cutbox-rows.mjs): the forced cells as the released guide's own fill.sh prints them over the translation bff5c2d5a44a7003… (all of the seat's roots in one cut). By AI agents, Wed Nov 11 2026. No macro, syntax, notation, axiom, sorry.
-/
import Derived.Test.YtjejhaefbhbghaaChecked
import GoSem.Claim
import GoSem.ClaimJoined
import GoSem.ClaimMapViews
import Derived.JoinedTies
import Derived.KernelRfl
namespace Go.Proofs.Ytjejhaefbhbghaa
/- THE CELL 'sum', in the pinned program and in every row, IS THE sha256 OF THE DUMP (.gsa) THAT YtjejhaefbhbghaaProg.lean LOADS. Nothing in Lean hashes anything: it is a label: what it is worth is what the hold of that sum in a sandbox is worth. -/
noncomputable def Try.pinned : Pinned := { name := "ytjejhaefbhbghaa", sum := "bff5c2d5a44a700360a585826af5c836462ef6d2109937f266d0c45f0e80965e", checked := Try.checked }
namespace Rows
def none {H : Type} : Left H := { results := [], args := [] }

/-- 'goosepondlaw19.PoolOnce': WHATEVER THE INPUT: true; the input reads as it did. -/
def poolOnceSpec : ChangeSpec := { name := "poolOnce", fn := fun _ => fun
  | [d1, d2, d3] => { results := [.lit (.bool true)], args := [d1, d2, d3] }
  | _ => none }
def poolOnceRow : OpenClaim := { program := "ytjejhaefbhbghaa", sum := "bff5c2d5a44a700360a585826af5c836462ef6d2109937f266d0c45f0e80965e", func := "goosepond/goosepondlaw19.PoolOnce", spec := "poolOnce", unfollowed := true, recurses := true, plainKeys := false, apart := false }
def PoolOnceSaid : Prop := poolOnceRow.holds Try.pinned (OpenSpec.ofChange poolOnceSpec)

/-- ITS FALSE NEIGHBOUR: 'it returns false'. Refute it at one input. -/
def poolOnceWrong : ChangeSpec := { name := "poolOnce", fn := fun _ => fun
  | [d1, d2, d3] => { results := [.lit (.bool false)], args := [d1, d2, d3] }
  | _ => none }
def PoolOnceWrongFalsely : Prop := poolOnceRow.holds Try.pinned (OpenSpec.ofChange poolOnceWrong)

/-- 'goosepondlaw20.ConfigChecks': WHATEVER THE INPUT: true; the input reads as it did. -/
def configChecksSpec : ChangeSpec := { name := "configChecks", fn := fun _ => fun
  | [d1, d2, d3, d4] => { results := [.lit (.bool true)], args := [d1, d2, d3, d4] }
  | _ => none }
def configChecksRow : OpenClaim := { program := "ytjejhaefbhbghaa", sum := "bff5c2d5a44a700360a585826af5c836462ef6d2109937f266d0c45f0e80965e", func := "goosepond/goosepondlaw20.ConfigChecks", spec := "configChecks", unfollowed := true, recurses := true, plainKeys := false, apart := false }
def ConfigChecksSaid : Prop := configChecksRow.holds Try.pinned (OpenSpec.ofChange configChecksSpec)

/-- ITS FALSE NEIGHBOUR: 'it returns false'. Refute it at one input. -/
def configChecksWrong : ChangeSpec := { name := "configChecks", fn := fun _ => fun
  | [d1, d2, d3, d4] => { results := [.lit (.bool false)], args := [d1, d2, d3, d4] }
  | _ => none }
def ConfigChecksWrongFalsely : Prop := configChecksRow.holds Try.pinned (OpenSpec.ofChange configChecksWrong)

/-- 'goosepondlaw20.ConfigWaits': WHATEVER THE INPUT: true; the input reads as it did. -/
def configWaitsSpec : ChangeSpec := { name := "configWaits", fn := fun _ => fun
  | [d1, d2] => { results := [.lit (.bool true)], args := [d1, d2] }
  | _ => none }
def configWaitsRow : OpenClaim := { program := "ytjejhaefbhbghaa", sum := "bff5c2d5a44a700360a585826af5c836462ef6d2109937f266d0c45f0e80965e", func := "goosepond/goosepondlaw20.ConfigWaits", spec := "configWaits", unfollowed := true, recurses := true, plainKeys := false, apart := false }
def ConfigWaitsSaid : Prop := configWaitsRow.holds Try.pinned (OpenSpec.ofChange configWaitsSpec)

/-- ITS FALSE NEIGHBOUR: 'it returns false'. Refute it at one input. -/
def configWaitsWrong : ChangeSpec := { name := "configWaits", fn := fun _ => fun
  | [d1, d2] => { results := [.lit (.bool false)], args := [d1, d2] }
  | _ => none }
def ConfigWaitsWrongFalsely : Prop := configWaitsRow.holds Try.pinned (OpenSpec.ofChange configWaitsWrong)

/-- 'goosepondlaw20.ConfigBase': WHATEVER THE INPUT: true; the input reads as it did. -/
def configBaseSpec : ChangeSpec := { name := "configBase", fn := fun _ => fun
  | [d1, d2] => { results := [.lit (.bool true)], args := [d1, d2] }
  | _ => none }
def configBaseRow : OpenClaim := { program := "ytjejhaefbhbghaa", sum := "bff5c2d5a44a700360a585826af5c836462ef6d2109937f266d0c45f0e80965e", func := "goosepond/goosepondlaw20.ConfigBase", spec := "configBase", unfollowed := true, recurses := true, plainKeys := false, apart := false }
def ConfigBaseSaid : Prop := configBaseRow.holds Try.pinned (OpenSpec.ofChange configBaseSpec)

/-- ITS FALSE NEIGHBOUR: 'it returns false'. Refute it at one input. -/
def configBaseWrong : ChangeSpec := { name := "configBase", fn := fun _ => fun
  | [d1, d2] => { results := [.lit (.bool false)], args := [d1, d2] }
  | _ => none }
def ConfigBaseWrongFalsely : Prop := configBaseRow.holds Try.pinned (OpenSpec.ofChange configBaseWrong)

/-- 'goosepondlaw38.ViewEmpty': WHATEVER THE INPUT: true; the input reads as it did. -/
def viewEmptySpec : ChangeSpec := { name := "viewEmpty", fn := fun _ => fun
  | [d1, d2] => { results := [.lit (.bool true)], args := [d1, d2] }
  | _ => none }
def viewEmptyRow : OpenClaim := { program := "ytjejhaefbhbghaa", sum := "bff5c2d5a44a700360a585826af5c836462ef6d2109937f266d0c45f0e80965e", func := "goosepond/goosepondlaw38.ViewEmpty", spec := "viewEmpty", unfollowed := true, recurses := true, plainKeys := false, apart := false }
def ViewEmptySaid : Prop := viewEmptyRow.holds Try.pinned (OpenSpec.ofChange viewEmptySpec)

/-- ITS FALSE NEIGHBOUR: 'it returns false'. Refute it at one input. -/
def viewEmptyWrong : ChangeSpec := { name := "viewEmpty", fn := fun _ => fun
  | [d1, d2] => { results := [.lit (.bool false)], args := [d1, d2] }
  | _ => none }
def ViewEmptyWrongFalsely : Prop := viewEmptyRow.holds Try.pinned (OpenSpec.ofChange viewEmptyWrong)

/-- 'goosepondlaw38.ViewOwns': WHATEVER THE INPUT: true; the input reads as it did. -/
def viewOwnsSpec : ChangeSpec := { name := "viewOwns", fn := fun _ => fun
  | [d1, d2] => { results := [.lit (.bool true)], args := [d1, d2] }
  | _ => none }
def viewOwnsRow : OpenClaim := { program := "ytjejhaefbhbghaa", sum := "bff5c2d5a44a700360a585826af5c836462ef6d2109937f266d0c45f0e80965e", func := "goosepond/goosepondlaw38.ViewOwns", spec := "viewOwns", unfollowed := true, recurses := true, plainKeys := false, apart := false }
def ViewOwnsSaid : Prop := viewOwnsRow.holds Try.pinned (OpenSpec.ofChange viewOwnsSpec)

/-- ITS FALSE NEIGHBOUR: 'it returns false'. Refute it at one input. -/
def viewOwnsWrong : ChangeSpec := { name := "viewOwns", fn := fun _ => fun
  | [d1, d2] => { results := [.lit (.bool false)], args := [d1, d2] }
  | _ => none }
def ViewOwnsWrongFalsely : Prop := viewOwnsRow.holds Try.pinned (OpenSpec.ofChange viewOwnsWrong)

/- THE SECOND FORM. 'bulk': how many values and letters a reading holds, each counted each time it is reached (what is shared counts as often as it is met; a slice's spare places count too). A statement '..UptoSaid' is the law's where the arguments, and the package variables that the reading takes, are together of bulk at most 1048576: NARROWER than '..Said'. Prove '..Said' where nothing that the law and all that it calls make is longer than what came in: it says more and counts as full. Else prove '..UptoSaid'. A law counts once. -/
mutual
def uptoBulk {H : Type} : DataW H → Nat
  | .lit (.string bytes) => bytes.length + 1
  | .lit _ => 1
  | .nil => 1
  | .ptr d => uptoBulk d + 1
  | .slice elems spare => uptoBulkAll elems + uptoBulkAll spare + 1
  | .agg parts => uptoBulkAll parts + 1
  | .iface _ d => uptoBulk d + 1
  | .map entries => uptoBulkEntries entries + 1
  | .held _ => 1
def uptoBulkAll {H : Type} : List (DataW H) → Nat
  | [] => 0
  | d :: r => uptoBulk d + uptoBulkAll r
def uptoBulkEntries {H : Type} : List (Lit × DataW H) → Nat
  | [] => 0
  | x :: r => uptoBulkEntry x + uptoBulkEntries r
def uptoBulkEntry {H : Type} : Lit × DataW H → Nat
  | (.string bytes, d) => bytes.length + uptoBulk d + 1
  | (_, d) => uptoBulk d + 1
 end
def uptoSmall : (H : Type) → List (DataW H) → Bool := fun _ ds => decide (uptoBulkAll ds ≤ 1048576)
def OpenSpec.upto (s : _root_.Go.ChangeSpec) : _root_.Go.OpenSpec := { _root_.Go.OpenSpec.ofChange s with cond := some uptoSmall }

/-- 'goosepondlaw19.PoolOnce', WHERE WHAT IT READS IS OF BULK AT MOST 1048576: true; the input reads as it did. -/
def poolOnceUptoRow : OpenClaim := { program := "ytjejhaefbhbghaa", sum := "bff5c2d5a44a700360a585826af5c836462ef6d2109937f266d0c45f0e80965e", func := "goosepond/goosepondlaw19.PoolOnce", spec := "poolOnce", unfollowed := true, recurses := true, plainKeys := false, apart := false, narrowed := true }
def PoolOnceUptoSaid : Prop := poolOnceUptoRow.holds Try.pinned (OpenSpec.upto poolOnceSpec)

/-- 'goosepondlaw20.ConfigChecks', WHERE WHAT IT READS IS OF BULK AT MOST 1048576: true; the input reads as it did. -/
def configChecksUptoRow : OpenClaim := { program := "ytjejhaefbhbghaa", sum := "bff5c2d5a44a700360a585826af5c836462ef6d2109937f266d0c45f0e80965e", func := "goosepond/goosepondlaw20.ConfigChecks", spec := "configChecks", unfollowed := true, recurses := true, plainKeys := false, apart := false, narrowed := true }
def ConfigChecksUptoSaid : Prop := configChecksUptoRow.holds Try.pinned (OpenSpec.upto configChecksSpec)

/-- 'goosepondlaw20.ConfigWaits', WHERE WHAT IT READS IS OF BULK AT MOST 1048576: true; the input reads as it did. -/
def configWaitsUptoRow : OpenClaim := { program := "ytjejhaefbhbghaa", sum := "bff5c2d5a44a700360a585826af5c836462ef6d2109937f266d0c45f0e80965e", func := "goosepond/goosepondlaw20.ConfigWaits", spec := "configWaits", unfollowed := true, recurses := true, plainKeys := false, apart := false, narrowed := true }
def ConfigWaitsUptoSaid : Prop := configWaitsUptoRow.holds Try.pinned (OpenSpec.upto configWaitsSpec)

/-- 'goosepondlaw20.ConfigBase', WHERE WHAT IT READS IS OF BULK AT MOST 1048576: true; the input reads as it did. -/
def configBaseUptoRow : OpenClaim := { program := "ytjejhaefbhbghaa", sum := "bff5c2d5a44a700360a585826af5c836462ef6d2109937f266d0c45f0e80965e", func := "goosepond/goosepondlaw20.ConfigBase", spec := "configBase", unfollowed := true, recurses := true, plainKeys := false, apart := false, narrowed := true }
def ConfigBaseUptoSaid : Prop := configBaseUptoRow.holds Try.pinned (OpenSpec.upto configBaseSpec)

/-- 'goosepondlaw38.ViewEmpty', WHERE WHAT IT READS IS OF BULK AT MOST 1048576: true; the input reads as it did. -/
def viewEmptyUptoRow : OpenClaim := { program := "ytjejhaefbhbghaa", sum := "bff5c2d5a44a700360a585826af5c836462ef6d2109937f266d0c45f0e80965e", func := "goosepond/goosepondlaw38.ViewEmpty", spec := "viewEmpty", unfollowed := true, recurses := true, plainKeys := false, apart := false, narrowed := true }
def ViewEmptyUptoSaid : Prop := viewEmptyUptoRow.holds Try.pinned (OpenSpec.upto viewEmptySpec)

/-- 'goosepondlaw38.ViewOwns', WHERE WHAT IT READS IS OF BULK AT MOST 1048576: true; the input reads as it did. -/
def viewOwnsUptoRow : OpenClaim := { program := "ytjejhaefbhbghaa", sum := "bff5c2d5a44a700360a585826af5c836462ef6d2109937f266d0c45f0e80965e", func := "goosepond/goosepondlaw38.ViewOwns", spec := "viewOwns", unfollowed := true, recurses := true, plainKeys := false, apart := false, narrowed := true }
def ViewOwnsUptoSaid : Prop := viewOwnsUptoRow.holds Try.pinned (OpenSpec.upto viewOwnsSpec)

end Rows
end Go.Proofs.Ytjejhaefbhbghaa
