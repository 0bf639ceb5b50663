/-
  No cell of these rows narrows 'for every input' (looked for: loops, veiled, ifaces, maps, wideKeys, modest, calm, conditions, laid).
  DERIVED. THE GIVEN ROWS OF THIS SEAT. 5 by the template 'for every input the law returns true; each argument reads behind the call as it read before'; 0 by the template 'total and deterministic' (their statements: YtcnkafgimclghaaTotals.lean).
  GIVEN WITH THE SEED: the statements are not yours to turn. If you find one false, say at which input.
  Laid BY PROGRAM, IN A SANDBOX (cutbox-rows.mjs): the forced cells as the released guide's own fill.sh prints them over the translation 57477987f2048a7b… (all of the seat's roots in one cut). By AI agents, Wed Nov 11 2026. No macro, syntax, notation, axiom, sorry.
-/
import Derived.Test.YtcnkafgimclghaaChecked
import GoSem.Claim
import GoSem.ClaimJoined
import GoSem.ClaimMapViews
import Derived.JoinedTies
import Derived.KernelRfl
namespace Go.Proofs.Ytcnkafgimclghaa
/- THE CELL 'sum', in the pinned program and in every row, IS THE sha256 OF THE DUMP (.gsa) THAT YtcnkafgimclghaaProg.lean LOADS. Nothing in Lean hashes anything: it is a label: what it is worth is what the hold of that sum in a sandbox is worth. -/
noncomputable def Try.pinned : Pinned := { name := "ytcnkafgimclghaa", sum := "57477987f2048a7b45179066c55dbe2e4aa7ad99b10d01d01a0246819799ec38", checked := Try.checked }
namespace Rows
def none {H : Type} : Left H := { results := [], args := [] }

/-- 'goosepondlaw30.RelayTable': WHATEVER THE INPUT: true; the input reads as it did. -/
def relayTableSpec : ChangeSpec := { name := "relayTable", fn := fun _ => fun
  | [d1, d2, d3] => { results := [.lit (.bool true)], args := [d1, d2, d3] }
  | _ => none }
def relayTableRow : OpenClaim := { program := "ytcnkafgimclghaa", sum := "57477987f2048a7b45179066c55dbe2e4aa7ad99b10d01d01a0246819799ec38", func := "goosepond/goosepondlaw30.RelayTable", spec := "relayTable", unfollowed := true, recurses := true, apart := false }
def RelayTableSaid : Prop := relayTableRow.holds Try.pinned (OpenSpec.ofChange relayTableSpec)

/-- ITS FALSE NEIGHBOUR: 'it returns false'. Refute it at one input. -/
def relayTableWrong : ChangeSpec := { name := "relayTable", fn := fun _ => fun
  | [d1, d2, d3] => { results := [.lit (.bool false)], args := [d1, d2, d3] }
  | _ => none }
def RelayTableWrongFalsely : Prop := relayTableRow.holds Try.pinned (OpenSpec.ofChange relayTableWrong)

/-- 'goosepondlaw30.RelayReaches': WHATEVER THE INPUT: true; the input reads as it did. -/
def relayReachesSpec : ChangeSpec := { name := "relayReaches", fn := fun _ => fun
  | [d1, d2, d3, d4, d5, d6] => { results := [.lit (.bool true)], args := [d1, d2, d3, d4, d5, d6] }
  | _ => none }
def relayReachesRow : OpenClaim := { program := "ytcnkafgimclghaa", sum := "57477987f2048a7b45179066c55dbe2e4aa7ad99b10d01d01a0246819799ec38", func := "goosepond/goosepondlaw30.RelayReaches", spec := "relayReaches", unfollowed := true, recurses := true, apart := false }
def RelayReachesSaid : Prop := relayReachesRow.holds Try.pinned (OpenSpec.ofChange relayReachesSpec)

/-- ITS FALSE NEIGHBOUR: 'it returns false'. Refute it at one input. -/
def relayReachesWrong : ChangeSpec := { name := "relayReaches", fn := fun _ => fun
  | [d1, d2, d3, d4, d5, d6] => { results := [.lit (.bool false)], args := [d1, d2, d3, d4, d5, d6] }
  | _ => none }
def RelayReachesWrongFalsely : Prop := relayReachesRow.holds Try.pinned (OpenSpec.ofChange relayReachesWrong)

/-- 'goosepondlaw30.RelayOnce': WHATEVER THE INPUT: true; the input reads as it did. -/
def relayOnceSpec : ChangeSpec := { name := "relayOnce", fn := fun _ => fun
  | [d1, d2, d3, d4] => { results := [.lit (.bool true)], args := [d1, d2, d3, d4] }
  | _ => none }
def relayOnceRow : OpenClaim := { program := "ytcnkafgimclghaa", sum := "57477987f2048a7b45179066c55dbe2e4aa7ad99b10d01d01a0246819799ec38", func := "goosepond/goosepondlaw30.RelayOnce", spec := "relayOnce", unfollowed := true, recurses := true, apart := false }
def RelayOnceSaid : Prop := relayOnceRow.holds Try.pinned (OpenSpec.ofChange relayOnceSpec)

/-- ITS FALSE NEIGHBOUR: 'it returns false'. Refute it at one input. -/
def relayOnceWrong : ChangeSpec := { name := "relayOnce", fn := fun _ => fun
  | [d1, d2, d3, d4] => { results := [.lit (.bool false)], args := [d1, d2, d3, d4] }
  | _ => none }
def RelayOnceWrongFalsely : Prop := relayOnceRow.holds Try.pinned (OpenSpec.ofChange relayOnceWrong)

/-- 'goosepondlaw30.RelayTells': WHATEVER THE INPUT: true; the input reads as it did. -/
def relayTellsSpec : ChangeSpec := { name := "relayTells", fn := fun _ => fun
  | [d1, d2, d3] => { results := [.lit (.bool true)], args := [d1, d2, d3] }
  | _ => none }
def relayTellsRow : OpenClaim := { program := "ytcnkafgimclghaa", sum := "57477987f2048a7b45179066c55dbe2e4aa7ad99b10d01d01a0246819799ec38", func := "goosepond/goosepondlaw30.RelayTells", spec := "relayTells", unfollowed := true, recurses := true, apart := false }
def RelayTellsSaid : Prop := relayTellsRow.holds Try.pinned (OpenSpec.ofChange relayTellsSpec)

/-- ITS FALSE NEIGHBOUR: 'it returns false'. Refute it at one input. -/
def relayTellsWrong : ChangeSpec := { name := "relayTells", fn := fun _ => fun
  | [d1, d2, d3] => { results := [.lit (.bool false)], args := [d1, d2, d3] }
  | _ => none }
def RelayTellsWrongFalsely : Prop := relayTellsRow.holds Try.pinned (OpenSpec.ofChange relayTellsWrong)

/-- 'goosepondlaw18.HashLives': WHATEVER THE INPUT: true; the input reads as it did. -/
def hashLivesSpec : ChangeSpec := { name := "hashLives", fn := fun _ => fun
  | [d1, d2] => { results := [.lit (.bool true)], args := [d1, d2] }
  | _ => none }
def hashLivesRow : OpenClaim := { program := "ytcnkafgimclghaa", sum := "57477987f2048a7b45179066c55dbe2e4aa7ad99b10d01d01a0246819799ec38", func := "goosepond/goosepondlaw18.HashLives", spec := "hashLives", unfollowed := true, recurses := true, apart := false }
def HashLivesSaid : Prop := hashLivesRow.holds Try.pinned (OpenSpec.ofChange hashLivesSpec)

/-- ITS FALSE NEIGHBOUR: 'it returns false'. Refute it at one input. -/
def hashLivesWrong : ChangeSpec := { name := "hashLives", fn := fun _ => fun
  | [d1, d2] => { results := [.lit (.bool false)], args := [d1, d2] }
  | _ => none }
def HashLivesWrongFalsely : Prop := hashLivesRow.holds Try.pinned (OpenSpec.ofChange hashLivesWrong)

/- THE SECOND FORM. 'bulk': how many values and letters a reading holds, each counted each time it is reached (what is shared counts as often as it is met; a slice's spare places count too). A statement '..UptoSaid' is the law's where the arguments, and the package variables that the reading takes, are together of bulk at most 1048576: NARROWER than '..Said'. Prove '..Said' where nothing that the law and all that it calls make is longer than what came in: it says more and counts as full. Else prove '..UptoSaid'. A law counts once. -/
mutual
def uptoBulk {H : Type} : DataW H → Nat
  | .lit (.string bytes) => bytes.length + 1
  | .lit _ => 1
  | .nil => 1
  | .ptr d => uptoBulk d + 1
  | .slice elems spare => uptoBulkAll elems + uptoBulkAll spare + 1
  | .agg parts => uptoBulkAll parts + 1
  | .iface _ d => uptoBulk d + 1
  | .map entries => uptoBulkEntries entries + 1
  | .held _ => 1
def uptoBulkAll {H : Type} : List (DataW H) → Nat
  | [] => 0
  | d :: r => uptoBulk d + uptoBulkAll r
def uptoBulkEntries {H : Type} : List (Lit × DataW H) → Nat
  | [] => 0
  | x :: r => uptoBulkEntry x + uptoBulkEntries r
def uptoBulkEntry {H : Type} : Lit × DataW H → Nat
  | (.string bytes, d) => bytes.length + uptoBulk d + 1
  | (_, d) => uptoBulk d + 1
 end
def uptoSmall : (H : Type) → List (DataW H) → Bool := fun _ ds => decide (uptoBulkAll ds ≤ 1048576)
def OpenSpec.upto (s : _root_.Go.ChangeSpec) : _root_.Go.OpenSpec := { _root_.Go.OpenSpec.ofChange s with cond := some uptoSmall }

/-- 'goosepondlaw30.RelayTable', WHERE WHAT IT READS IS OF BULK AT MOST 1048576: true; the input reads as it did. -/
def relayTableUptoRow : OpenClaim := { program := "ytcnkafgimclghaa", sum := "57477987f2048a7b45179066c55dbe2e4aa7ad99b10d01d01a0246819799ec38", func := "goosepond/goosepondlaw30.RelayTable", spec := "relayTable", unfollowed := true, recurses := true, apart := false, narrowed := true }
def RelayTableUptoSaid : Prop := relayTableUptoRow.holds Try.pinned (OpenSpec.upto relayTableSpec)

/-- 'goosepondlaw30.RelayReaches', WHERE WHAT IT READS IS OF BULK AT MOST 1048576: true; the input reads as it did. -/
def relayReachesUptoRow : OpenClaim := { program := "ytcnkafgimclghaa", sum := "57477987f2048a7b45179066c55dbe2e4aa7ad99b10d01d01a0246819799ec38", func := "goosepond/goosepondlaw30.RelayReaches", spec := "relayReaches", unfollowed := true, recurses := true, apart := false, narrowed := true }
def RelayReachesUptoSaid : Prop := relayReachesUptoRow.holds Try.pinned (OpenSpec.upto relayReachesSpec)

/-- 'goosepondlaw30.RelayOnce', WHERE WHAT IT READS IS OF BULK AT MOST 1048576: true; the input reads as it did. -/
def relayOnceUptoRow : OpenClaim := { program := "ytcnkafgimclghaa", sum := "57477987f2048a7b45179066c55dbe2e4aa7ad99b10d01d01a0246819799ec38", func := "goosepond/goosepondlaw30.RelayOnce", spec := "relayOnce", unfollowed := true, recurses := true, apart := false, narrowed := true }
def RelayOnceUptoSaid : Prop := relayOnceUptoRow.holds Try.pinned (OpenSpec.upto relayOnceSpec)

/-- 'goosepondlaw30.RelayTells', WHERE WHAT IT READS IS OF BULK AT MOST 1048576: true; the input reads as it did. -/
def relayTellsUptoRow : OpenClaim := { program := "ytcnkafgimclghaa", sum := "57477987f2048a7b45179066c55dbe2e4aa7ad99b10d01d01a0246819799ec38", func := "goosepond/goosepondlaw30.RelayTells", spec := "relayTells", unfollowed := true, recurses := true, apart := false, narrowed := true }
def RelayTellsUptoSaid : Prop := relayTellsUptoRow.holds Try.pinned (OpenSpec.upto relayTellsSpec)

/-- 'goosepondlaw18.HashLives', WHERE WHAT IT READS IS OF BULK AT MOST 1048576: true; the input reads as it did. -/
def hashLivesUptoRow : OpenClaim := { program := "ytcnkafgimclghaa", sum := "57477987f2048a7b45179066c55dbe2e4aa7ad99b10d01d01a0246819799ec38", func := "goosepond/goosepondlaw18.HashLives", spec := "hashLives", unfollowed := true, recurses := true, apart := false, narrowed := true }
def HashLivesUptoSaid : Prop := hashLivesUptoRow.holds Try.pinned (OpenSpec.upto hashLivesSpec)

end Rows
end Go.Proofs.Ytcnkafgimclghaa
