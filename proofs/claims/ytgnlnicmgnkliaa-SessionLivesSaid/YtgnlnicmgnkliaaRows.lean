/-
  No cell of these rows narrows 'for every input' (looked for: loops, veiled, ifaces, maps, wideKeys, modest, calm, conditions, laid).
  DERIVED. THE GIVEN ROWS OF THIS SEAT. 6 by the template 'for every input the law returns true; each argument reads behind the call as it read before'; 0 by the template 'total and deterministic' (their statements: YtgnlnicmgnkliaaTotals.lean).
  GIVEN WITH THE SEED: the statements are not yours to turn. If you find one false, say at which input.
  Laid BY PROGRAM, IN A SANDBOX (cutbox-rows.mjs): the forced cells as the released guide's own fill.sh prints them over the translation d179dc5275496bc9… (all of the seat's roots in one cut). By AI agents, Wed Nov 11 2026. No macro, syntax, notation, axiom, sorry.
-/
import Derived.Test.YtgnlnicmgnkliaaChecked
import GoSem.Claim
import GoSem.ClaimJoined
import GoSem.ClaimMapViews
import Derived.JoinedTies
import Derived.KernelRfl
namespace Go.Proofs.Ytgnlnicmgnkliaa
/- THE CELL 'sum', in the pinned program and in every row, IS THE sha256 OF THE DUMP (.gsa) THAT YtgnlnicmgnkliaaProg.lean LOADS. Nothing in Lean hashes anything: it is a label: what it is worth is what the hold of that sum in a sandbox is worth. -/
noncomputable def Try.pinned : Pinned := { name := "ytgnlnicmgnkliaa", sum := "d179dc5275496bc980ccb785f849d84cc0d665b450c565ade6b0c20f9f331919", checked := Try.checked }
namespace Rows
def none {H : Type} : Left H := { results := [], args := [] }

/-- 'goosepondlaw22.BindInjective': WHATEVER THE INPUT: true; the input reads as it did. -/
def bindInjectiveSpec : ChangeSpec := { name := "bindInjective", fn := fun _ => fun
  | [d] => { results := [.lit (.bool true)], args := [d] }
  | _ => none }
def bindInjectiveRow : OpenClaim := { program := "ytgnlnicmgnkliaa", sum := "d179dc5275496bc980ccb785f849d84cc0d665b450c565ade6b0c20f9f331919", func := "goosepond/goosepondlaw22.BindInjective", spec := "bindInjective", unfollowed := true, recurses := true, plainKeys := false, apart := false }
def BindInjectiveSaid : Prop := bindInjectiveRow.holds Try.pinned (OpenSpec.ofChange bindInjectiveSpec)

/-- ITS FALSE NEIGHBOUR: 'it returns false'. Refute it at one input. -/
def bindInjectiveWrong : ChangeSpec := { name := "bindInjective", fn := fun _ => fun
  | [d] => { results := [.lit (.bool false)], args := [d] }
  | _ => none }
def BindInjectiveWrongFalsely : Prop := bindInjectiveRow.holds Try.pinned (OpenSpec.ofChange bindInjectiveWrong)

/-- 'goosepondlaw22.BindLives': WHATEVER THE INPUT: true; the input reads as it did. -/
def bindLivesSpec : ChangeSpec := { name := "bindLives", fn := fun _ => fun
  | [d1, d2] => { results := [.lit (.bool true)], args := [d1, d2] }
  | _ => none }
def bindLivesRow : OpenClaim := { program := "ytgnlnicmgnkliaa", sum := "d179dc5275496bc980ccb785f849d84cc0d665b450c565ade6b0c20f9f331919", func := "goosepond/goosepondlaw22.BindLives", spec := "bindLives", unfollowed := true, recurses := true, plainKeys := false, apart := false }
def BindLivesSaid : Prop := bindLivesRow.holds Try.pinned (OpenSpec.ofChange bindLivesSpec)

/-- ITS FALSE NEIGHBOUR: 'it returns false'. Refute it at one input. -/
def bindLivesWrong : ChangeSpec := { name := "bindLives", fn := fun _ => fun
  | [d1, d2] => { results := [.lit (.bool false)], args := [d1, d2] }
  | _ => none }
def BindLivesWrongFalsely : Prop := bindLivesRow.holds Try.pinned (OpenSpec.ofChange bindLivesWrong)

/-- 'goosepondlaw22.BindNobody': WHATEVER THE INPUT: true; the input reads as it did. -/
def bindNobodySpec : ChangeSpec := { name := "bindNobody", fn := fun _ => fun
  | [d1, d2] => { results := [.lit (.bool true)], args := [d1, d2] }
  | _ => none }
def bindNobodyRow : OpenClaim := { program := "ytgnlnicmgnkliaa", sum := "d179dc5275496bc980ccb785f849d84cc0d665b450c565ade6b0c20f9f331919", func := "goosepond/goosepondlaw22.BindNobody", spec := "bindNobody", unfollowed := true, recurses := true, plainKeys := false, apart := false }
def BindNobodySaid : Prop := bindNobodyRow.holds Try.pinned (OpenSpec.ofChange bindNobodySpec)

/-- ITS FALSE NEIGHBOUR: 'it returns false'. Refute it at one input. -/
def bindNobodyWrong : ChangeSpec := { name := "bindNobody", fn := fun _ => fun
  | [d1, d2] => { results := [.lit (.bool false)], args := [d1, d2] }
  | _ => none }
def BindNobodyWrongFalsely : Prop := bindNobodyRow.holds Try.pinned (OpenSpec.ofChange bindNobodyWrong)

/-- 'goosepondlaw24.SessionOnce': WHATEVER THE INPUT: true; the input reads as it did. -/
def sessionOnceSpec : ChangeSpec := { name := "sessionOnce", fn := fun _ => fun
  | [d] => { results := [.lit (.bool true)], args := [d] }
  | _ => none }
def sessionOnceRow : OpenClaim := { program := "ytgnlnicmgnkliaa", sum := "d179dc5275496bc980ccb785f849d84cc0d665b450c565ade6b0c20f9f331919", func := "goosepond/goosepondlaw24.SessionOnce", spec := "sessionOnce", inPlace := ["slices.overlaps[int]"], unfollowed := true, recurses := true, plainKeys := false, apart := false }
def SessionOnceSaid : Prop := sessionOnceRow.holds Try.pinned (OpenSpec.ofChange sessionOnceSpec)

/-- ITS FALSE NEIGHBOUR: 'it returns false'. Refute it at one input. -/
def sessionOnceWrong : ChangeSpec := { name := "sessionOnce", fn := fun _ => fun
  | [d] => { results := [.lit (.bool false)], args := [d] }
  | _ => none }
def SessionOnceWrongFalsely : Prop := sessionOnceRow.holds Try.pinned (OpenSpec.ofChange sessionOnceWrong)

/-- 'goosepondlaw24.SessionNobody': WHATEVER THE INPUT: true; the input reads as it did. -/
def sessionNobodySpec : ChangeSpec := { name := "sessionNobody", fn := fun _ => fun
  | [d1, d2] => { results := [.lit (.bool true)], args := [d1, d2] }
  | _ => none }
def sessionNobodyRow : OpenClaim := { program := "ytgnlnicmgnkliaa", sum := "d179dc5275496bc980ccb785f849d84cc0d665b450c565ade6b0c20f9f331919", func := "goosepond/goosepondlaw24.SessionNobody", spec := "sessionNobody", inPlace := ["slices.overlaps[int]"], unfollowed := true, recurses := true, plainKeys := false, apart := false }
def SessionNobodySaid : Prop := sessionNobodyRow.holds Try.pinned (OpenSpec.ofChange sessionNobodySpec)

/-- ITS FALSE NEIGHBOUR: 'it returns false'. Refute it at one input. -/
def sessionNobodyWrong : ChangeSpec := { name := "sessionNobody", fn := fun _ => fun
  | [d1, d2] => { results := [.lit (.bool false)], args := [d1, d2] }
  | _ => none }
def SessionNobodyWrongFalsely : Prop := sessionNobodyRow.holds Try.pinned (OpenSpec.ofChange sessionNobodyWrong)

/-- 'goosepondlaw24.SessionLives': WHATEVER THE INPUT: true; the input reads as it did. -/
def sessionLivesSpec : ChangeSpec := { name := "sessionLives", fn := fun _ => fun
  | [d1, d2] => { results := [.lit (.bool true)], args := [d1, d2] }
  | _ => none }
def sessionLivesRow : OpenClaim := { program := "ytgnlnicmgnkliaa", sum := "d179dc5275496bc980ccb785f849d84cc0d665b450c565ade6b0c20f9f331919", func := "goosepond/goosepondlaw24.SessionLives", spec := "sessionLives", inPlace := ["slices.overlaps[int]"], unfollowed := true, recurses := true, plainKeys := false, apart := false }
def SessionLivesSaid : Prop := sessionLivesRow.holds Try.pinned (OpenSpec.ofChange sessionLivesSpec)

/-- ITS FALSE NEIGHBOUR: 'it returns false'. Refute it at one input. -/
def sessionLivesWrong : ChangeSpec := { name := "sessionLives", fn := fun _ => fun
  | [d1, d2] => { results := [.lit (.bool false)], args := [d1, d2] }
  | _ => none }
def SessionLivesWrongFalsely : Prop := sessionLivesRow.holds Try.pinned (OpenSpec.ofChange sessionLivesWrong)

/- THE SECOND FORM. 'bulk': how many values and letters a reading holds, each counted each time it is reached (what is shared counts as often as it is met; a slice's spare places count too). A statement '..UptoSaid' is the law's where the arguments, and the package variables that the reading takes, are together of bulk at most 1048576: NARROWER than '..Said'. Prove '..Said' where nothing that the law and all that it calls make is longer than what came in: it says more and counts as full. Else prove '..UptoSaid'. A law counts once. -/
mutual
def uptoBulk {H : Type} : DataW H → Nat
  | .lit (.string bytes) => bytes.length + 1
  | .lit _ => 1
  | .nil => 1
  | .ptr d => uptoBulk d + 1
  | .slice elems spare => uptoBulkAll elems + uptoBulkAll spare + 1
  | .agg parts => uptoBulkAll parts + 1
  | .iface _ d => uptoBulk d + 1
  | .map entries => uptoBulkEntries entries + 1
  | .held _ => 1
def uptoBulkAll {H : Type} : List (DataW H) → Nat
  | [] => 0
  | d :: r => uptoBulk d + uptoBulkAll r
def uptoBulkEntries {H : Type} : List (Lit × DataW H) → Nat
  | [] => 0
  | x :: r => uptoBulkEntry x + uptoBulkEntries r
def uptoBulkEntry {H : Type} : Lit × DataW H → Nat
  | (.string bytes, d) => bytes.length + uptoBulk d + 1
  | (_, d) => uptoBulk d + 1
 end
def uptoSmall : (H : Type) → List (DataW H) → Bool := fun _ ds => decide (uptoBulkAll ds ≤ 1048576)
def OpenSpec.upto (s : _root_.Go.ChangeSpec) : _root_.Go.OpenSpec := { _root_.Go.OpenSpec.ofChange s with cond := some uptoSmall }

/-- 'goosepondlaw22.BindInjective', WHERE WHAT IT READS IS OF BULK AT MOST 1048576: true; the input reads as it did. -/
def bindInjectiveUptoRow : OpenClaim := { program := "ytgnlnicmgnkliaa", sum := "d179dc5275496bc980ccb785f849d84cc0d665b450c565ade6b0c20f9f331919", func := "goosepond/goosepondlaw22.BindInjective", spec := "bindInjective", unfollowed := true, recurses := true, plainKeys := false, apart := false, narrowed := true }
def BindInjectiveUptoSaid : Prop := bindInjectiveUptoRow.holds Try.pinned (OpenSpec.upto bindInjectiveSpec)

/-- 'goosepondlaw22.BindLives', WHERE WHAT IT READS IS OF BULK AT MOST 1048576: true; the input reads as it did. -/
def bindLivesUptoRow : OpenClaim := { program := "ytgnlnicmgnkliaa", sum := "d179dc5275496bc980ccb785f849d84cc0d665b450c565ade6b0c20f9f331919", func := "goosepond/goosepondlaw22.BindLives", spec := "bindLives", unfollowed := true, recurses := true, plainKeys := false, apart := false, narrowed := true }
def BindLivesUptoSaid : Prop := bindLivesUptoRow.holds Try.pinned (OpenSpec.upto bindLivesSpec)

/-- 'goosepondlaw22.BindNobody', WHERE WHAT IT READS IS OF BULK AT MOST 1048576: true; the input reads as it did. -/
def bindNobodyUptoRow : OpenClaim := { program := "ytgnlnicmgnkliaa", sum := "d179dc5275496bc980ccb785f849d84cc0d665b450c565ade6b0c20f9f331919", func := "goosepond/goosepondlaw22.BindNobody", spec := "bindNobody", unfollowed := true, recurses := true, plainKeys := false, apart := false, narrowed := true }
def BindNobodyUptoSaid : Prop := bindNobodyUptoRow.holds Try.pinned (OpenSpec.upto bindNobodySpec)

/-- 'goosepondlaw24.SessionOnce', WHERE WHAT IT READS IS OF BULK AT MOST 1048576: true; the input reads as it did. -/
def sessionOnceUptoRow : OpenClaim := { program := "ytgnlnicmgnkliaa", sum := "d179dc5275496bc980ccb785f849d84cc0d665b450c565ade6b0c20f9f331919", func := "goosepond/goosepondlaw24.SessionOnce", spec := "sessionOnce", inPlace := ["slices.overlaps[int]"], unfollowed := true, recurses := true, plainKeys := false, apart := false, narrowed := true }
def SessionOnceUptoSaid : Prop := sessionOnceUptoRow.holds Try.pinned (OpenSpec.upto sessionOnceSpec)

/-- 'goosepondlaw24.SessionNobody', WHERE WHAT IT READS IS OF BULK AT MOST 1048576: true; the input reads as it did. -/
def sessionNobodyUptoRow : OpenClaim := { program := "ytgnlnicmgnkliaa", sum := "d179dc5275496bc980ccb785f849d84cc0d665b450c565ade6b0c20f9f331919", func := "goosepond/goosepondlaw24.SessionNobody", spec := "sessionNobody", inPlace := ["slices.overlaps[int]"], unfollowed := true, recurses := true, plainKeys := false, apart := false, narrowed := true }
def SessionNobodyUptoSaid : Prop := sessionNobodyUptoRow.holds Try.pinned (OpenSpec.upto sessionNobodySpec)

/-- 'goosepondlaw24.SessionLives', WHERE WHAT IT READS IS OF BULK AT MOST 1048576: true; the input reads as it did. -/
def sessionLivesUptoRow : OpenClaim := { program := "ytgnlnicmgnkliaa", sum := "d179dc5275496bc980ccb785f849d84cc0d665b450c565ade6b0c20f9f331919", func := "goosepond/goosepondlaw24.SessionLives", spec := "sessionLives", inPlace := ["slices.overlaps[int]"], unfollowed := true, recurses := true, plainKeys := false, apart := false, narrowed := true }
def SessionLivesUptoSaid : Prop := sessionLivesUptoRow.holds Try.pinned (OpenSpec.upto sessionLivesSpec)

end Rows
end Go.Proofs.Ytgnlnicmgnkliaa
