import Derived.Test.YtibalhhdladmbaaRows
import Derived.WalkKit
import Derived.ProofKit
import Derived.OpenShut
import Derived.ShutString
import Derived.ChangeOld
import Derived.Below
import Derived.Test.YtibalhhdladmbaaTyped
namespace Go.Proofs.Ytibalhhdladmbaa
open Go.ChangeShapes Go.WideShapes Go.ChangeAt Go.RowKit Gp
theorem own : ownKnob Try.prog.godebug = none := by kernel_rfl
theorem laidOut : laidOutB Try.prog = true := by kernel_rfl
abbrev v4Again_d0 : Desc := (.slice (.int .u8) 1)
/-- What the row asks of the law. -/
def v4Again_asks : Prop := ∀ (x0 : v4Again_d0.T) (w : World) (h0 : v4Again_d0.In w x0), Calls Try.prog 3 #[v4Again_d0.value x0] w fun e w' => e = .returned (.bool true) ∧ ∀ S, Fr8 w w' S
set_option maxRecDepth 100000 in
theorem v4Again_lifted (law : v4Again_asks) (os : Os) (started : os.Started) (H : Type) (enc : TypeId × Value → H) :
    ReturnsInHanded {} Try.checked os 3 .any (Rows.v4AgainSpec.pre6 enc Try.prog Try.f3 Rows.v4AgainRow.domain false) (Rows.v4AgainSpec.post enc Try.prog Try.f3 false true false false) := by
  refine returnsInHanded_of_change (C := Try.checked) own started (by kernel_rfl) Try.func3
    (ChangeSpec.witness6 (enc := enc) (C := Try.checked) false ⟨#[], #[.slice none 0 0], []⟩ 8 (by kernel_rfl) (by kernel_rfl) (by kernel_rfl) (by kernel_rfl)) ?_
  intro W base args ds gs before hval0 hW hcnd _
  have hval : ∀ (j : Nat) t v, Try.f3.params[j]? = some t → args[j]? = some v → Value.okWide Try.prog W .any base t v := hval0
  have hW' := hW
  obtain ⟨p, q, hA0, hV, rfl, hfz, hnd⟩ := hW
  have hA : DataW.TrodAll enc Try.prog W 0 (fun _ => true) true Try.f3.params.toList args.toList ds p := hA0
  rw [Try.params3] at hA hval
  obtain ⟨v0, vs0, d0, ds0, p0, q0, hargs, rfl, rfl, h0, r0⟩ := trodAll_cons hA
  obtain ⟨rfl, rfl, rfl⟩ := trodAll_nil r0
  obtain rfl : args = #[v0] := by cases args; simp_all
  obtain ⟨rfl, rfl⟩ := trodVars_none hV
  have lt0 : ∀ x ∈ p0, x.block < W.heap.size := by obtain ⟨m, hm⟩ := h0; exact DataW.trod_lt m _ _ _ hm
  obtain ⟨x0, rfl, in0⟩ := Desc.arg v4Again_d0 (by kernel_rfl) (hval 0 _ v0 rfl rfl) h0
  clear hA0 hval0
  refine (law x0 W in0).mono fun e W' ⟨he, bel0⟩ => ?_
  subst he
  have bel := below_of bel0
  exact ⟨_, rfl, _, _, _, [], _, [], hW', trodAll_mk1 (shut_bool (by kernel_rfl) _), (trodAll_cons_mk (Below.trod laidOut (by kernel_rfl) (of_decide_eq_true (by kernel_rfl)) h0 bel lt0) trodAll_mk0), rfl, bel.frame _, fun h => by cases h⟩
theorem v4Again_over (law : v4Again_asks) : Rows.v4AgainRow.holds Try.pinned (OpenSpec.ofChange Rows.v4AgainSpec) :=
  OpenClaim.holds_of_wide 3 Try.f3 rfl rfl rfl rfl rfl rfl rfl ⟨rfl, rfl, rfl, rfl, rfl⟩ rfl rfl rfl rfl rfl (by kernel_rfl) Try.func3 (by kernel_rfl)
    (of_decide_eq_true (by kernel_rfl)) (by unfold Func.isWrapper; first | (rw [if_pos (by decide +kernel)]; kernel_rfl) | (rw [if_neg (by decide +kernel)]; exact ⟨rfl, rfl⟩))
    (fun os started H enc _ => v4Again_lifted law os started H enc)
theorem v4Again_said (law : v4Again_asks) : Rows.V4AgainSaid := v4Again_over law
abbrev v4Parses_d0 : Desc := (.slice (.int .u8) 1)
/-- What the row asks of the law. -/
def v4Parses_asks : Prop := ∀ (x0 : v4Parses_d0.T) (w : World) (h0 : v4Parses_d0.In w x0), Calls Try.prog 4 #[v4Parses_d0.value x0] w fun e w' => e = .returned (.bool true) ∧ ∀ S, Fr8 w w' S
set_option maxRecDepth 100000 in
theorem v4Parses_lifted (law : v4Parses_asks) (os : Os) (started : os.Started) (H : Type) (enc : TypeId × Value → H) :
    ReturnsInHanded {} Try.checked os 4 .any (Rows.v4ParsesSpec.pre6 enc Try.prog Try.f4 Rows.v4ParsesRow.domain false) (Rows.v4ParsesSpec.post enc Try.prog Try.f4 false true false false) := by
  refine returnsInHanded_of_change (C := Try.checked) own started (by kernel_rfl) Try.func4
    (ChangeSpec.witness6 (enc := enc) (C := Try.checked) false ⟨#[], #[.slice none 0 0], []⟩ 8 (by kernel_rfl) (by kernel_rfl) (by kernel_rfl) (by kernel_rfl)) ?_
  intro W base args ds gs before hval0 hW hcnd _
  have hval : ∀ (j : Nat) t v, Try.f4.params[j]? = some t → args[j]? = some v → Value.okWide Try.prog W .any base t v := hval0
  have hW' := hW
  obtain ⟨p, q, hA0, hV, rfl, hfz, hnd⟩ := hW
  have hA : DataW.TrodAll enc Try.prog W 0 (fun _ => true) true Try.f4.params.toList args.toList ds p := hA0
  rw [Try.params4] at hA hval
  obtain ⟨v0, vs0, d0, ds0, p0, q0, hargs, rfl, rfl, h0, r0⟩ := trodAll_cons hA
  obtain ⟨rfl, rfl, rfl⟩ := trodAll_nil r0
  obtain rfl : args = #[v0] := by cases args; simp_all
  obtain ⟨rfl, rfl⟩ := trodVars_none hV
  have lt0 : ∀ x ∈ p0, x.block < W.heap.size := by obtain ⟨m, hm⟩ := h0; exact DataW.trod_lt m _ _ _ hm
  obtain ⟨x0, rfl, in0⟩ := Desc.arg v4Parses_d0 (by kernel_rfl) (hval 0 _ v0 rfl rfl) h0
  clear hA0 hval0
  refine (law x0 W in0).mono fun e W' ⟨he, bel0⟩ => ?_
  subst he
  have bel := below_of bel0
  exact ⟨_, rfl, _, _, _, [], _, [], hW', trodAll_mk1 (shut_bool (by kernel_rfl) _), (trodAll_cons_mk (Below.trod laidOut (by kernel_rfl) (of_decide_eq_true (by kernel_rfl)) h0 bel lt0) trodAll_mk0), rfl, bel.frame _, fun h => by cases h⟩
theorem v4Parses_over (law : v4Parses_asks) : Rows.v4ParsesRow.holds Try.pinned (OpenSpec.ofChange Rows.v4ParsesSpec) :=
  OpenClaim.holds_of_wide 4 Try.f4 rfl rfl rfl rfl rfl rfl rfl ⟨rfl, rfl, rfl, rfl, rfl⟩ rfl rfl rfl rfl rfl (by kernel_rfl) Try.func4 (by kernel_rfl)
    (of_decide_eq_true (by kernel_rfl)) (by unfold Func.isWrapper; first | (rw [if_pos (by decide +kernel)]; kernel_rfl) | (rw [if_neg (by decide +kernel)]; exact ⟨rfl, rfl⟩))
    (fun os started H enc _ => v4Parses_lifted law os started H enc)
theorem v4Parses_said (law : v4Parses_asks) : Rows.V4ParsesSaid := v4Parses_over law
abbrev v4Builds_d0 : Desc := (.agg (.cons (.int .i64) 1 (.cons (.int .i64) 1 (.cons (.int .i64) 1 (.cons (.int .i64) 1 (.cons (.int .i64) 1 (.cons (.int .i64) 1 (.cons (.int .i64) 1 (.cons .bool 1 (.cons .bool 1 (.cons (.slice (.int .u8) 1) 1 (.cons (.slice (.int .u8) 1) 1 .nil))))))))))))
abbrev v4Builds_d1 : Desc := (.agg (.cons (.int .i64) 1 (.cons (.int .i64) 1 (.cons (.int .i64) 1 (.cons (.int .i64) 1 (.cons (.int .i64) 1 (.cons (.int .i64) 1 (.cons (.int .i64) 1 (.cons .bool 1 (.cons .bool 1 (.cons (.slice (.int .u8) 1) 1 (.cons (.slice (.int .u8) 1) 1 .nil))))))))))))
/-- What the row asks of the law. -/
def v4Builds_asks : Prop := ∀ (x0 : v4Builds_d0.T) (x1 : v4Builds_d1.T) (w : World) (h0 : v4Builds_d0.In w x0) (h1 : v4Builds_d1.In w x1), Calls Try.prog 5 #[v4Builds_d0.value x0, v4Builds_d1.value x1] w fun e w' => e = .returned (.bool true) ∧ ∀ S, Fr8 w w' S
set_option maxRecDepth 100000 in
theorem v4Builds_lifted (law : v4Builds_asks) (os : Os) (started : os.Started) (H : Type) (enc : TypeId × Value → H) :
    ReturnsInHanded {} Try.checked os 5 .any (Rows.v4BuildsSpec.pre6 enc Try.prog Try.f5 Rows.v4BuildsRow.domain false) (Rows.v4BuildsSpec.post enc Try.prog Try.f5 false true false false) := by
  refine returnsInHanded_of_change (C := Try.checked) own started (by kernel_rfl) Try.func5
    (ChangeSpec.witness6 (enc := enc) (C := Try.checked) false ⟨#[], #[.agg #[.int .i64 0, .int .i64 0, .int .i64 0, .int .i64 0, .int .i64 0, .int .i64 0, .int .i64 0, .bool false, .bool false, .slice none 0 0, .slice none 0 0], .agg #[.int .i64 0, .int .i64 0, .int .i64 0, .int .i64 0, .int .i64 0, .int .i64 0, .int .i64 0, .bool false, .bool false, .slice none 0 0, .slice none 0 0]], []⟩ 8 (by kernel_rfl) (by kernel_rfl) (by kernel_rfl) (by kernel_rfl)) ?_
  intro W base args ds gs before hval0 hW hcnd _
  have hval : ∀ (j : Nat) t v, Try.f5.params[j]? = some t → args[j]? = some v → Value.okWide Try.prog W .any base t v := hval0
  have hW' := hW
  obtain ⟨p, q, hA0, hV, rfl, hfz, hnd⟩ := hW
  have hA : DataW.TrodAll enc Try.prog W 0 (fun _ => true) true Try.f5.params.toList args.toList ds p := hA0
  rw [Try.params5] at hA hval
  obtain ⟨v0, vs0, d0, ds0, p0, q0, hargs, rfl, rfl, h0, r0⟩ := trodAll_cons hA
  obtain ⟨v1, vs1, d1, ds1, p1, q1, rfl, rfl, rfl, h1, r1⟩ := trodAll_cons r0
  obtain ⟨rfl, rfl, rfl⟩ := trodAll_nil r1
  obtain rfl : args = #[v0, v1] := by cases args; simp_all
  obtain ⟨rfl, rfl⟩ := trodVars_none hV
  have lt0 : ∀ x ∈ p0, x.block < W.heap.size := by obtain ⟨m, hm⟩ := h0; exact DataW.trod_lt m _ _ _ hm
  have lt1 : ∀ x ∈ p1, x.block < W.heap.size := by obtain ⟨m, hm⟩ := h1; exact DataW.trod_lt m _ _ _ hm
  obtain ⟨x0, rfl, in0⟩ := Desc.arg v4Builds_d0 (by kernel_rfl) (hval 0 _ v0 rfl rfl) h0
  obtain ⟨x1, rfl, in1⟩ := Desc.arg v4Builds_d1 (by kernel_rfl) (hval 1 _ v1 rfl rfl) h1
  clear hA0 hval0
  refine (law x0 x1 W in0 in1).mono fun e W' ⟨he, bel0⟩ => ?_
  subst he
  have bel := below_of bel0
  exact ⟨_, rfl, _, _, _, [], _, [], hW', trodAll_mk1 (shut_bool (by kernel_rfl) _), (trodAll_cons_mk (Below.trod laidOut (by kernel_rfl) (of_decide_eq_true (by kernel_rfl)) h0 bel lt0) (trodAll_cons_mk (Below.trod laidOut (by kernel_rfl) (of_decide_eq_true (by kernel_rfl)) h1 bel lt1) trodAll_mk0)), rfl, bel.frame _, fun h => by cases h⟩
theorem v4Builds_over (law : v4Builds_asks) : Rows.v4BuildsRow.holds Try.pinned (OpenSpec.ofChange Rows.v4BuildsSpec) :=
  OpenClaim.holds_of_wide 5 Try.f5 rfl rfl rfl rfl rfl rfl rfl ⟨rfl, rfl, rfl, rfl, rfl⟩ rfl rfl rfl rfl rfl (by kernel_rfl) Try.func5 (by kernel_rfl)
    (of_decide_eq_true (by kernel_rfl)) (by unfold Func.isWrapper; first | (rw [if_pos (by decide +kernel)]; kernel_rfl) | (rw [if_neg (by decide +kernel)]; exact ⟨rfl, rfl⟩))
    (fun os started H enc _ => v4Builds_lifted law os started H enc)
theorem v4Builds_said (law : v4Builds_asks) : Rows.V4BuildsSaid := v4Builds_over law
abbrev v4Back_d0 : Desc := (.agg (.cons (.int .i64) 1 (.cons (.int .i64) 1 (.cons (.int .i64) 1 (.cons (.int .i64) 1 (.cons (.int .i64) 1 (.cons (.int .i64) 1 (.cons (.int .i64) 1 (.cons .bool 1 (.cons .bool 1 (.cons (.slice (.int .u8) 1) 1 (.cons (.slice (.int .u8) 1) 1 .nil))))))))))))
abbrev v4Back_d1 : Desc := (.slice (.int .u8) 1)
/-- What the row asks of the law. -/
def v4Back_asks : Prop := ∀ (x0 : v4Back_d0.T) (x1 : v4Back_d1.T) (w : World) (h0 : v4Back_d0.In w x0) (h1 : v4Back_d1.In w x1), Calls Try.prog 6 #[v4Back_d0.value x0, v4Back_d1.value x1] w fun e w' => e = .returned (.bool true) ∧ ∀ S, Fr8 w w' S
set_option maxRecDepth 100000 in
theorem v4Back_lifted (law : v4Back_asks) (os : Os) (started : os.Started) (H : Type) (enc : TypeId × Value → H) :
    ReturnsInHanded {} Try.checked os 6 .any (Rows.v4BackSpec.pre6 enc Try.prog Try.f6 Rows.v4BackRow.domain false) (Rows.v4BackSpec.post enc Try.prog Try.f6 false true false false) := by
  refine returnsInHanded_of_change (C := Try.checked) own started (by kernel_rfl) Try.func6
    (ChangeSpec.witness6 (enc := enc) (C := Try.checked) false ⟨#[], #[.agg #[.int .i64 0, .int .i64 0, .int .i64 0, .int .i64 0, .int .i64 0, .int .i64 0, .int .i64 0, .bool false, .bool false, .slice none 0 0, .slice none 0 0], .slice none 0 0], []⟩ 8 (by kernel_rfl) (by kernel_rfl) (by kernel_rfl) (by kernel_rfl)) ?_
  intro W base args ds gs before hval0 hW hcnd _
  have hval : ∀ (j : Nat) t v, Try.f6.params[j]? = some t → args[j]? = some v → Value.okWide Try.prog W .any base t v := hval0
  have hW' := hW
  obtain ⟨p, q, hA0, hV, rfl, hfz, hnd⟩ := hW
  have hA : DataW.TrodAll enc Try.prog W 0 (fun _ => true) true Try.f6.params.toList args.toList ds p := hA0
  rw [Try.params6] at hA hval
  obtain ⟨v0, vs0, d0, ds0, p0, q0, hargs, rfl, rfl, h0, r0⟩ := trodAll_cons hA
  obtain ⟨v1, vs1, d1, ds1, p1, q1, rfl, rfl, rfl, h1, r1⟩ := trodAll_cons r0
  obtain ⟨rfl, rfl, rfl⟩ := trodAll_nil r1
  obtain rfl : args = #[v0, v1] := by cases args; simp_all
  obtain ⟨rfl, rfl⟩ := trodVars_none hV
  have lt0 : ∀ x ∈ p0, x.block < W.heap.size := by obtain ⟨m, hm⟩ := h0; exact DataW.trod_lt m _ _ _ hm
  have lt1 : ∀ x ∈ p1, x.block < W.heap.size := by obtain ⟨m, hm⟩ := h1; exact DataW.trod_lt m _ _ _ hm
  obtain ⟨x0, rfl, in0⟩ := Desc.arg v4Back_d0 (by kernel_rfl) (hval 0 _ v0 rfl rfl) h0
  obtain ⟨x1, rfl, in1⟩ := Desc.arg v4Back_d1 (by kernel_rfl) (hval 1 _ v1 rfl rfl) h1
  clear hA0 hval0
  refine (law x0 x1 W in0 in1).mono fun e W' ⟨he, bel0⟩ => ?_
  subst he
  have bel := below_of bel0
  exact ⟨_, rfl, _, _, _, [], _, [], hW', trodAll_mk1 (shut_bool (by kernel_rfl) _), (trodAll_cons_mk (Below.trod laidOut (by kernel_rfl) (of_decide_eq_true (by kernel_rfl)) h0 bel lt0) (trodAll_cons_mk (Below.trod laidOut (by kernel_rfl) (of_decide_eq_true (by kernel_rfl)) h1 bel lt1) trodAll_mk0)), rfl, bel.frame _, fun h => by cases h⟩
theorem v4Back_over (law : v4Back_asks) : Rows.v4BackRow.holds Try.pinned (OpenSpec.ofChange Rows.v4BackSpec) :=
  OpenClaim.holds_of_wide 6 Try.f6 rfl rfl rfl rfl rfl rfl rfl ⟨rfl, rfl, rfl, rfl, rfl⟩ rfl rfl rfl rfl rfl (by kernel_rfl) Try.func6 (by kernel_rfl)
    (of_decide_eq_true (by kernel_rfl)) (by unfold Func.isWrapper; first | (rw [if_pos (by decide +kernel)]; kernel_rfl) | (rw [if_neg (by decide +kernel)]; exact ⟨rfl, rfl⟩))
    (fun os started H enc _ => v4Back_lifted law os started H enc)
theorem v4Back_said (law : v4Back_asks) : Rows.V4BackSaid := v4Back_over law
end Go.Proofs.Ytibalhhdladmbaa
