import Derived.Test.YtjllddbdblccgaaRows
import Derived.WalkKit
import Derived.ProofKit
import Derived.OpenShut
import Derived.ShutString
import Derived.ChangeOld
import Derived.Below
import Derived.Test.YtjllddbdblccgaaTyped
namespace Go.Proofs.Ytjllddbdblccgaa
open Go.ChangeShapes Go.WideShapes Go.ChangeAt Go.RowKit Gp
theorem own : ownKnob Try.prog.godebug = none := by kernel_rfl
theorem laidOut : laidOutB Try.prog = true := by kernel_rfl
abbrev holesGaps_d0 : Desc := (.slice (.agg (.cons (.int .i64) 1 (.cons .bool 1 (.cons (.slice (.int .u8) 1) 1 .nil)))) 3)
/-- What the row asks of the law. -/
def holesGaps_asks : Prop := ∀ (x0 : holesGaps_d0.T) (w : World) (h0 : holesGaps_d0.In w x0), Calls Try.prog 3 #[holesGaps_d0.value x0] w fun e w' => e = .returned (.bool true) ∧ ∀ S, Fr8 w w' S
set_option maxRecDepth 100000 in
theorem holesGaps_lifted (law : holesGaps_asks) (os : Os) (started : os.Started) (H : Type) (enc : TypeId × Value → H) :
    ReturnsInHanded {} Try.checked os 3 .any (Rows.holesGapsSpec.pre6 enc Try.prog Try.f3 Rows.holesGapsRow.domain false) (Rows.holesGapsSpec.post enc Try.prog Try.f3 false true false false) := by
  refine returnsInHanded_of_change (C := Try.checked) own started (by kernel_rfl) Try.func3
    (ChangeSpec.witness6 (enc := enc) (C := Try.checked) false ⟨#[], #[.slice none 0 0], []⟩ 8 (by kernel_rfl) (by kernel_rfl) (by kernel_rfl) (by kernel_rfl)) ?_
  intro W base args ds gs before hval0 hW hcnd _
  have hval : ∀ (j : Nat) t v, Try.f3.params[j]? = some t → args[j]? = some v → Value.okWide Try.prog W .any base t v := hval0
  have hW' := hW
  obtain ⟨p, q, hA0, hV, rfl, hfz, hnd⟩ := hW
  have hA : DataW.TrodAll enc Try.prog W 0 (fun _ => true) true Try.f3.params.toList args.toList ds p := hA0
  rw [Try.params3] at hA hval
  obtain ⟨v0, vs0, d0, ds0, p0, q0, hargs, rfl, rfl, h0, r0⟩ := trodAll_cons hA
  obtain ⟨rfl, rfl, rfl⟩ := trodAll_nil r0
  obtain rfl : args = #[v0] := by cases args; simp_all
  obtain ⟨rfl, rfl⟩ := trodVars_none hV
  have lt0 : ∀ x ∈ p0, x.block < W.heap.size := by obtain ⟨m, hm⟩ := h0; exact DataW.trod_lt m _ _ _ hm
  obtain ⟨x0, rfl, in0⟩ := Desc.arg holesGaps_d0 (by kernel_rfl) (hval 0 _ v0 rfl rfl) h0
  clear hA0 hval0
  refine (law x0 W in0).mono fun e W' ⟨he, bel0⟩ => ?_
  subst he
  have bel := below_of bel0
  exact ⟨_, rfl, _, _, _, [], _, [], hW', trodAll_mk1 (shut_bool (by kernel_rfl) _), (trodAll_cons_mk (Below.trod laidOut (by kernel_rfl) (of_decide_eq_true (by kernel_rfl)) h0 bel lt0) trodAll_mk0), rfl, bel.frame _, fun h => by cases h⟩
theorem holesGaps_over (law : holesGaps_asks) : Rows.holesGapsRow.holds Try.pinned (OpenSpec.ofChange Rows.holesGapsSpec) :=
  OpenClaim.holds_of_wide 3 Try.f3 rfl rfl rfl rfl rfl rfl rfl ⟨rfl, rfl, rfl, rfl, rfl⟩ rfl rfl rfl rfl rfl (by kernel_rfl) Try.func3 (by kernel_rfl)
    (of_decide_eq_true (by kernel_rfl)) (by unfold Func.isWrapper; first | (rw [if_pos (by decide +kernel)]; kernel_rfl) | (rw [if_neg (by decide +kernel)]; exact ⟨rfl, rfl⟩))
    (fun os started H enc _ => holesGaps_lifted law os started H enc)
theorem holesGaps_said (law : holesGaps_asks) : Rows.HolesGapsSaid := holesGaps_over law
abbrev holesOrder_d0 : Desc := (.slice (.int .u8) 1)
abbrev holesOrder_d1 : Desc := (.slice (.int .u8) 1)
/-- What the row asks of the law. -/
def holesOrder_asks : Prop := ∀ (x0 : holesOrder_d0.T) (x1 : holesOrder_d1.T) (w : World) (h0 : holesOrder_d0.In w x0) (h1 : holesOrder_d1.In w x1), Calls Try.prog 4 #[holesOrder_d0.value x0, holesOrder_d1.value x1] w fun e w' => e = .returned (.bool true) ∧ ∀ S, Fr8 w w' S
set_option maxRecDepth 100000 in
theorem holesOrder_lifted (law : holesOrder_asks) (os : Os) (started : os.Started) (H : Type) (enc : TypeId × Value → H) :
    ReturnsInHanded {} Try.checked os 4 .any (Rows.holesOrderSpec.pre6 enc Try.prog Try.f4 Rows.holesOrderRow.domain false) (Rows.holesOrderSpec.post enc Try.prog Try.f4 false true false false) := by
  refine returnsInHanded_of_change (C := Try.checked) own started (by kernel_rfl) Try.func4
    (ChangeSpec.witness6 (enc := enc) (C := Try.checked) false ⟨#[], #[.slice none 0 0, .slice none 0 0], []⟩ 8 (by kernel_rfl) (by kernel_rfl) (by kernel_rfl) (by kernel_rfl)) ?_
  intro W base args ds gs before hval0 hW hcnd _
  have hval : ∀ (j : Nat) t v, Try.f4.params[j]? = some t → args[j]? = some v → Value.okWide Try.prog W .any base t v := hval0
  have hW' := hW
  obtain ⟨p, q, hA0, hV, rfl, hfz, hnd⟩ := hW
  have hA : DataW.TrodAll enc Try.prog W 0 (fun _ => true) true Try.f4.params.toList args.toList ds p := hA0
  rw [Try.params4] at hA hval
  obtain ⟨v0, vs0, d0, ds0, p0, q0, hargs, rfl, rfl, h0, r0⟩ := trodAll_cons hA
  obtain ⟨v1, vs1, d1, ds1, p1, q1, rfl, rfl, rfl, h1, r1⟩ := trodAll_cons r0
  obtain ⟨rfl, rfl, rfl⟩ := trodAll_nil r1
  obtain rfl : args = #[v0, v1] := by cases args; simp_all
  obtain ⟨rfl, rfl⟩ := trodVars_none hV
  have lt0 : ∀ x ∈ p0, x.block < W.heap.size := by obtain ⟨m, hm⟩ := h0; exact DataW.trod_lt m _ _ _ hm
  have lt1 : ∀ x ∈ p1, x.block < W.heap.size := by obtain ⟨m, hm⟩ := h1; exact DataW.trod_lt m _ _ _ hm
  obtain ⟨x0, rfl, in0⟩ := Desc.arg holesOrder_d0 (by kernel_rfl) (hval 0 _ v0 rfl rfl) h0
  obtain ⟨x1, rfl, in1⟩ := Desc.arg holesOrder_d1 (by kernel_rfl) (hval 1 _ v1 rfl rfl) h1
  clear hA0 hval0
  refine (law x0 x1 W in0 in1).mono fun e W' ⟨he, bel0⟩ => ?_
  subst he
  have bel := below_of bel0
  exact ⟨_, rfl, _, _, _, [], _, [], hW', trodAll_mk1 (shut_bool (by kernel_rfl) _), (trodAll_cons_mk (Below.trod laidOut (by kernel_rfl) (of_decide_eq_true (by kernel_rfl)) h0 bel lt0) (trodAll_cons_mk (Below.trod laidOut (by kernel_rfl) (of_decide_eq_true (by kernel_rfl)) h1 bel lt1) trodAll_mk0)), rfl, bel.frame _, fun h => by cases h⟩
theorem holesOrder_over (law : holesOrder_asks) : Rows.holesOrderRow.holds Try.pinned (OpenSpec.ofChange Rows.holesOrderSpec) :=
  OpenClaim.holds_of_wide 4 Try.f4 rfl rfl rfl rfl rfl rfl rfl ⟨rfl, rfl, rfl, rfl, rfl⟩ rfl rfl rfl rfl rfl (by kernel_rfl) Try.func4 (by kernel_rfl)
    (of_decide_eq_true (by kernel_rfl)) (by unfold Func.isWrapper; first | (rw [if_pos (by decide +kernel)]; kernel_rfl) | (rw [if_neg (by decide +kernel)]; exact ⟨rfl, rfl⟩))
    (fun os started H enc _ => holesOrder_lifted law os started H enc)
theorem holesOrder_said (law : holesOrder_asks) : Rows.HolesOrderSaid := holesOrder_over law
abbrev holesLive_d0 : Desc := (.slice (.agg (.cons (.int .i64) 1 (.cons .bool 1 (.cons (.slice (.int .u8) 1) 1 .nil)))) 3)
/-- What the row asks of the law. -/
def holesLive_asks : Prop := ∀ (x0 : holesLive_d0.T) (w : World) (h0 : holesLive_d0.In w x0), Calls Try.prog 5 #[holesLive_d0.value x0] w fun e w' => e = .returned (.bool true) ∧ ∀ S, Fr8 w w' S
set_option maxRecDepth 100000 in
theorem holesLive_lifted (law : holesLive_asks) (os : Os) (started : os.Started) (H : Type) (enc : TypeId × Value → H) :
    ReturnsInHanded {} Try.checked os 5 .any (Rows.holesLiveSpec.pre6 enc Try.prog Try.f5 Rows.holesLiveRow.domain false) (Rows.holesLiveSpec.post enc Try.prog Try.f5 false true false false) := by
  refine returnsInHanded_of_change (C := Try.checked) own started (by kernel_rfl) Try.func5
    (ChangeSpec.witness6 (enc := enc) (C := Try.checked) false ⟨#[], #[.slice none 0 0], []⟩ 8 (by kernel_rfl) (by kernel_rfl) (by kernel_rfl) (by kernel_rfl)) ?_
  intro W base args ds gs before hval0 hW hcnd _
  have hval : ∀ (j : Nat) t v, Try.f5.params[j]? = some t → args[j]? = some v → Value.okWide Try.prog W .any base t v := hval0
  have hW' := hW
  obtain ⟨p, q, hA0, hV, rfl, hfz, hnd⟩ := hW
  have hA : DataW.TrodAll enc Try.prog W 0 (fun _ => true) true Try.f5.params.toList args.toList ds p := hA0
  rw [Try.params5] at hA hval
  obtain ⟨v0, vs0, d0, ds0, p0, q0, hargs, rfl, rfl, h0, r0⟩ := trodAll_cons hA
  obtain ⟨rfl, rfl, rfl⟩ := trodAll_nil r0
  obtain rfl : args = #[v0] := by cases args; simp_all
  obtain ⟨rfl, rfl⟩ := trodVars_none hV
  have lt0 : ∀ x ∈ p0, x.block < W.heap.size := by obtain ⟨m, hm⟩ := h0; exact DataW.trod_lt m _ _ _ hm
  obtain ⟨x0, rfl, in0⟩ := Desc.arg holesLive_d0 (by kernel_rfl) (hval 0 _ v0 rfl rfl) h0
  clear hA0 hval0
  refine (law x0 W in0).mono fun e W' ⟨he, bel0⟩ => ?_
  subst he
  have bel := below_of bel0
  exact ⟨_, rfl, _, _, _, [], _, [], hW', trodAll_mk1 (shut_bool (by kernel_rfl) _), (trodAll_cons_mk (Below.trod laidOut (by kernel_rfl) (of_decide_eq_true (by kernel_rfl)) h0 bel lt0) trodAll_mk0), rfl, bel.frame _, fun h => by cases h⟩
theorem holesLive_over (law : holesLive_asks) : Rows.holesLiveRow.holds Try.pinned (OpenSpec.ofChange Rows.holesLiveSpec) :=
  OpenClaim.holds_of_wide 5 Try.f5 rfl rfl rfl rfl rfl rfl rfl ⟨rfl, rfl, rfl, rfl, rfl⟩ rfl rfl rfl rfl rfl (by kernel_rfl) Try.func5 (by kernel_rfl)
    (of_decide_eq_true (by kernel_rfl)) (by unfold Func.isWrapper; first | (rw [if_pos (by decide +kernel)]; kernel_rfl) | (rw [if_neg (by decide +kernel)]; exact ⟨rfl, rfl⟩))
    (fun os started H enc _ => holesLive_lifted law os started H enc)
theorem holesLive_said (law : holesLive_asks) : Rows.HolesLiveSaid := holesLive_over law
abbrev holesNobody_d0 : Desc := (.int .i64)
abbrev holesNobody_d1 : Desc := .bool
abbrev holesNobody_d2 : Desc := (.slice (.int .u8) 1)
/-- What the row asks of the law. -/
def holesNobody_asks : Prop := ∀ (x0 : holesNobody_d0.T) (x1 : holesNobody_d1.T) (x2 : holesNobody_d2.T) (w : World) (h0 : holesNobody_d0.In w x0) (h1 : holesNobody_d1.In w x1) (h2 : holesNobody_d2.In w x2), Calls Try.prog 6 #[holesNobody_d0.value x0, holesNobody_d1.value x1, holesNobody_d2.value x2] w fun e w' => e = .returned (.bool true) ∧ ∀ S, Fr8 w w' S
set_option maxRecDepth 100000 in
theorem holesNobody_lifted (law : holesNobody_asks) (os : Os) (started : os.Started) (H : Type) (enc : TypeId × Value → H) :
    ReturnsInHanded {} Try.checked os 6 .any (Rows.holesNobodySpec.pre6 enc Try.prog Try.f6 Rows.holesNobodyRow.domain false) (Rows.holesNobodySpec.post enc Try.prog Try.f6 false true false false) := by
  refine returnsInHanded_of_change (C := Try.checked) own started (by kernel_rfl) Try.func6
    (ChangeSpec.witness6 (enc := enc) (C := Try.checked) false ⟨#[], #[.int .i64 0, .bool false, .slice none 0 0], []⟩ 8 (by kernel_rfl) (by kernel_rfl) (by kernel_rfl) (by kernel_rfl)) ?_
  intro W base args ds gs before hval0 hW hcnd _
  have hval : ∀ (j : Nat) t v, Try.f6.params[j]? = some t → args[j]? = some v → Value.okWide Try.prog W .any base t v := hval0
  have hW' := hW
  obtain ⟨p, q, hA0, hV, rfl, hfz, hnd⟩ := hW
  have hA : DataW.TrodAll enc Try.prog W 0 (fun _ => true) true Try.f6.params.toList args.toList ds p := hA0
  rw [Try.params6] at hA hval
  obtain ⟨v0, vs0, d0, ds0, p0, q0, hargs, rfl, rfl, h0, r0⟩ := trodAll_cons hA
  obtain ⟨v1, vs1, d1, ds1, p1, q1, rfl, rfl, rfl, h1, r1⟩ := trodAll_cons r0
  obtain ⟨v2, vs2, d2, ds2, p2, q2, rfl, rfl, rfl, h2, r2⟩ := trodAll_cons r1
  obtain ⟨rfl, rfl, rfl⟩ := trodAll_nil r2
  obtain rfl : args = #[v0, v1, v2] := by cases args; simp_all
  obtain ⟨rfl, rfl⟩ := trodVars_none hV
  have lt0 : ∀ x ∈ p0, x.block < W.heap.size := by obtain ⟨m, hm⟩ := h0; exact DataW.trod_lt m _ _ _ hm
  have lt1 : ∀ x ∈ p1, x.block < W.heap.size := by obtain ⟨m, hm⟩ := h1; exact DataW.trod_lt m _ _ _ hm
  have lt2 : ∀ x ∈ p2, x.block < W.heap.size := by obtain ⟨m, hm⟩ := h2; exact DataW.trod_lt m _ _ _ hm
  obtain ⟨x0, rfl, in0⟩ := Desc.arg holesNobody_d0 (by kernel_rfl) (hval 0 _ v0 rfl rfl) h0
  obtain ⟨x1, rfl, in1⟩ := Desc.arg holesNobody_d1 (by kernel_rfl) (hval 1 _ v1 rfl rfl) h1
  obtain ⟨x2, rfl, in2⟩ := Desc.arg holesNobody_d2 (by kernel_rfl) (hval 2 _ v2 rfl rfl) h2
  clear hA0 hval0
  refine (law x0 x1 x2 W in0 in1 in2).mono fun e W' ⟨he, bel0⟩ => ?_
  subst he
  have bel := below_of bel0
  exact ⟨_, rfl, _, _, _, [], _, [], hW', trodAll_mk1 (shut_bool (by kernel_rfl) _), (trodAll_cons_mk (Below.trod laidOut (by kernel_rfl) (of_decide_eq_true (by kernel_rfl)) h0 bel lt0) (trodAll_cons_mk (Below.trod laidOut (by kernel_rfl) (of_decide_eq_true (by kernel_rfl)) h1 bel lt1) (trodAll_cons_mk (Below.trod laidOut (by kernel_rfl) (of_decide_eq_true (by kernel_rfl)) h2 bel lt2) trodAll_mk0))), rfl, bel.frame _, fun h => by cases h⟩
theorem holesNobody_over (law : holesNobody_asks) : Rows.holesNobodyRow.holds Try.pinned (OpenSpec.ofChange Rows.holesNobodySpec) :=
  OpenClaim.holds_of_wide 6 Try.f6 rfl rfl rfl rfl rfl rfl rfl ⟨rfl, rfl, rfl, rfl, rfl⟩ rfl rfl rfl rfl rfl (by kernel_rfl) Try.func6 (by kernel_rfl)
    (of_decide_eq_true (by kernel_rfl)) (by unfold Func.isWrapper; first | (rw [if_pos (by decide +kernel)]; kernel_rfl) | (rw [if_neg (by decide +kernel)]; exact ⟨rfl, rfl⟩))
    (fun os started H enc _ => holesNobody_lifted law os started H enc)
theorem holesNobody_said (law : holesNobody_asks) : Rows.HolesNobodySaid := holesNobody_over law
end Go.Proofs.Ytjllddbdblccgaa
