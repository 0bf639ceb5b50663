import Derived.Test.YtcnkafgimclghaaRows
import Derived.WalkKit
import Derived.ProofKit
import Derived.OpenShut
import Derived.ShutString
import Derived.ChangeOld
import Derived.Below
import Derived.Test.YtcnkafgimclghaaTyped
namespace Go.Proofs.Ytcnkafgimclghaa
open Go.ChangeShapes Go.WideShapes Go.ChangeAt Go.RowKit Gp
theorem own : ownKnob Try.prog.godebug = none := by kernel_rfl
theorem laidOut : laidOutB Try.prog = true := by kernel_rfl
abbrev relayTable_d0 : Desc := (.int .i64)
abbrev relayTable_d1 : Desc := (.int .i64)
abbrev relayTable_d2 : Desc := (.int .i64)
/-- What the row asks of the law. -/
def relayTable_asks : Prop := ∀ (x0 : relayTable_d0.T) (x1 : relayTable_d1.T) (x2 : relayTable_d2.T) (w : World) (h0 : relayTable_d0.In w x0) (h1 : relayTable_d1.In w x1) (h2 : relayTable_d2.In w x2), Calls Try.prog 3 #[relayTable_d0.value x0, relayTable_d1.value x1, relayTable_d2.value x2] w fun e w' => e = .returned (.bool true) ∧ ∀ S, Fr8 w w' S
set_option maxRecDepth 100000 in
theorem relayTable_lifted (law : relayTable_asks) (os : Os) (started : os.Started) (H : Type) (enc : TypeId × Value → H) :
    ReturnsInHanded {} Try.checked os 3 .any (Rows.relayTableSpec.pre6 enc Try.prog Try.f3 Rows.relayTableRow.domain false) (Rows.relayTableSpec.post enc Try.prog Try.f3 false true false false) := by
  refine returnsInHanded_of_change (C := Try.checked) own started (by kernel_rfl) Try.func3
    (ChangeSpec.witness6 (enc := enc) (C := Try.checked) false ⟨#[], #[.int .i64 0, .int .i64 0, .int .i64 0], []⟩ 8 (by kernel_rfl) (by kernel_rfl) (by kernel_rfl) (by kernel_rfl)) ?_
  intro W base args ds gs before hval0 hW hcnd _
  have hval : ∀ (j : Nat) t v, Try.f3.params[j]? = some t → args[j]? = some v → Value.okWide Try.prog W .any base t v := hval0
  have hW' := hW
  obtain ⟨p, q, hA0, hV, rfl, hfz, hnd⟩ := hW
  have hA : DataW.TrodAll enc Try.prog W 0 (fun _ => true) true Try.f3.params.toList args.toList ds p := hA0
  rw [Try.params3] at hA hval
  obtain ⟨v0, vs0, d0, ds0, p0, q0, hargs, rfl, rfl, h0, r0⟩ := trodAll_cons hA
  obtain ⟨v1, vs1, d1, ds1, p1, q1, rfl, rfl, rfl, h1, r1⟩ := trodAll_cons r0
  obtain ⟨v2, vs2, d2, ds2, p2, q2, rfl, rfl, rfl, h2, r2⟩ := trodAll_cons r1
  obtain ⟨rfl, rfl, rfl⟩ := trodAll_nil r2
  obtain rfl : args = #[v0, v1, v2] := by cases args; simp_all
  obtain ⟨rfl, rfl⟩ := trodVars_none hV
  have lt0 : ∀ x ∈ p0, x.block < W.heap.size := by obtain ⟨m, hm⟩ := h0; exact DataW.trod_lt m _ _ _ hm
  have lt1 : ∀ x ∈ p1, x.block < W.heap.size := by obtain ⟨m, hm⟩ := h1; exact DataW.trod_lt m _ _ _ hm
  have lt2 : ∀ x ∈ p2, x.block < W.heap.size := by obtain ⟨m, hm⟩ := h2; exact DataW.trod_lt m _ _ _ hm
  obtain ⟨x0, rfl, in0⟩ := Desc.arg relayTable_d0 (by kernel_rfl) (hval 0 _ v0 rfl rfl) h0
  obtain ⟨x1, rfl, in1⟩ := Desc.arg relayTable_d1 (by kernel_rfl) (hval 1 _ v1 rfl rfl) h1
  obtain ⟨x2, rfl, in2⟩ := Desc.arg relayTable_d2 (by kernel_rfl) (hval 2 _ v2 rfl rfl) h2
  clear hA0 hval0
  refine (law x0 x1 x2 W in0 in1 in2).mono fun e W' ⟨he, bel0⟩ => ?_
  subst he
  have bel := below_of bel0
  exact ⟨_, rfl, _, _, _, [], _, [], hW', trodAll_mk1 (shut_bool (by kernel_rfl) _), (trodAll_cons_mk (Below.trod laidOut (by kernel_rfl) (of_decide_eq_true (by kernel_rfl)) h0 bel lt0) (trodAll_cons_mk (Below.trod laidOut (by kernel_rfl) (of_decide_eq_true (by kernel_rfl)) h1 bel lt1) (trodAll_cons_mk (Below.trod laidOut (by kernel_rfl) (of_decide_eq_true (by kernel_rfl)) h2 bel lt2) trodAll_mk0))), rfl, bel.frame _, fun h => by cases h⟩
theorem relayTable_over (law : relayTable_asks) : Rows.relayTableRow.holds Try.pinned (OpenSpec.ofChange Rows.relayTableSpec) :=
  OpenClaim.holds_of_wide 3 Try.f3 rfl rfl rfl rfl rfl rfl rfl ⟨rfl, rfl, rfl, rfl, rfl⟩ rfl rfl rfl rfl rfl (by kernel_rfl) Try.func3 (by kernel_rfl)
    (of_decide_eq_true (by kernel_rfl)) (by unfold Func.isWrapper; first | (rw [if_pos (by decide +kernel)]; kernel_rfl) | (rw [if_neg (by decide +kernel)]; exact ⟨rfl, rfl⟩))
    (fun os started H enc _ => relayTable_lifted law os started H enc)
theorem relayTable_said (law : relayTable_asks) : Rows.RelayTableSaid := relayTable_over law
abbrev relayReaches_d0 : Desc := (.arr 16 (.int .u8) 1)
abbrev relayReaches_d1 : Desc := (.arr 16 (.int .u8) 1)
abbrev relayReaches_d2 : Desc := (.arr 2 (.int .u16) 1)
abbrev relayReaches_d3 : Desc := (.slice (.int .u8) 1)
abbrev relayReaches_d4 : Desc := (.int .u16)
abbrev relayReaches_d5 : Desc := (.int .u8)
/-- What the row asks of the law. -/
def relayReaches_asks : Prop := ∀ (x0 : relayReaches_d0.T) (x1 : relayReaches_d1.T) (x2 : relayReaches_d2.T) (x3 : relayReaches_d3.T) (x4 : relayReaches_d4.T) (x5 : relayReaches_d5.T) (w : World) (h0 : relayReaches_d0.In w x0) (h1 : relayReaches_d1.In w x1) (h2 : relayReaches_d2.In w x2) (h3 : relayReaches_d3.In w x3) (h4 : relayReaches_d4.In w x4) (h5 : relayReaches_d5.In w x5), Calls Try.prog 4 #[relayReaches_d0.value x0, relayReaches_d1.value x1, relayReaches_d2.value x2, relayReaches_d3.value x3, relayReaches_d4.value x4, relayReaches_d5.value x5] w fun e w' => e = .returned (.bool true) ∧ ∀ S, Fr8 w w' S
set_option maxRecDepth 100000 in
theorem relayReaches_lifted (law : relayReaches_asks) (os : Os) (started : os.Started) (H : Type) (enc : TypeId × Value → H) :
    ReturnsInHanded {} Try.checked os 4 .any (Rows.relayReachesSpec.pre6 enc Try.prog Try.f4 Rows.relayReachesRow.domain false) (Rows.relayReachesSpec.post enc Try.prog Try.f4 false true false false) := by
  refine returnsInHanded_of_change (C := Try.checked) own started (by kernel_rfl) Try.func4
    (ChangeSpec.witness6 (enc := enc) (C := Try.checked) false ⟨#[], #[.agg #[.int .u8 0, .int .u8 0, .int .u8 0, .int .u8 0, .int .u8 0, .int .u8 0, .int .u8 0, .int .u8 0, .int .u8 0, .int .u8 0, .int .u8 0, .int .u8 0, .int .u8 0, .int .u8 0, .int .u8 0, .int .u8 0], .agg #[.int .u8 0, .int .u8 0, .int .u8 0, .int .u8 0, .int .u8 0, .int .u8 0, .int .u8 0, .int .u8 0, .int .u8 0, .int .u8 0, .int .u8 0, .int .u8 0, .int .u8 0, .int .u8 0, .int .u8 0, .int .u8 0], .agg #[.int .u16 0, .int .u16 0], .slice none 0 0, .int .u16 0, .int .u8 0], []⟩ 8 (by kernel_rfl) (by kernel_rfl) (by kernel_rfl) (by kernel_rfl)) ?_
  intro W base args ds gs before hval0 hW hcnd _
  have hval : ∀ (j : Nat) t v, Try.f4.params[j]? = some t → args[j]? = some v → Value.okWide Try.prog W .any base t v := hval0
  have hW' := hW
  obtain ⟨p, q, hA0, hV, rfl, hfz, hnd⟩ := hW
  have hA : DataW.TrodAll enc Try.prog W 0 (fun _ => true) true Try.f4.params.toList args.toList ds p := hA0
  rw [Try.params4] at hA hval
  obtain ⟨v0, vs0, d0, ds0, p0, q0, hargs, rfl, rfl, h0, r0⟩ := trodAll_cons hA
  obtain ⟨v1, vs1, d1, ds1, p1, q1, rfl, rfl, rfl, h1, r1⟩ := trodAll_cons r0
  obtain ⟨v2, vs2, d2, ds2, p2, q2, rfl, rfl, rfl, h2, r2⟩ := trodAll_cons r1
  obtain ⟨v3, vs3, d3, ds3, p3, q3, rfl, rfl, rfl, h3, r3⟩ := trodAll_cons r2
  obtain ⟨v4, vs4, d4, ds4, p4, q4, rfl, rfl, rfl, h4, r4⟩ := trodAll_cons r3
  obtain ⟨v5, vs5, d5, ds5, p5, q5, rfl, rfl, rfl, h5, r5⟩ := trodAll_cons r4
  obtain ⟨rfl, rfl, rfl⟩ := trodAll_nil r5
  obtain rfl : args = #[v0, v1, v2, v3, v4, v5] := by cases args; simp_all
  obtain ⟨rfl, rfl⟩ := trodVars_none hV
  have lt0 : ∀ x ∈ p0, x.block < W.heap.size := by obtain ⟨m, hm⟩ := h0; exact DataW.trod_lt m _ _ _ hm
  have lt1 : ∀ x ∈ p1, x.block < W.heap.size := by obtain ⟨m, hm⟩ := h1; exact DataW.trod_lt m _ _ _ hm
  have lt2 : ∀ x ∈ p2, x.block < W.heap.size := by obtain ⟨m, hm⟩ := h2; exact DataW.trod_lt m _ _ _ hm
  have lt3 : ∀ x ∈ p3, x.block < W.heap.size := by obtain ⟨m, hm⟩ := h3; exact DataW.trod_lt m _ _ _ hm
  have lt4 : ∀ x ∈ p4, x.block < W.heap.size := by obtain ⟨m, hm⟩ := h4; exact DataW.trod_lt m _ _ _ hm
  have lt5 : ∀ x ∈ p5, x.block < W.heap.size := by obtain ⟨m, hm⟩ := h5; exact DataW.trod_lt m _ _ _ hm
  obtain ⟨x0, rfl, in0⟩ := Desc.arg relayReaches_d0 (by kernel_rfl) (hval 0 _ v0 rfl rfl) h0
  obtain ⟨x1, rfl, in1⟩ := Desc.arg relayReaches_d1 (by kernel_rfl) (hval 1 _ v1 rfl rfl) h1
  obtain ⟨x2, rfl, in2⟩ := Desc.arg relayReaches_d2 (by kernel_rfl) (hval 2 _ v2 rfl rfl) h2
  obtain ⟨x3, rfl, in3⟩ := Desc.arg relayReaches_d3 (by kernel_rfl) (hval 3 _ v3 rfl rfl) h3
  obtain ⟨x4, rfl, in4⟩ := Desc.arg relayReaches_d4 (by kernel_rfl) (hval 4 _ v4 rfl rfl) h4
  obtain ⟨x5, rfl, in5⟩ := Desc.arg relayReaches_d5 (by kernel_rfl) (hval 5 _ v5 rfl rfl) h5
  clear hA0 hval0
  refine (law x0 x1 x2 x3 x4 x5 W in0 in1 in2 in3 in4 in5).mono fun e W' ⟨he, bel0⟩ => ?_
  subst he
  have bel := below_of bel0
  exact ⟨_, rfl, _, _, _, [], _, [], hW', trodAll_mk1 (shut_bool (by kernel_rfl) _), (trodAll_cons_mk (Below.trod laidOut (by kernel_rfl) (of_decide_eq_true (by kernel_rfl)) h0 bel lt0) (trodAll_cons_mk (Below.trod laidOut (by kernel_rfl) (of_decide_eq_true (by kernel_rfl)) h1 bel lt1) (trodAll_cons_mk (Below.trod laidOut (by kernel_rfl) (of_decide_eq_true (by kernel_rfl)) h2 bel lt2) (trodAll_cons_mk (Below.trod laidOut (by kernel_rfl) (of_decide_eq_true (by kernel_rfl)) h3 bel lt3) (trodAll_cons_mk (Below.trod laidOut (by kernel_rfl) (of_decide_eq_true (by kernel_rfl)) h4 bel lt4) (trodAll_cons_mk (Below.trod laidOut (by kernel_rfl) (of_decide_eq_true (by kernel_rfl)) h5 bel lt5) trodAll_mk0)))))), rfl, bel.frame _, fun h => by cases h⟩
theorem relayReaches_over (law : relayReaches_asks) : Rows.relayReachesRow.holds Try.pinned (OpenSpec.ofChange Rows.relayReachesSpec) :=
  OpenClaim.holds_of_wide 4 Try.f4 rfl rfl rfl rfl rfl rfl rfl ⟨rfl, rfl, rfl, rfl, rfl⟩ rfl rfl rfl rfl rfl (by kernel_rfl) Try.func4 (by kernel_rfl)
    (of_decide_eq_true (by kernel_rfl)) (by unfold Func.isWrapper; first | (rw [if_pos (by decide +kernel)]; kernel_rfl) | (rw [if_neg (by decide +kernel)]; exact ⟨rfl, rfl⟩))
    (fun os started H enc _ => relayReaches_lifted law os started H enc)
theorem relayReaches_said (law : relayReaches_asks) : Rows.RelayReachesSaid := relayReaches_over law
abbrev relayOnce_d0 : Desc := (.arr 16 (.int .u8) 1)
abbrev relayOnce_d1 : Desc := (.arr 16 (.int .u8) 1)
abbrev relayOnce_d2 : Desc := (.agg (.cons (.int .i64) 1 (.cons (.int .i64) 1 (.cons (.int .i64) 1 (.cons (.slice (.int .u8) 1) 1 .nil)))))
abbrev relayOnce_d3 : Desc := (.int .u8)
/-- What the row asks of the law. -/
def relayOnce_asks : Prop := ∀ (x0 : relayOnce_d0.T) (x1 : relayOnce_d1.T) (x2 : relayOnce_d2.T) (x3 : relayOnce_d3.T) (w : World) (h0 : relayOnce_d0.In w x0) (h1 : relayOnce_d1.In w x1) (h2 : relayOnce_d2.In w x2) (h3 : relayOnce_d3.In w x3), Calls Try.prog 5 #[relayOnce_d0.value x0, relayOnce_d1.value x1, relayOnce_d2.value x2, relayOnce_d3.value x3] w fun e w' => e = .returned (.bool true) ∧ ∀ S, Fr8 w w' S
set_option maxRecDepth 100000 in
theorem relayOnce_lifted (law : relayOnce_asks) (os : Os) (started : os.Started) (H : Type) (enc : TypeId × Value → H) :
    ReturnsInHanded {} Try.checked os 5 .any (Rows.relayOnceSpec.pre6 enc Try.prog Try.f5 Rows.relayOnceRow.domain false) (Rows.relayOnceSpec.post enc Try.prog Try.f5 false true false false) := by
  refine returnsInHanded_of_change (C := Try.checked) own started (by kernel_rfl) Try.func5
    (ChangeSpec.witness6 (enc := enc) (C := Try.checked) false ⟨#[], #[.agg #[.int .u8 0, .int .u8 0, .int .u8 0, .int .u8 0, .int .u8 0, .int .u8 0, .int .u8 0, .int .u8 0, .int .u8 0, .int .u8 0, .int .u8 0, .int .u8 0, .int .u8 0, .int .u8 0, .int .u8 0, .int .u8 0], .agg #[.int .u8 0, .int .u8 0, .int .u8 0, .int .u8 0, .int .u8 0, .int .u8 0, .int .u8 0, .int .u8 0, .int .u8 0, .int .u8 0, .int .u8 0, .int .u8 0, .int .u8 0, .int .u8 0, .int .u8 0, .int .u8 0], .agg #[.int .i64 0, .int .i64 0, .int .i64 0, .slice none 0 0], .int .u8 0], []⟩ 8 (by kernel_rfl) (by kernel_rfl) (by kernel_rfl) (by kernel_rfl)) ?_
  intro W base args ds gs before hval0 hW hcnd _
  have hval : ∀ (j : Nat) t v, Try.f5.params[j]? = some t → args[j]? = some v → Value.okWide Try.prog W .any base t v := hval0
  have hW' := hW
  obtain ⟨p, q, hA0, hV, rfl, hfz, hnd⟩ := hW
  have hA : DataW.TrodAll enc Try.prog W 0 (fun _ => true) true Try.f5.params.toList args.toList ds p := hA0
  rw [Try.params5] at hA hval
  obtain ⟨v0, vs0, d0, ds0, p0, q0, hargs, rfl, rfl, h0, r0⟩ := trodAll_cons hA
  obtain ⟨v1, vs1, d1, ds1, p1, q1, rfl, rfl, rfl, h1, r1⟩ := trodAll_cons r0
  obtain ⟨v2, vs2, d2, ds2, p2, q2, rfl, rfl, rfl, h2, r2⟩ := trodAll_cons r1
  obtain ⟨v3, vs3, d3, ds3, p3, q3, rfl, rfl, rfl, h3, r3⟩ := trodAll_cons r2
  obtain ⟨rfl, rfl, rfl⟩ := trodAll_nil r3
  obtain rfl : args = #[v0, v1, v2, v3] := by cases args; simp_all
  obtain ⟨rfl, rfl⟩ := trodVars_none hV
  have lt0 : ∀ x ∈ p0, x.block < W.heap.size := by obtain ⟨m, hm⟩ := h0; exact DataW.trod_lt m _ _ _ hm
  have lt1 : ∀ x ∈ p1, x.block < W.heap.size := by obtain ⟨m, hm⟩ := h1; exact DataW.trod_lt m _ _ _ hm
  have lt2 : ∀ x ∈ p2, x.block < W.heap.size := by obtain ⟨m, hm⟩ := h2; exact DataW.trod_lt m _ _ _ hm
  have lt3 : ∀ x ∈ p3, x.block < W.heap.size := by obtain ⟨m, hm⟩ := h3; exact DataW.trod_lt m _ _ _ hm
  obtain ⟨x0, rfl, in0⟩ := Desc.arg relayOnce_d0 (by kernel_rfl) (hval 0 _ v0 rfl rfl) h0
  obtain ⟨x1, rfl, in1⟩ := Desc.arg relayOnce_d1 (by kernel_rfl) (hval 1 _ v1 rfl rfl) h1
  obtain ⟨x2, rfl, in2⟩ := Desc.arg relayOnce_d2 (by kernel_rfl) (hval 2 _ v2 rfl rfl) h2
  obtain ⟨x3, rfl, in3⟩ := Desc.arg relayOnce_d3 (by kernel_rfl) (hval 3 _ v3 rfl rfl) h3
  clear hA0 hval0
  refine (law x0 x1 x2 x3 W in0 in1 in2 in3).mono fun e W' ⟨he, bel0⟩ => ?_
  subst he
  have bel := below_of bel0
  exact ⟨_, rfl, _, _, _, [], _, [], hW', trodAll_mk1 (shut_bool (by kernel_rfl) _), (trodAll_cons_mk (Below.trod laidOut (by kernel_rfl) (of_decide_eq_true (by kernel_rfl)) h0 bel lt0) (trodAll_cons_mk (Below.trod laidOut (by kernel_rfl) (of_decide_eq_true (by kernel_rfl)) h1 bel lt1) (trodAll_cons_mk (Below.trod laidOut (by kernel_rfl) (of_decide_eq_true (by kernel_rfl)) h2 bel lt2) (trodAll_cons_mk (Below.trod laidOut (by kernel_rfl) (of_decide_eq_true (by kernel_rfl)) h3 bel lt3) trodAll_mk0)))), rfl, bel.frame _, fun h => by cases h⟩
theorem relayOnce_over (law : relayOnce_asks) : Rows.relayOnceRow.holds Try.pinned (OpenSpec.ofChange Rows.relayOnceSpec) :=
  OpenClaim.holds_of_wide 5 Try.f5 rfl rfl rfl rfl rfl rfl rfl ⟨rfl, rfl, rfl, rfl, rfl⟩ rfl rfl rfl rfl rfl (by kernel_rfl) Try.func5 (by kernel_rfl)
    (of_decide_eq_true (by kernel_rfl)) (by unfold Func.isWrapper; first | (rw [if_pos (by decide +kernel)]; kernel_rfl) | (rw [if_neg (by decide +kernel)]; exact ⟨rfl, rfl⟩))
    (fun os started H enc _ => relayOnce_lifted law os started H enc)
theorem relayOnce_said (law : relayOnce_asks) : Rows.RelayOnceSaid := relayOnce_over law
abbrev relayTells_d0 : Desc := (.arr 16 (.int .u8) 1)
abbrev relayTells_d1 : Desc := (.agg (.cons (.int .i64) 1 (.cons (.int .i64) 1 (.cons (.int .i64) 1 (.cons (.slice (.int .u8) 1) 1 .nil)))))
abbrev relayTells_d2 : Desc := (.int .i64)
/-- What the row asks of the law. -/
def relayTells_asks : Prop := ∀ (x0 : relayTells_d0.T) (x1 : relayTells_d1.T) (x2 : relayTells_d2.T) (w : World) (h0 : relayTells_d0.In w x0) (h1 : relayTells_d1.In w x1) (h2 : relayTells_d2.In w x2), Calls Try.prog 6 #[relayTells_d0.value x0, relayTells_d1.value x1, relayTells_d2.value x2] w fun e w' => e = .returned (.bool true) ∧ ∀ S, Fr8 w w' S
set_option maxRecDepth 100000 in
theorem relayTells_lifted (law : relayTells_asks) (os : Os) (started : os.Started) (H : Type) (enc : TypeId × Value → H) :
    ReturnsInHanded {} Try.checked os 6 .any (Rows.relayTellsSpec.pre6 enc Try.prog Try.f6 Rows.relayTellsRow.domain false) (Rows.relayTellsSpec.post enc Try.prog Try.f6 false true false false) := by
  refine returnsInHanded_of_change (C := Try.checked) own started (by kernel_rfl) Try.func6
    (ChangeSpec.witness6 (enc := enc) (C := Try.checked) false ⟨#[], #[.agg #[.int .u8 0, .int .u8 0, .int .u8 0, .int .u8 0, .int .u8 0, .int .u8 0, .int .u8 0, .int .u8 0, .int .u8 0, .int .u8 0, .int .u8 0, .int .u8 0, .int .u8 0, .int .u8 0, .int .u8 0, .int .u8 0], .agg #[.int .i64 0, .int .i64 0, .int .i64 0, .slice none 0 0], .int .i64 0], []⟩ 8 (by kernel_rfl) (by kernel_rfl) (by kernel_rfl) (by kernel_rfl)) ?_
  intro W base args ds gs before hval0 hW hcnd _
  have hval : ∀ (j : Nat) t v, Try.f6.params[j]? = some t → args[j]? = some v → Value.okWide Try.prog W .any base t v := hval0
  have hW' := hW
  obtain ⟨p, q, hA0, hV, rfl, hfz, hnd⟩ := hW
  have hA : DataW.TrodAll enc Try.prog W 0 (fun _ => true) true Try.f6.params.toList args.toList ds p := hA0
  rw [Try.params6] at hA hval
  obtain ⟨v0, vs0, d0, ds0, p0, q0, hargs, rfl, rfl, h0, r0⟩ := trodAll_cons hA
  obtain ⟨v1, vs1, d1, ds1, p1, q1, rfl, rfl, rfl, h1, r1⟩ := trodAll_cons r0
  obtain ⟨v2, vs2, d2, ds2, p2, q2, rfl, rfl, rfl, h2, r2⟩ := trodAll_cons r1
  obtain ⟨rfl, rfl, rfl⟩ := trodAll_nil r2
  obtain rfl : args = #[v0, v1, v2] := by cases args; simp_all
  obtain ⟨rfl, rfl⟩ := trodVars_none hV
  have lt0 : ∀ x ∈ p0, x.block < W.heap.size := by obtain ⟨m, hm⟩ := h0; exact DataW.trod_lt m _ _ _ hm
  have lt1 : ∀ x ∈ p1, x.block < W.heap.size := by obtain ⟨m, hm⟩ := h1; exact DataW.trod_lt m _ _ _ hm
  have lt2 : ∀ x ∈ p2, x.block < W.heap.size := by obtain ⟨m, hm⟩ := h2; exact DataW.trod_lt m _ _ _ hm
  obtain ⟨x0, rfl, in0⟩ := Desc.arg relayTells_d0 (by kernel_rfl) (hval 0 _ v0 rfl rfl) h0
  obtain ⟨x1, rfl, in1⟩ := Desc.arg relayTells_d1 (by kernel_rfl) (hval 1 _ v1 rfl rfl) h1
  obtain ⟨x2, rfl, in2⟩ := Desc.arg relayTells_d2 (by kernel_rfl) (hval 2 _ v2 rfl rfl) h2
  clear hA0 hval0
  refine (law x0 x1 x2 W in0 in1 in2).mono fun e W' ⟨he, bel0⟩ => ?_
  subst he
  have bel := below_of bel0
  exact ⟨_, rfl, _, _, _, [], _, [], hW', trodAll_mk1 (shut_bool (by kernel_rfl) _), (trodAll_cons_mk (Below.trod laidOut (by kernel_rfl) (of_decide_eq_true (by kernel_rfl)) h0 bel lt0) (trodAll_cons_mk (Below.trod laidOut (by kernel_rfl) (of_decide_eq_true (by kernel_rfl)) h1 bel lt1) (trodAll_cons_mk (Below.trod laidOut (by kernel_rfl) (of_decide_eq_true (by kernel_rfl)) h2 bel lt2) trodAll_mk0))), rfl, bel.frame _, fun h => by cases h⟩
theorem relayTells_over (law : relayTells_asks) : Rows.relayTellsRow.holds Try.pinned (OpenSpec.ofChange Rows.relayTellsSpec) :=
  OpenClaim.holds_of_wide 6 Try.f6 rfl rfl rfl rfl rfl rfl rfl ⟨rfl, rfl, rfl, rfl, rfl⟩ rfl rfl rfl rfl rfl (by kernel_rfl) Try.func6 (by kernel_rfl)
    (of_decide_eq_true (by kernel_rfl)) (by unfold Func.isWrapper; first | (rw [if_pos (by decide +kernel)]; kernel_rfl) | (rw [if_neg (by decide +kernel)]; exact ⟨rfl, rfl⟩))
    (fun os started H enc _ => relayTells_lifted law os started H enc)
theorem relayTells_said (law : relayTells_asks) : Rows.RelayTellsSaid := relayTells_over law
end Go.Proofs.Ytcnkafgimclghaa
