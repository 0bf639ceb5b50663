import Derived.Test.YtmcdmhegjhcjhaaGreatRows
import Derived.WalkKit
import Derived.ProofKit
import Derived.OpenShut
import Derived.ShutString
import Derived.ChangeOld
import Derived.Below
import Derived.Test.YtmcdmhegjhcjhaaGreatTyped
import Derived.Test.YtmcdmhegjhcjhaaGreatPcCl
namespace Go.Proofs.YtmcdmhegjhcjhaaGreat
open Go.ChangeShapes Go.WideShapes Go.ChangeAt Go.RowKit Gp
theorem own : ownKnob Tryz.prog.godebug = none := by kernel_rfl
theorem laidOut : laidOutB Tryz.prog = true := by kernel_rfl
abbrev pcpdNobody_d0 : Desc := (.int .i64)
abbrev pcpdNobody_d1 : Desc := (.int .i64)
abbrev pcpdNobody_d2 : Desc := (.slice (.int .u8) 1)
abbrev pcpdNobody_d3 : Desc := (.int .i64)
/-- What the row asks of the law. -/
def pcpdNobody_asks : Prop := ∀ (x0 : pcpdNobody_d0.T) (x1 : pcpdNobody_d1.T) (x2 : pcpdNobody_d2.T) (x3 : pcpdNobody_d3.T) (w : World) (h0 : pcpdNobody_d0.In w x0) (h1 : pcpdNobody_d1.In w x1) (h2 : pcpdNobody_d2.In w x2) (h3 : pcpdNobody_d3.In w x3), Calls Tryz.prog 4 #[pcpdNobody_d0.value x0, pcpdNobody_d1.value x1, pcpdNobody_d2.value x2, pcpdNobody_d3.value x3] w fun e w' => e = .returned (.bool true) ∧ ∀ S, Fr8 w w' S
set_option maxRecDepth 100000 in
theorem pcpdNobody_lifted (law : pcpdNobody_asks) (os : Os) (started : os.Started) (H : Type) (enc : TypeId × Value → H) :
    ReturnsInHanded {} Tryz.checked os 4 .any (Rows.pcpdNobodySpec.pre6 enc Tryz.prog Tryz.f4 Rows.pcpdNobodyRow.domain false) (Rows.pcpdNobodySpec.post enc Tryz.prog Tryz.f4 false true false false) := by
  refine returnsInHanded_of_change (C := Tryz.checked) own started (by kernel_rfl) Tryz.func4
    (ChangeSpec.witness6 (enc := enc) (C := Tryz.checked) false ⟨#[], #[.int .i64 0, .int .i64 0, .slice none 0 0, .int .i64 0], []⟩ 8 (by kernel_rfl) (by kernel_rfl) (by kernel_rfl) (by kernel_rfl)) ?_
  intro W base args ds gs before hval0 hW hcnd _
  have hval : ∀ (j : Nat) t v, Tryz.f4.params[j]? = some t → args[j]? = some v → Value.okWide Tryz.prog W .any base t v := hval0
  have hW' := hW
  obtain ⟨p, q, hA0, hV, rfl, hfz, hnd⟩ := hW
  have hA : DataW.TrodAll enc Tryz.prog W 0 (fun _ => true) true Tryz.f4.params.toList args.toList ds p := hA0
  rw [Tryz.params4] at hA hval
  obtain ⟨v0, vs0, d0, ds0, p0, q0, hargs, rfl, rfl, h0, r0⟩ := trodAll_cons hA
  obtain ⟨v1, vs1, d1, ds1, p1, q1, rfl, rfl, rfl, h1, r1⟩ := trodAll_cons r0
  obtain ⟨v2, vs2, d2, ds2, p2, q2, rfl, rfl, rfl, h2, r2⟩ := trodAll_cons r1
  obtain ⟨v3, vs3, d3, ds3, p3, q3, rfl, rfl, rfl, h3, r3⟩ := trodAll_cons r2
  obtain ⟨rfl, rfl, rfl⟩ := trodAll_nil r3
  obtain rfl : args = #[v0, v1, v2, v3] := by cases args; simp_all
  obtain ⟨rfl, rfl⟩ := trodVars_none hV
  have lt0 : ∀ x ∈ p0, x.block < W.heap.size := by obtain ⟨m, hm⟩ := h0; exact DataW.trod_lt m _ _ _ hm
  have lt1 : ∀ x ∈ p1, x.block < W.heap.size := by obtain ⟨m, hm⟩ := h1; exact DataW.trod_lt m _ _ _ hm
  have lt2 : ∀ x ∈ p2, x.block < W.heap.size := by obtain ⟨m, hm⟩ := h2; exact DataW.trod_lt m _ _ _ hm
  have lt3 : ∀ x ∈ p3, x.block < W.heap.size := by obtain ⟨m, hm⟩ := h3; exact DataW.trod_lt m _ _ _ hm
  obtain ⟨x0, rfl, in0⟩ := Desc.arg pcpdNobody_d0 (by kernel_rfl) (hval 0 _ v0 rfl rfl) h0
  obtain ⟨x1, rfl, in1⟩ := Desc.arg pcpdNobody_d1 (by kernel_rfl) (hval 1 _ v1 rfl rfl) h1
  obtain ⟨x2, rfl, in2⟩ := Desc.arg pcpdNobody_d2 (by kernel_rfl) (hval 2 _ v2 rfl rfl) h2
  obtain ⟨x3, rfl, in3⟩ := Desc.arg pcpdNobody_d3 (by kernel_rfl) (hval 3 _ v3 rfl rfl) h3
  clear hA0 hval0
  refine (law x0 x1 x2 x3 W in0 in1 in2 in3).mono fun e W' ⟨he, bel0⟩ => ?_
  subst he
  have bel := below_of bel0
  exact ⟨_, rfl, _, _, _, [], _, [], hW', trodAll_mk1 (shut_bool (by kernel_rfl) _), (trodAll_cons_mk (Below.trod laidOut (by kernel_rfl) (of_decide_eq_true (by kernel_rfl)) h0 bel lt0) (trodAll_cons_mk (Below.trod laidOut (by kernel_rfl) (of_decide_eq_true (by kernel_rfl)) h1 bel lt1) (trodAll_cons_mk (Below.trod laidOut (by kernel_rfl) (of_decide_eq_true (by kernel_rfl)) h2 bel lt2) (trodAll_cons_mk (Below.trod laidOut (by kernel_rfl) (of_decide_eq_true (by kernel_rfl)) h3 bel lt3) trodAll_mk0)))), rfl, bel.frame _, fun h => by cases h⟩
theorem pcpdNobody_over (law : pcpdNobody_asks) : Rows.pcpdNobodyRow.holds Tryz.pinned (OpenSpec.ofChange Rows.pcpdNobodySpec) :=
  OpenClaim.holds_of_wide 4 Tryz.f4 rfl rfl rfl rfl rfl rfl rfl ⟨rfl, rfl, rfl, rfl, rfl⟩ rfl rfl rfl rfl rfl (by kernel_rfl) Tryz.func4 pcpdNobody_cl
    (of_decide_eq_true (by kernel_rfl)) (by unfold Func.isWrapper; first | (rw [if_pos (by decide +kernel)]; kernel_rfl) | (rw [if_neg (by decide +kernel)]; exact ⟨rfl, rfl⟩))
    (fun os started H enc _ => pcpdNobody_lifted law os started H enc)
theorem pcpdNobody_said (law : pcpdNobody_asks) : Rows.PcpdNobodySaid := pcpdNobody_over law
end Go.Proofs.YtmcdmhegjhcjhaaGreat
