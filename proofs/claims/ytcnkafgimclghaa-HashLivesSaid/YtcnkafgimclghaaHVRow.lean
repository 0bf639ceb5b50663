import Derived.Test.YtcnkafgimclghaaRows
import Derived.WalkKit
import Derived.ProofKit
import Derived.OpenShut
import Derived.ShutString
import Derived.ChangeOld
import Derived.Below
import Derived.Test.YtcnkafgimclghaaTyped
namespace Go.Proofs.Ytcnkafgimclghaa
open Go.ChangeShapes Go.WideShapes Go.ChangeAt Go.RowKit Gp
theorem own : ownKnob Try.prog.godebug = none := by kernel_rfl
theorem laidOut : laidOutB Try.prog = true := by kernel_rfl
abbrev hashLives_d0 : Desc := (.int .i64)
abbrev hashLives_d1 : Desc := (.slice (.agg (.cons (.int .i64) 1 (.cons .str 1 (.cons (.int .i64) 1 .nil)))) 3)
/-- What the row asks of the law. -/
def hashLives_asks : Prop := ∀ (x0 : hashLives_d0.T) (x1 : hashLives_d1.T) (w : World) (h0 : hashLives_d0.In w x0) (h1 : hashLives_d1.In w x1), Calls Try.prog 7 #[hashLives_d0.value x0, hashLives_d1.value x1] w fun e w' => e = .returned (.bool true) ∧ ∀ S, Fr8 w w' S
set_option maxRecDepth 100000 in
theorem hashLives_lifted (law : hashLives_asks) (os : Os) (started : os.Started) (H : Type) (enc : TypeId × Value → H) :
    ReturnsInHanded {} Try.checked os 7 .any (Rows.hashLivesSpec.pre6 enc Try.prog Try.f7 Rows.hashLivesRow.domain false) (Rows.hashLivesSpec.post enc Try.prog Try.f7 false true false false) := by
  refine returnsInHanded_of_change (C := Try.checked) own started (by kernel_rfl) Try.func7
    (ChangeSpec.witness6 (enc := enc) (C := Try.checked) false ⟨#[], #[.int .i64 0, .slice none 0 0], []⟩ 8 (by kernel_rfl) (by kernel_rfl) (by kernel_rfl) (by kernel_rfl)) ?_
  intro W base args ds gs before hval0 hW hcnd _
  have hval : ∀ (j : Nat) t v, Try.f7.params[j]? = some t → args[j]? = some v → Value.okWide Try.prog W .any base t v := hval0
  have hW' := hW
  obtain ⟨p, q, hA0, hV, rfl, hfz, hnd⟩ := hW
  have hA : DataW.TrodAll enc Try.prog W 0 (fun _ => true) true Try.f7.params.toList args.toList ds p := hA0
  rw [Try.params7] at hA hval
  obtain ⟨v0, vs0, d0, ds0, p0, q0, hargs, rfl, rfl, h0, r0⟩ := trodAll_cons hA
  obtain ⟨v1, vs1, d1, ds1, p1, q1, rfl, rfl, rfl, h1, r1⟩ := trodAll_cons r0
  obtain ⟨rfl, rfl, rfl⟩ := trodAll_nil r1
  obtain rfl : args = #[v0, v1] := by cases args; simp_all
  obtain ⟨rfl, rfl⟩ := trodVars_none hV
  have lt0 : ∀ x ∈ p0, x.block < W.heap.size := by obtain ⟨m, hm⟩ := h0; exact DataW.trod_lt m _ _ _ hm
  have lt1 : ∀ x ∈ p1, x.block < W.heap.size := by obtain ⟨m, hm⟩ := h1; exact DataW.trod_lt m _ _ _ hm
  obtain ⟨x0, rfl, in0⟩ := Desc.arg hashLives_d0 (by kernel_rfl) (hval 0 _ v0 rfl rfl) h0
  obtain ⟨x1, rfl, in1⟩ := Desc.arg hashLives_d1 (by kernel_rfl) (hval 1 _ v1 rfl rfl) h1
  clear hA0 hval0
  refine (law x0 x1 W in0 in1).mono fun e W' ⟨he, bel0⟩ => ?_
  subst he
  have bel := below_of bel0
  exact ⟨_, rfl, _, _, _, [], _, [], hW', trodAll_mk1 (shut_bool (by kernel_rfl) _), (trodAll_cons_mk (Below.trod laidOut (by kernel_rfl) (of_decide_eq_true (by kernel_rfl)) h0 bel lt0) (trodAll_cons_mk (Below.trod laidOut (by kernel_rfl) (of_decide_eq_true (by kernel_rfl)) h1 bel lt1) trodAll_mk0)), rfl, bel.frame _, fun h => by cases h⟩
theorem hashLives_over (law : hashLives_asks) : Rows.hashLivesRow.holds Try.pinned (OpenSpec.ofChange Rows.hashLivesSpec) :=
  OpenClaim.holds_of_wide 7 Try.f7 rfl rfl rfl rfl rfl rfl rfl ⟨rfl, rfl, rfl, rfl, rfl⟩ rfl rfl rfl rfl rfl (by kernel_rfl) Try.func7 (by kernel_rfl)
    (of_decide_eq_true (by kernel_rfl)) (by unfold Func.isWrapper; first | (rw [if_pos (by decide +kernel)]; kernel_rfl) | (rw [if_neg (by decide +kernel)]; exact ⟨rfl, rfl⟩))
    (fun os started H enc _ => hashLives_lifted law os started H enc)
theorem hashLives_said (law : hashLives_asks) : Rows.HashLivesSaid := hashLives_over law
end Go.Proofs.Ytcnkafgimclghaa
