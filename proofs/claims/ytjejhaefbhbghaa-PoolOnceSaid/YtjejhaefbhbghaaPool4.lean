import Derived.Test.YtjejhaefbhbghaaPool3
/- The pool's calls. -/
namespace Go.Proofs
open Gp
open Gp.Pool (stepL stepL_get alike cls oth wantsL take)
set_option maxRecDepth 100000

theorem wants_ok {w : World} {p g : Nat} {lo hi want n : Int} {s : SliceV} (h : Row w p (poolV lo hi s g)) (hn : n = 6 ∨ n = 17) (h1 : IntP lo) (h2 : IntP hi) (h3 : 0 ≤ want) (h4 : want ≤ 65535) :
    c_pool_Pool_Wants (some ⟨p, 0, none⟩) n want w fun v w' => Ext w w' ∧ ∃ C, IterFn2 Try.prog [.one (.int .i64)] v C (yP (wantsL lo hi want (cls want) (oth want))) ∧
      ∀ W S, Fr8 w' W S → (∀ b, w.heap.size ≤ b → b < w'.heap.size → ¬ S b) → ¬ S p → C W := by
  apply ok_pool_Pool_Wants
  unfold s_pool_Pool_Wants
  refine ⟨rfl, Al_e fun a w1 r1 e1 z1 f1 => ⟨rfl, Al_e fun b w2 r2 e2 z2 f2 => ⟨rfl, Al_e fun t w3 r3 e3 z3 f3 => ?_⟩⟩⟩
  have r1 := (r1.ext f2).ext f3
  have r2 := r2.ext f3
  have hp := ((h.ext f1).ext f2).ext f3
  exact ⟨(f1.trans f2).trans f3, _, wants_iter hn h1 h2 h3 h4, fun W S hf hs hps => ⟨r1.fr hf (hs _ (by omega) (by omega)), r2.fr hf (hs _ (by omega) (by omega)), r3.fr hf (hs _ (by omega) (by omega)), hp.fr hf hps⟩⟩

abbrev O3 := Int × Int × Int
def encO (x : O3) : Value := .agg ⟨[.int .i64 x.1, .int .i64 x.2.1, .int .i64 x.2.2]⟩

theorem ibeq (a b : Int) : (a == b) = decide (a = b) := rfl

theorem eqO (a b : O3) : eqT Try.prog 16 32 (encO a) (encO b) = some (decide (a = b)) := by
  have h : eqT Try.prog 16 32 (encO a) (encO b) = some ((a.1 == b.1) && ((a.2.1 == b.2.1) && ((a.2.2 == b.2.2) && true))) := by kernel_rfl
  rw [h]
  obtain ⟨a1, a2, a3⟩ := a
  obtain ⟨b1, b2, b3⟩ := b
  simp [ibeq, Bool.decide_and]

theorem keyO_ok (a : O3) : keyOK Try.prog 32 (encO a) = true := by
  unfold keyOK
  rw [eqO]
  rfl

theorem eqP (a b : Int) : eqT Try.prog 16 3 (.int .i64 a) (.int .i64 b) = some (decide (a = b)) := by
  have h : eqT Try.prog 16 3 (.int .i64 a) (.int .i64 b) = some (a == b) := by kernel_rfl
  rw [h]; rfl
theorem keyP_ok (a : Int) : keyOK Try.prog 3 (.int .i64 a) = true := by
  unfold keyOK
  rw [eqP]
  rfl

theorem right_ok (k : Int) (w : World) : c_four_Right k w fun r w' => r = decide (0 ≤ k ∧ k < 4294967296) ∧ w' = w := by
  apply ok_four_Right
  unfold s_four_Right
  by_cases h : 0 ≤ k
  · simp [h]
  · simp [h]

end Go.Proofs
