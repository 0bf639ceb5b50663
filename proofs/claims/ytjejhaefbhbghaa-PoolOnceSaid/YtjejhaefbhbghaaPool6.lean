import Derived.Test.YtjejhaefbhbghaaPool5
/- A new pool of one address. -/
namespace Go.Proofs
open Gp
open Gp.Pool (stepL stepL_get alike cls oth wantsL)
set_option maxRecDepth 100000

theorem block_ok {x y a : Int} (hy : 0 ≤ y) (hy2 : y ≤ 32) (w : World) : c_four_block_has x y a w fun r w' => r = (decide (0 ≤ a ∧ a < 4294967296) && (shrI .i64 a (32 - y) == shrI .i64 x (32 - y))) ∧ Ext w w' := by
  apply ok_four_block_has
  unfold s_four_block_has
  refine Al_e fun t w1 r1 e1 z1 f1 => ?_
  simp only [Ld_eq, List.getElem?_cons_zero, List.getElem?_cons_succ, LdV_some, dec_int, add_mk, Nat.zero_add, r1.cell]
  refine cm_four_Right (right_ok a _) ?_
  rintro _ w' ⟨rfl, hw⟩
  subst hw
  have f2 := f1.trans (Ext.drew w1)
  by_cases h : 0 ≤ a ∧ a < 4294967296
  · rw [wrap_i64 (by omega) (by omega)]
    simp only [h, decide_true, cond_true, cond_true, List.getElem?_cons_zero, LdV_some, dec_int, r1.drew.cell, and_self, Bool.true_and]
    exact ⟨by omega, by omega, by trivial, f2⟩
  · simp only [h, decide_false, cond_false, Bool.false_and]
    exact ⟨by trivial, f2⟩

theorem contains_nil {a : Option Addr} {c : Nat} (x : Int) (w : World) : c_slices_Contains_int_int ⟨a, 0, c⟩ x w fun r w' => r = false ∧ w' = w := by
  apply ok_slices_Contains_int_int
  unfold s_slices_Contains_int_int
  refine cm_slices_Index_int_int (K := fun r w' => r = -1 ∧ w' = w) ?_ ?_
  · apply ok_slices_Index_int_int
    unfold s_slices_Index_int_int
    refine LoopP_inv (fun st W => st.1 = 0 ∧ W = w) (fun _ _ => 0) ⟨rfl, rfl⟩ ?_
    rintro ⟨i, ⟨⟩⟩ W ⟨rfl, rfl⟩ next _
    simp
  · rintro _ w' ⟨rfl, rfl⟩
    exact ⟨rfl, rfl⟩

/-- An address that lies in none of the blocks that are no host's. -/
def hostA (a : Int) : Prop := 0 ≤ a ∧ a < 4294967296 ∧ (shrI .i64 a 24 == shrI .i64 0 24) = false ∧ (shrI .i64 a 24 == shrI .i64 2130706432 24) = false ∧ (shrI .i64 a 29 == shrI .i64 3758096384 29) = false

theorem host_ok {a : Int} (h : hostA a) (w : World) : c_four_Host a w fun r w' => r = true ∧ Ext w w' := by
  obtain ⟨h1, h2, h3, h4, h5⟩ := h
  apply ok_four_Host
  unfold s_four_Host
  refine cm_four_Right (right_ok a _) ?_
  rintro _ w' ⟨rfl, hw⟩
  subst hw
  have hr : (0 ≤ a ∧ a < 4294967296) := ⟨h1, h2⟩
  simp only [hr, and_self, decide_true, Bool.not_true, cond_false]
  refine Al_e fun t w1 r1 e1 z1 f1 => ?_
  refine cm_four_one (K := fun r w2 => r = false ∧ Ext w1 w2) ?_ ?_
  · apply ok_four_one
    unfold s_four_one
    refine LoopP_inv (fun st W => ∃ j : Nat, j ≤ 3 ∧ st.1 = (j : Int) ∧ Ext w1 W) (fun st _ => (3 - st.1).toNat) ⟨0, by omega, rfl, Ext.refl _⟩ ?_
    rintro ⟨i, ⟨⟩⟩ W ⟨j, hj, hi, hx⟩ next hnext
    simp only at hi
    subst hi
    have r := r1.ext hx
    by_cases hlt : j < 3
    · have hl : ((j : Int) < ((3 : Nat) : Int)) := by omega
      have hxy : ∃ x y : Int, 0 ≤ y ∧ y ≤ 32 ∧ (shrI .i64 a (32 - y) == shrI .i64 x (32 - y)) = false ∧ W.cell? ⟨t, j * 2, none⟩ = some (.int .i64 x) ∧ W.cell? ⟨t, j * 2 + 1, none⟩ = some (.int .i64 y) := by
        match j, hlt with
        | 0, _ => exact ⟨0, 8, by omega, by omega, h3, r.cell 0, r.cell 1⟩
        | 1, _ => exact ⟨2130706432, 8, by omega, by omega, h4, r.cell 2, r.cell 3⟩
        | 2, _ => exact ⟨3758096384, 3, by omega, by omega, h5, r.cell 4, r.cell 5⟩
      obtain ⟨x, y, hy, hy2, hs, c0, c1⟩ := hxy
      simp only [hl, decide_true, cond_true, cond_true, Ld_eq, LdV_some, dec_int, AtIx_some, add_mk, Nat.zero_add, Nat.add_zero, Int.toNat_natCast, c0, c1]
      refine ⟨by first | trivial | omega, by first | trivial | omega, ?_⟩
      refine Al_f rfl rfl fun b w3 r3 e3 z3 x3 => ?_
      simp only [List.getElem?_cons_zero, List.getElem?_cons_succ, LdV_some, dec_int, add_mk, Nat.zero_add, Nat.add_zero, r3.cell]
      refine cm_four_block_has (block_ok hy hy2 _) ?_
      rintro _ w4 ⟨rfl, x4⟩
      simp only [hs, Bool.and_false, cond_false]
      rw [wrap_i64 (by omega) (by omega)]
      exact hnext _ _ ⟨j + 1, by omega, by simp, (hx.trans x3).trans x4⟩ (by simp only; omega)
    · have hl : ¬ ((j : Int) < ((3 : Nat) : Int)) := by omega
      simp only [hl, decide_false, cond_false]
      exact ⟨by trivial, hx⟩
  · rintro _ w2 ⟨rfl, f2⟩
    exact ⟨rfl, f1.trans f2⟩

end Go.Proofs
