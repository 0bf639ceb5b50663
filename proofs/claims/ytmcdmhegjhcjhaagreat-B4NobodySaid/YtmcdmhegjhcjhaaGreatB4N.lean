import Derived.Test.YtmcdmhegjhcjhaaGreatRnB4
/- An element that no call made. -/
namespace Go.Proofs
open Gp
set_option maxRecDepth 100000
set_option maxHeartbeats 1000000

/-- No element, or one without a table. -/
def NoB (w : World) (t : Option Addr) : Prop := t = none ∨ ∃ a, t = some ⟨a, 0, none⟩ ∧ w.cell? ⟨a, 37, none⟩ = some (.pointer none)

section
variable {w : World} {t : Option Addr} (h : NoB w t)
 include h
theorem bready_ok : c_b4_B4_ready t w fun r w' => r = false ∧ w' = w := by
  apply ok_b4_B4_ready
  unfold s_b4_B4_ready
  rcases h with rfl | ⟨a, rfl, r⟩
  · simp only [Option.isNone_none, Bool.not_true, cond_false]; exact ⟨by trivial, by trivial⟩
  · simp only [Option.isNone_some, Bool.not_false, cond_true, StN_nil, Option.isNone_some, Option.isNone_none, cond_false, cond_true, ex_some, Ld_eq, List.getElem?_cons_zero, List.getElem?_cons_succ, LdV_some, dec_slice, dec_int, dec_bool, dec_ptr, dec_str, dec_map, dec_any, AtIx_some, add_mk, Nat.zero_add, Nat.add_zero, r, Option.isNone_none, Bool.not_true]; exact ⟨by trivial, by trivial⟩
theorem badv_ok (n : Int) : c_b4_B4_Advance t n w fun w' => w' = w := by
  apply ok_b4_B4_Advance
  unfold s_b4_B4_Advance
  refine cm_b4_B4_ready (bready_ok h) ?_
  rintro r w1 ⟨rfl, hw⟩
  subst hw
  rw [Bool.not_false, cond_true]
theorem bhost_ok (s : SliceV) : c_b4_B4_Host t s w fun _ _ e w' => e = 1 ∧ w' = w := by
  apply ok_b4_B4_Host
  unfold s_b4_B4_Host
  refine cm_b4_B4_ready (bready_ok h) ?_
  rintro r w1 ⟨rfl, hw⟩
  subst hw
  rw [Bool.not_false, cond_true]
  exact ⟨rfl, rfl⟩
theorem btun_ok (s : SliceV) : c_b4_B4_Tunnel t s w fun _ _ e w' => e = 1 ∧ w' = w := by
  apply ok_b4_B4_Tunnel
  unfold s_b4_B4_Tunnel
  refine cm_b4_B4_ready (bready_ok h) ?_
  rintro r w1 ⟨rfl, hw⟩
  subst hw
  rw [Bool.not_false, cond_true]
  exact ⟨rfl, rfl⟩
theorem bcnt_ok : c_b4_B4_Counts t w fun r w' => r.len = 0 ∧ w' = w := by
  apply ok_b4_B4_Counts
  unfold s_b4_B4_Counts
  refine cm_b4_B4_ready (bready_ok h) ?_
  rintro r w1 ⟨rfl, hw⟩
  subst hw
  rw [Bool.not_false, cond_true]
  exact ⟨rfl, rfl⟩
theorem bbytes_ok : c_b4_B4_Bytes t w fun r w' => r = 0 ∧ w' = w := by
  apply ok_b4_B4_Bytes
  unfold s_b4_B4_Bytes
  refine cm_b4_B4_ready (bready_ok h) ?_
  rintro r w1 ⟨rfl, hw⟩
  subst hw
  rw [Bool.not_false, cond_true]
  exact ⟨rfl, rfl⟩
end

theorem b4nobody_ok (s : SliceV) (n : Int) (w : World) : c_law32_B4Nobody s n w fun r w' => r = true ∧ Ext w w' := by
  apply ok_law32_B4Nobody
  unfold s_law32_B4Nobody
  refine Al_e fun a w1 r1 e1 z1 f1 => ?_
  have hz : NoB w1 (some ⟨a, 0, none⟩) := .inr ⟨a, rfl, by rw [r1.cell]; rfl⟩
  have hn : NoB w1 none := .inl rfl
  refine cm_b4_B4_Advance (badv_ok hn n) ?_
  intro w2 hw
  subst hw
  refine cm_b4_B4_Host (bhost_ok hn s) ?_
  rintro _ _ e w2 ⟨rfl, hw⟩
  subst hw
  refine cm_b4_B4_Tunnel (btun_ok hz s) ?_
  rintro _ _ e w2 ⟨rfl, hw⟩
  subst hw
  intro J
  simp -zeta only [show ((1 : Int) == 1) = true from rfl, cond_true]
  refine cm_b4_B4_Counts (bcnt_ok hn) ?_
  rintro r w2 ⟨hr, hw⟩
  subst hw
  rw [hr]
  simp -zeta only [show (((0 : Nat) : Int) == 0) = true from rfl, cond_true]
  refine cm_b4_B4_Bytes (bbytes_ok hz) ?_
  rintro r w2 ⟨rfl, hw⟩
  subst hw
  simp -zeta only [show ((0 : Int) == 0) = true from rfl, cond_true]
  refine cm_law32_awake (awake_ok _) ?_
  rintro r w3 ⟨rfl, f3⟩
  simp only [J]
  exact ⟨by trivial, f1.trans f3⟩
end Go.Proofs
