import Derived.Test.YtcoolonmnjacfaaJN5
/- A table that no call made. -/
namespace Go.Proofs
open Gp Gp.Hol Gp.Jn
set_option maxRecDepth 100000
set_option maxHeartbeats 1000000

/-- No table, or one without a map. -/
def NoT (w : World) (t : Option Addr) : Prop := t = none ∨ ∃ a, t = some ⟨a, 0, none⟩ ∧ Row w a [.map none, .int .i64 0, .int .i64 0, .int .i64 0]

section
variable {w : World} {t : Option Addr} (h : NoT w t)
 include h
theorem nready_ok : c_join_Table_ready t w fun r w' => r = false ∧ w' = w := by
  apply ok_join_Table_ready
  unfold s_join_Table_ready
  rcases h with rfl | ⟨a, rfl, r⟩
  · simp only [Option.isNone_none, Bool.not_true, cond_false]; exact ⟨by trivial, by trivial⟩
  · simp only [Option.isNone_some, Bool.not_false, cond_true, Option.isNone_some, Option.isNone_none, cond_true, ex_some, Ld_eq, List.getElem?_cons_zero, LdV_some, dec_map, r.cell, Option.isNone_none, Bool.not_true]; exact ⟨by trivial, by trivial⟩

theorem nadd_ok (k : ByteArray) (off : Int) (more : Bool) (s : SliceV) (hd : ByteArray) (now : Int) : c_join_Table_Add t k off more s hd now w fun _ _ done e w' => done = false ∧ e = 2 ∧ w' = w := by
  apply ok_join_Table_Add
  unfold s_join_Table_Add
  refine cm_join_Table_ready (nready_ok h) ?_
  rintro r w1 ⟨rfl, hw⟩
  subst hw
  rw [Bool.not_false, cond_true]
  exact ⟨rfl, rfl, rfl⟩
theorem nbytes_ok : c_join_Table_Bytes t w fun r w' => r = 0 ∧ w' = w := by
  apply ok_join_Table_Bytes
  unfold s_join_Table_Bytes
  refine cm_join_Table_ready (nready_ok h) ?_
  rintro r w1 ⟨rfl, hw⟩
  subst hw
  rw [Bool.not_false, cond_true]
  exact ⟨rfl, rfl⟩
theorem nbufs_ok : c_join_Table_Bufs t w fun r w' => r = 0 ∧ w' = w := by
  apply ok_join_Table_Bufs
  unfold s_join_Table_Bufs
  refine cm_join_Table_ready (nready_ok h) ?_
  rintro r w1 ⟨rfl, hw⟩
  subst hw
  rw [Bool.not_false, cond_true]
  exact ⟨rfl, rfl⟩
theorem nkeys_ok : c_join_Table_Keys t w fun r w' => r.len = 0 ∧ w' = w := by
  apply ok_join_Table_Keys
  unfold s_join_Table_Keys
  refine cm_join_Table_ready (nready_ok h) ?_
  rintro r w1 ⟨rfl, hw⟩
  subst hw
  rw [Bool.not_false, cond_true]
  exact ⟨rfl, rfl⟩
theorem nexpire_ok (now : Int) : c_join_Table_Expire t now w fun r w' => r.len = 0 ∧ w' = w := by
  apply ok_join_Table_Expire
  unfold s_join_Table_Expire
  intro J
  refine cm_join_Table_ready (nready_ok h) ?_
  rintro r w1 ⟨rfl, hw⟩
  subst hw
  rw [Bool.not_false, cond_true]
  simp only [J, cond_true]
  exact ⟨by trivial, by trivial⟩
end

theorem nobody16_ok (k : ByteArray) (off : Int) (s : SliceV) (now : Int) (w : World) : c_law16_JoinNobody k off s now w fun r w' => r = true ∧ Ext w w' := by
  apply ok_law16_JoinNobody
  unfold s_law16_JoinNobody
  refine Al_e fun a w1 ra ea z1 f1 => ?_
  have h1 : NoT w1 none := .inl rfl
  have h2 : NoT w1 (some ⟨a, 0, none⟩) := .inr ⟨a, rfl, ra⟩
  refine cm_join_Table_Add (nadd_ok h1 k off false s k now) ?_
  rintro _ _ _ _ w2 ⟨rfl, rfl, hw⟩
  subst hw
  refine cm_join_Table_Add (nadd_ok h2 k off false s k now) ?_
  rintro _ _ _ _ w3 ⟨rfl, rfl, hw⟩
  subst hw
  refine JoinP.of fun J hJ => ?_
  simp only [Bool.not_false, cond_true, show ((2 : Int) == 2) = true from rfl]
  refine cm_join_Table_Bytes (nbytes_ok h1) ?_
  rintro r w4 ⟨rfl, hw⟩
  subst hw
  simp only [cond_true, show ((0 : Int) == 0) = true from rfl]
  refine cm_join_Table_Bufs (nbufs_ok h2) ?_
  rintro r w4 ⟨rfl, hw⟩
  subst hw
  simp only [cond_true, show ((0 : Int) == 0) = true from rfl]
  refine cm_join_Table_Expire (nexpire_ok h1 now) ?_
  rintro r w4 ⟨hr, hw⟩
  subst hw
  rw [hr]
  simp only [cond_true, show (((0 : Nat) : Int) == 0) = true from rfl]
  refine cm_join_Table_Keys (nkeys_ok h2) ?_
  rintro r w4 ⟨hr, hw⟩
  subst hw
  rw [hr]
  simp only [cond_true, show (((0 : Nat) : Int) == 0) = true from rfl]
  refine cm_law16_awake (awake16_ok _) ?_
  rintro r w5 ⟨rfl, f5⟩
  exact hJ _ ⟨by trivial, f1.trans f5⟩
end Go.Proofs
