import Derived.Test.YtiggfdfdijjinaaR21
import Derived.Test.YtiggfdfdijjinaaHeap
namespace Go.Proofs
open Gp

/-! ### What a quota does -/
def qShare (m : Int) (x : Int) : List Value := [.int .i64 x, .int .i64 m]
def qInt (x : Int) : List Value := [.int .i64 x]

structure QOk (l : List Int) (m : Int) : Prop where
  lo : ∀ x ∈ l, 0 ≤ x ∧ x ≤ m
  m0 : 0 ≤ m
  m1 : m ≤ 4096
  len : l.length ≤ 64

/-- The program's quota. -/
structure QR (w : World) (b s : Nat) (l : List Int) (m : Int) : Prop where
  hd : Row w b [.slice (some ⟨s, 0, none⟩) l.length l.length]
  row : Row w s (l.flatMap (qShare m))
  ne : b ≠ s
/-- The reference's. -/
structure QX (w : World) (b s : Nat) (l : List Int) (m : Int) : Prop where
  hd : Row w b [.slice (some ⟨s, 0, none⟩) l.length l.length, .int .i64 m]
  row : Row w s (l.flatMap qInt)
  ne : b ≠ s

theorem QR.fr {w w' : World} {b s : Nat} {l : List Int} {m : Int} {S : Nat → Prop} (h : QR w b s l m) (hf : Fr8 w w' S) (h1 : ¬ S b) (h2 : ¬ S s) : QR w' b s l m := ⟨h.hd.fr hf h1, h.row.fr hf h2, h.ne⟩
theorem QX.fr {w w' : World} {b s : Nat} {l : List Int} {m : Int} {S : Nat → Prop} (h : QX w b s l m) (hf : Fr8 w w' S) (h1 : ¬ S b) (h2 : ¬ S s) : QX w' b s l m := ⟨h.hd.fr hf h1, h.row.fr hf h2, h.ne⟩

def inR (l : List Int) (i : Int) : Prop := 0 ≤ i ∧ i < (l.length : Int)
instance (l : List Int) (i : Int) : Decidable (inR l i) := inferInstanceAs (Decidable (_ ∧ _))
def at_ (l : List Int) (i : Int) : Int := l.getD i.toNat 0

def takeF (l : List Int) (m i : Int) : Int × List Int :=
  if inR l i then (if at_ l i ≥ m then (10, l) else (0, l.set i.toNat (at_ l i + 1))) else (1, l)
def giveF (l : List Int) (i : Int) : Int × List Int :=
  if inR l i then (if at_ l i = 0 then (8, l) else (0, l.set i.toNat (at_ l i - 1))) else (1, l)
def countF (l : List Int) (i : Int) : Int := if inR l i then at_ l i else 0

theorem at_get {l : List Int} {i : Int} (h : inR l i) : l[i.toNat]? = some (at_ l i) := by
  obtain ⟨h0, h1⟩ := h
  have : i.toNat < l.length := by omega
  simp [at_, this]

theorem at_mem {l : List Int} {i : Int} (h : inR l i) : at_ l i ∈ l := List.mem_of_getElem? (at_get h)

theorem qShare_len (m x : Int) : (qShare m x).length = 2 := rfl
theorem qInt_len (x : Int) : (qInt x).length = 1 := rfl

theorem QR.cell0 {w : World} {b s : Nat} {l : List Int} {m i : Int} (h : QR w b s l m) (hi : inR l i) : w.cell? ⟨s, i.toNat * 2, none⟩ = some (.int .i64 (at_ l i)) := by
  rw [h.row.cell, ← Nat.add_zero (i.toNat * 2), flat_get _ 2 (qShare_len m) _ _ 0 (by omega), at_get hi]; rfl
theorem QR.cell1 {w : World} {b s : Nat} {l : List Int} {m i : Int} (h : QR w b s l m) (hi : inR l i) : w.cell? ⟨s, i.toNat * 2 + 1, none⟩ = some (.int .i64 m) := by
  rw [h.row.cell, flat_get _ 2 (qShare_len m) _ _ 1 (by omega), at_get hi]; rfl
theorem QX.cell0 {w : World} {b s : Nat} {l : List Int} {m i : Int} (h : QX w b s l m) (hi : inR l i) : w.cell? ⟨s, i.toNat * 1, none⟩ = some (.int .i64 (at_ l i)) := by
  rw [h.row.cell, ← Nat.add_zero (i.toNat * 1), flat_get _ 1 qInt_len _ _ 0 (by omega), at_get hi]; rfl

theorem QR.set {w w1 : World} {b s : Nat} {l : List Int} {m i y : Int} (h : QR w b s l m) (hi : inR l i) (hr : Row w1 s ((l.flatMap (qShare m)).set (i.toNat * 2) (.int .i64 y))) (hf : Fr8 w w1 (· = s)) :
    QR w1 b s (l.set i.toNat y) m := by
  refine ⟨by simpa using h.hd.fr hf h.ne, ?_, h.ne⟩
  rw [← Nat.add_zero (i.toNat * 2), flat_set _ 2 (qShare_len m) _ _ 0 (at_ l i) y _ (by omega) (at_get hi) rfl] at hr
  exact hr
theorem QX.set {w w1 : World} {b s : Nat} {l : List Int} {m i y : Int} (h : QX w b s l m) (hi : inR l i) (hr : Row w1 s ((l.flatMap qInt).set (i.toNat * 1) (.int .i64 y))) (hf : Fr8 w w1 (· = s)) :
    QX w1 b s (l.set i.toNat y) m := by
  refine ⟨by simpa using h.hd.fr hf h.ne, ?_, h.ne⟩
  rw [← Nat.add_zero (i.toNat * 1), flat_set _ 1 qInt_len _ _ 0 (at_ l i) y _ (by omega) (at_get hi) rfl] at hr
  exact hr

theorem of_ok {w : World} {b s : Nat} {l : List Int} {m : Int} (h : QR w b s l m) (i : Int) :
    c_quota_Quota_of (some ⟨b, 0, none⟩) i w fun p e w' => w' = w ∧ ((inR l i ∧ e = 0 ∧ p = some ⟨s, i.toNat * 2, none⟩) ∨ (¬ inR l i ∧ e = 1 ∧ p = none)) := by
  apply ok_quota_Quota_of
  simp only [s_quota_Quota_of, Option.isNone_some, cond_false, cond_true, ex_some, Ld_eq, List.getElem?_cons_zero, LdV_some, dec_slice, AtIx_some, add_mk, Nat.zero_add, h.hd.cell]
  by_cases h1 : i < 0
  · have : ¬ inR l i := fun x => by have := x.1; omega
    simp [h1, this]
  · by_cases h2 : i ≥ (l.length : Int)
    · have : ¬ inR l i := fun x => by have := x.2; omega
      simp [h1, h2, this]
    · have : inR l i := ⟨by omega, by omega⟩
      simp [h1, h2, this, this.1, this.2]

theorem full_ok (x m : Int) (w : World) : c_quota_share_full x m w fun r w' => r = decide (x ≥ m) ∧ ∀ S, Fr8 w w' S := by
  apply ok_quota_share_full
  unfold s_quota_share_full
  refine Al_row fun a w1 hr _ _ hf => ?_
  simp only [Ld_eq, List.getElem?_cons_zero, List.getElem?_cons_succ, LdV_some, dec_int, add_mk, Nat.zero_add, hr.cell]
  exact ⟨trivial, hf⟩

theorem take_ok {w : World} {b s : Nat} {l : List Int} {m : Int} (h : QR w b s l m) (hq : QOk l m) (i : Int) :
    c_quota_Quota_Take (some ⟨b, 0, none⟩) i w fun e w' => e = (takeF l m i).1 ∧ QR w' b s (takeF l m i).2 m ∧ Fr8 w w' (· = s) := by
  apply ok_quota_Quota_Take
  unfold s_quota_Quota_Take
  refine cm_quota_Quota_of (of_ok h i) ?_
  rintro p e w' ⟨rfl, ⟨hi, rfl, rfl⟩ | ⟨hi, rfl, rfl⟩⟩
  · have hx := hq.lo _ (at_mem hi)
    have hm := hq.m1
    simp only [bne_self_eq_false, cond_false, ex_some, Ld_eq, LdV_some, dec_int, add_mk, Nat.add_zero, h.cell0 hi, h.cell1 hi]
    refine cm_quota_share_full (full_ok _ _ _) ?_
    rintro r w1 ⟨rfl, hf⟩
    have h1 := h.fr (hf fun _ => False) (by simp) (by simp)
    by_cases hge : at_ l i ≥ m
    · simp only [hge, decide_true, cond_true]
      simp only [takeF, hi, hge, if_true]
      exact ⟨by trivial, h1, hf _⟩
    · simp only [hge, decide_false, cond_false, LdV_some, dec_int, h1.cell0 hi]
      have hw : IntKind.i64.wrap (at_ l i + 1) = at_ l i + 1 := wrap_i64 (by omega) (by omega)
      rw [hw]
      refine St_row h1.row rfl ?_ fun w2 hr2 hf2 _ => ?_
      · rw [flat_len _ 2 (qShare_len m)]; have := hi.1; have := hi.2; omega
      · simp only [takeF, hi, hge, if_true, if_false]
        exact ⟨by trivial, h1.set hi hr2 (hf2 (· = s) rfl), (hf _).trans (hf2 (· = s) rfl) fun _ _ e => e⟩
  · simp only [takeF, hi, if_false]
    exact ⟨by trivial, h, Fr8.refl _ _⟩

theorem give_ok {w : World} {b s : Nat} {l : List Int} {m : Int} (h : QR w b s l m) (hq : QOk l m) (i : Int) :
    c_quota_Quota_Give (some ⟨b, 0, none⟩) i w fun e w' => e = (giveF l i).1 ∧ QR w' b s (giveF l i).2 m ∧ Fr8 w w' (· = s) := by
  apply ok_quota_Quota_Give
  unfold s_quota_Quota_Give
  refine cm_quota_Quota_of (of_ok h i) ?_
  rintro p e w' ⟨rfl, ⟨hi, rfl, rfl⟩ | ⟨hi, rfl, rfl⟩⟩
  · have hx := hq.lo _ (at_mem hi)
    have hm := hq.m1
    simp only [bne_self_eq_false, cond_false, ex_some, Ld_eq, LdV_some, dec_int, h.cell0 hi]
    by_cases h0 : at_ l i = 0
    · simp only [h0, beq_self_eq_true, cond_true]
      simp only [giveF, hi, h0, if_true]
      exact ⟨by trivial, h, Fr8.refl _ _⟩
    · have h0' : (at_ l i == 0) = false := by simpa using h0
      have hw : IntKind.i64.wrap (at_ l i - 1) = at_ l i - 1 := wrap_i64 (by omega) (by omega)
      simp only [h0', cond_false, hw]
      refine St_row h.row rfl ?_ fun w2 hr2 hf2 _ => ?_
      · rw [flat_len _ 2 (qShare_len m)]; have := hi.1; have := hi.2; omega
      · simp only [giveF, hi, h0, if_true, if_false]
        exact ⟨by trivial, h.set hi hr2 (hf2 (· = s) rfl), hf2 (· = s) rfl⟩
  · simp only [giveF, hi, if_false]
    exact ⟨by trivial, h, Fr8.refl _ _⟩

theorem count_ok {w : World} {b s : Nat} {l : List Int} {m : Int} (h : QR w b s l m) (i : Int) :
    c_quota_Quota_Count (some ⟨b, 0, none⟩) i w fun n w' => n = countF l i ∧ w' = w := by
  apply ok_quota_Quota_Count
  unfold s_quota_Quota_Count
  refine cm_quota_Quota_of (of_ok h i) ?_
  rintro p e w' ⟨rfl, ⟨hi, rfl, rfl⟩ | ⟨hi, rfl, rfl⟩⟩
  · simp only [bne_self_eq_false, cond_false, ex_some, Ld_eq, LdV_some, dec_int, h.cell0 hi, countF, hi, if_true, and_self]
  · simp only [countF, hi, if_false]
    exact ⟨by trivial, by trivial⟩

theorem QX.inr_hd {l : List Int} {i : Int} : inR l i ↔ ¬ (i < 0) ∧ ¬ (i ≥ (l.length : Int)) := by unfold inR; omega

theorem xtake_ok {w : World} {b s : Nat} {l : List Int} {m : Int} (h : QX w b s l m) (hq : QOk l m) (i : Int) :
    c_ref21_Quota_Take (some ⟨b, 0, none⟩) i w fun e w' => e = (takeF l m i).1 ∧ QX w' b s (takeF l m i).2 m ∧ Fr8 w w' (· = s) := by
  apply ok_ref21_Quota_Take
  have hc : ∀ j, w.drew.cell? ⟨b, j, none⟩ = _ := h.hd.drew.cell
  have hd : QX w.drew b s l m := h.fr (Fr8.drew w fun _ => False) (by simp) (by simp)
  have hm := hq.m1
  simp only [s_ref21_Quota_Take, cond_true, ex_some, Ld_eq, List.getElem?_cons_zero, List.getElem?_cons_succ, LdV_some, dec_slice, dec_int, AtIx_some, add_mk, Nat.zero_add, h.hd.cell, hc]
  by_cases h1 : i < 0
  · have hi : ¬ inR l i := fun x => by have := x.1; omega
    simp only [h1, decide_true, cond_true, takeF, hi, if_false]
    exact ⟨by trivial, h, Fr8.refl _ _⟩
  · by_cases h2 : i ≥ (l.length : Int)
    · have hi : ¬ inR l i := fun x => by have := x.2; omega
      simp only [h1, h2, decide_true, decide_false, cond_false, cond_true, takeF, hi, if_false]
      exact ⟨by trivial, h, Fr8.refl _ _⟩
    · have hi : inR l i := ⟨by omega, by omega⟩
      have hx := hq.lo _ (at_mem hi)
      simp only [h1, h2, decide_false, cond_false, LdV_some, dec_int, hd.cell0 hi]
      refine ⟨hi.1, hi.2, ?_⟩
      by_cases hge : at_ l i ≥ m
      · simp only [hge, decide_true, cond_true, takeF, hi, if_true]
        exact ⟨by trivial, hd, Fr8.drew _ _⟩
      · simp only [hge, decide_false, cond_false]
        have hw : IntKind.i64.wrap (at_ l i + 1) = at_ l i + 1 := wrap_i64 (by omega) (by omega)
        rw [hw]
        refine ⟨hi.1, hi.2, hi.1, hi.2, ?_⟩
        refine St_row hd.row rfl ?_ fun w2 hr2 hf2 _ => ?_
        · rw [flat_len _ 1 qInt_len]; have := hi.1; have := hi.2; omega
        · simp only [takeF, hi, hge, if_true, if_false]
          exact ⟨by trivial, hd.set hi hr2 (hf2 (· = s) rfl), (Fr8.drew _ _).trans (hf2 (· = s) rfl) fun _ _ e => e⟩

theorem xgive_ok {w : World} {b s : Nat} {l : List Int} {m : Int} (h : QX w b s l m) (hq : QOk l m) (i : Int) :
    c_ref21_Quota_Give (some ⟨b, 0, none⟩) i w fun e w' => e = (giveF l i).1 ∧ QX w' b s (giveF l i).2 m ∧ Fr8 w w' (· = s) := by
  apply ok_ref21_Quota_Give
  have hm := hq.m1
  simp only [s_ref21_Quota_Give, cond_true, ex_some, Ld_eq, List.getElem?_cons_zero, LdV_some, dec_slice, AtIx_some, add_mk, Nat.zero_add, h.hd.cell]
  by_cases h1 : i < 0
  · have hi : ¬ inR l i := fun x => by have := x.1; omega
    simp only [h1, decide_true, cond_true, giveF, hi, if_false]
    exact ⟨by trivial, h, Fr8.refl _ _⟩
  · by_cases h2 : i ≥ (l.length : Int)
    · have hi : ¬ inR l i := fun x => by have := x.2; omega
      simp only [h1, h2, decide_true, decide_false, cond_false, cond_true, giveF, hi, if_false]
      exact ⟨by trivial, h, Fr8.refl _ _⟩
    · have hi : inR l i := ⟨by omega, by omega⟩
      have hx := hq.lo _ (at_mem hi)
      simp only [h1, h2, decide_false, cond_false, LdV_some, dec_int, h.cell0 hi]
      refine ⟨hi.1, hi.2, ?_⟩
      by_cases h0 : at_ l i = 0
      · simp only [h0, beq_self_eq_true, cond_true, giveF, hi, if_true]
        exact ⟨by trivial, h, Fr8.refl _ _⟩
      · have h0' : (at_ l i == 0) = false := by simpa using h0
        have hw : IntKind.i64.wrap (at_ l i - 1) = at_ l i - 1 := wrap_i64 (by omega) (by omega)
        simp only [h0', cond_false, hw]
        refine ⟨hi.1, hi.2, hi.1, hi.2, ?_⟩
        refine St_row h.row rfl ?_ fun w2 hr2 hf2 _ => ?_
        · rw [flat_len _ 1 qInt_len]; have := hi.1; have := hi.2; omega
        · simp only [giveF, hi, h0, if_true, if_false]
          exact ⟨by trivial, h.set hi hr2 (hf2 (· = s) rfl), hf2 (· = s) rfl⟩

theorem xcount_ok {w : World} {b s : Nat} {l : List Int} {m : Int} (h : QX w b s l m) (i : Int) :
    c_ref21_Quota_Count (some ⟨b, 0, none⟩) i w fun n w' => n = countF l i ∧ w' = w := by
  apply ok_ref21_Quota_Count
  simp only [s_ref21_Quota_Count, cond_true, ex_some, Ld_eq, List.getElem?_cons_zero, LdV_some, dec_slice, AtIx_some, add_mk, Nat.zero_add, h.hd.cell]
  by_cases h1 : i < 0
  · have hi : ¬ inR l i := fun x => by have := x.1; omega
    simp only [h1, decide_true, cond_true, countF, hi, if_false, and_self]
  · by_cases h2 : i ≥ (l.length : Int)
    · have hi : ¬ inR l i := fun x => by have := x.2; omega
      simp only [h1, h2, decide_true, decide_false, cond_false, cond_true, countF, hi, if_false, and_self]
    · have hi : inR l i := ⟨by omega, by omega⟩
      simp only [h1, h2, decide_false, cond_false, LdV_some, dec_int, h.cell0 hi, countF, hi, if_true, and_self]
      exact ⟨hi.1, hi.2, trivial⟩

def sumF : List Int → Int
  | [] => 0
  | x :: r => x + sumF r

theorem sumF_append (a b : List Int) : sumF (a ++ b) = sumF a + sumF b := by
  induction a with
  | nil => simp [sumF]
  | cons x a ih => simp [sumF, ih]; omega

theorem sumF_take {l : List Int} {k : Nat} (hk : k < l.length) : sumF (l.take (k + 1)) = sumF (l.take k) + at_ l k := by
  rw [List.take_succ_eq_append_getElem hk, sumF_append]
  simp [sumF, at_, hk]

theorem sumF_bd {l : List Int} {m : Int} (h : ∀ x ∈ l, 0 ≤ x ∧ x ≤ m) : 0 ≤ sumF l ∧ sumF l ≤ l.length * m := by
  induction l with
  | nil => simp [sumF]
  | cons x l ih =>
    have h1 := h x (by simp)
    have h2 := ih fun y hy => h y (by simp [hy])
    simp only [sumF, List.length_cons, Int.natCast_add, Int.add_mul, Int.natCast_one, Int.one_mul]
    omega

theorem sumF_small {l : List Int} {m : Int} (h : QOk l m) (k : Nat) : 0 ≤ sumF (l.take k) ∧ sumF (l.take k) ≤ 64 * 4096 := by
  have h1 := sumF_bd (l := l.take k) (m := m) fun x hx => h.lo x (List.mem_of_mem_take hx)
  have h2 : (l.take k).length ≤ 64 := by have := h.len; simp; omega
  have h3 : ((l.take k).length : Int) * m ≤ 64 * 4096 := Int.mul_le_mul (by omega) h.m1 h.m0 (by omega)
  omega

theorem total_ok {w : World} {b s : Nat} {l : List Int} {m : Int} (h : QR w b s l m) (hq : QOk l m) :
    c_quota_Quota_Total (some ⟨b, 0, none⟩) w fun n w' => n = sumF l ∧ ∀ S, Fr8 w w' S := by
  apply ok_quota_Quota_Total
  simp only [s_quota_Quota_Total, Option.isNone_some, cond_false, ex_some, Ld_eq, List.getElem?_cons_zero, LdV_some, dec_slice, AtIx_some, add_mk, Nat.zero_add, Nat.add_zero, h.hd.cell]
  refine LoopP_inv (fun st w' => (∃ k : Nat, k ≤ l.length ∧ st.2.1 = k ∧ st.1 = sumF (l.take k)) ∧ ∀ S, Fr8 w w' S) (fun st _ => l.length - st.2.1.toNat) ⟨⟨0, by omega, rfl, rfl⟩, fun S => Fr8.refl _ _⟩ ?_
  rintro ⟨n, i, ⟨⟩⟩ w1 ⟨⟨k, hk, rfl, rfl⟩, hf⟩ next hnext
  have h1 := h.fr (hf fun _ => False) (by simp) (by simp)
  simp only
  by_cases hlt : k < l.length
  · have hi : inR l (k : Int) := ⟨by omega, by omega⟩
    have hx := hq.lo _ (at_mem hi)
    have hlen := hq.len
    have hm := hq.m1
    have hs := sumF_small hq k
    simp only [hlt, Int.ofNat_lt, decide_true, cond_true, LdV_some, dec_int, h1.cell0 hi, h1.cell1 hi]
    refine ⟨hi.1, by first | exact hi.2 | trivial, ?_⟩
    refine Al_row fun a w2 hr2 _ _ hf2 => ?_
    simp only [add_mk, Nat.zero_add, Nat.add_zero]
    refine St_row hr2 rfl (by simp) fun w3 hr3 hf3 _ => ?_
    refine St_row hr3 rfl (by simp) fun w4 hr4 hf4 _ => ?_
    simp only [List.getElem?_cons_zero, LdV_some, dec_int, hr4.cell, List.set_cons_zero, List.set_cons_succ]
    have e1 : IntKind.i64.wrap (sumF (l.take k) + at_ l k) = sumF (l.take (k + 1)) := by rw [sumF_take hlt]; exact wrap_i64 (by omega) (by omega)
    have e2 : IntKind.i64.wrap ((k : Int) + 1) = ((k + 1 : Nat) : Int) := by rw [wrap_i64 (by omega) (by omega)]; omega
    rw [e1, e2]
    refine hnext _ _ ⟨⟨k + 1, by omega, rfl, rfl⟩, fun S => ?_⟩ (by simp only; omega)
    have ha : ∀ x, x < w.heap.size → x ≠ a := fun x hx => by have := (hf S).size; have := hr2.lt; omega
    exact (hf S).trans (((hf2 (· = a)).trans (hf3 (· = a) rfl) fun _ _ e => e).trans (hf4 (· = a) rfl) fun _ _ e => e) fun x hx e => absurd e (ha x hx)
  · have hk2 : k = l.length := by omega
    subst hk2
    simp only [Int.lt_irrefl, decide_false, cond_false, List.take_length]
    exact ⟨by trivial, hf⟩

theorem xtotal_ok {w : World} {b s : Nat} {l : List Int} {m : Int} (h : QX w b s l m) (hq : QOk l m) :
    c_ref21_Quota_Total (some ⟨b, 0, none⟩) w fun n w' => n = sumF l ∧ ∀ S, Fr8 w w' S := by
  apply ok_ref21_Quota_Total
  simp only [s_ref21_Quota_Total, ex_some, Ld_eq]
  refine LoopP_inv (fun st w' => (∃ k : Nat, k ≤ l.length ∧ st.2.1 = k ∧ st.1 = sumF (l.take k)) ∧ ∀ S, Fr8 w w' S) (fun st _ => l.length - st.2.1.toNat) ⟨⟨0, by omega, rfl, rfl⟩, fun S => Fr8.refl _ _⟩ ?_
  rintro ⟨n, i, ⟨⟩⟩ w1 ⟨⟨k, hk, rfl, rfl⟩, hf⟩ next hnext
  have h1 := h.fr (hf fun _ => False) (by simp) (by simp)
  simp only [List.getElem?_cons_zero, LdV_some, dec_slice, AtIx_some, add_mk, Nat.zero_add, h1.hd.cell]
  by_cases hlt : k < l.length
  · have hi : inR l (k : Int) := ⟨by omega, by omega⟩
    have hx := hq.lo _ (at_mem hi)
    have hlen := hq.len
    have hm := hq.m1
    have hs := sumF_small hq k
    simp only [hlt, Int.ofNat_lt, decide_true, cond_true, LdV_some, dec_int, h1.cell0 hi]
    have e1 : IntKind.i64.wrap (sumF (l.take k) + at_ l k) = sumF (l.take (k + 1)) := by rw [sumF_take hlt]; exact wrap_i64 (by omega) (by omega)
    have e2 : IntKind.i64.wrap ((k : Int) + 1) = ((k + 1 : Nat) : Int) := by rw [wrap_i64 (by omega) (by omega)]; omega
    rw [e1, e2]
    exact ⟨hi.1, by first | exact hi.2 | trivial, hnext _ _ ⟨⟨k + 1, by omega, rfl, rfl⟩, hf⟩ (by simp only; omega)⟩
  · have hk2 : k = l.length := by omega
    subst hk2
    simp only [Int.lt_irrefl, decide_false, cond_false, List.take_length]
    exact ⟨by trivial, hf⟩

/-! ### New quotas -/
theorem flat_rep (m x : Int) (n : Nat) : (List.replicate n x).flatMap (qShare m) = repCells (qShare m x) n := by
  induction n with
  | zero => rfl
  | succ n ih => simp [List.replicate_succ, repCells, ih]

theorem flat_rep1 (x : Int) (n : Nat) : (List.replicate n x).flatMap qInt = repCells (qInt x) n := by
  induction n with
  | zero => rfl
  | succ n ih => simp [List.replicate_succ, repCells, ih]

def newOk (n m : Int) : Prop := 1 ≤ n ∧ n ≤ 64 ∧ 0 ≤ m ∧ m ≤ 4096
instance (n m : Int) : Decidable (newOk n m) := inferInstanceAs (Decidable (_ ∧ _))

theorem newOk_q {n m : Int} (h : newOk n m) : QOk (List.replicate n.toNat 0) m := by
  obtain ⟨h1, h2, h3, h4⟩ := h
  refine ⟨fun x hx => ?_, h3, h4, by simp; omega⟩
  have := (List.mem_replicate.1 hx).2
  omega

/-- How far the loop in New has come: the first k shares have their bound. -/
def qPart (m : Int) (n k : Nat) : List Value := (List.replicate k (0 : Int)).flatMap (qShare m) ++ (List.replicate (n - k) (0 : Int)).flatMap (qShare 0)

theorem qPart_set (m : Int) (n k : Nat) (hk : k < n) : (qPart m n k).set (k * 2 + 1) (.int .i64 m) = qPart m n (k + 1) := by
  unfold qPart
  have hl : ((List.replicate k (0 : Int)).flatMap (qShare m)).length = k * 2 := by rw [flat_len _ 2 (qShare_len m)]; simp
  rw [List.set_append_right _ _ (by omega), hl]
  obtain ⟨j, hj⟩ : ∃ j, n - k = j + 1 := ⟨n - k - 1, by omega⟩
  have hj2 : n - (k + 1) = j := by omega
  rw [hj, hj2, List.replicate_succ' (n := k), List.flatMap_append]
  simp [List.replicate_succ, qShare]

theorem qPart_len (m : Int) (n k : Nat) (hk : k ≤ n) : (qPart m n k).length = n * 2 := by
  unfold qPart
  rw [List.length_append, flat_len _ 2 (qShare_len m), flat_len _ 2 (qShare_len 0)]
  simp; omega

theorem new_ok (n m : Int) (w : World) : c_quota_New n m w fun p e w' =>
    (∀ S, Fr8 w w' S) ∧ ((newOk n m ∧ e = 0 ∧ ∃ b s, p = some ⟨b, 0, none⟩ ∧ w.heap.size ≤ b ∧ w.heap.size ≤ s ∧ QR w' b s (List.replicate n.toNat 0) m) ∨ (¬ newOk n m ∧ e = 1 ∧ p = none)) := by
  apply ok_quota_New
  unfold s_quota_New
  by_cases hn : newOk n m
  · obtain ⟨h1, h2, h3, h4⟩ := hn
    have c1 : ¬ (n < 1) := by omega
    have c2 : ¬ (n > 64) := by omega
    have c3 : ¬ (m < 0) := by omega
    have c4 : ¬ (m > 4096) := by omega
    simp only [c1, c2, c3, c4, decide_false, cond_false, cond_true, ex_some, Ld_eq]
    refine MkSl_row (by omega) (by omega) (by omega) (by omega) fun s w1 hr0 hs _ hf1 => ?_
    have hq0 : repCells [Value.int .i64 0, Value.int .i64 0] n.toNat = qPart m n.toNat 0 := by
      unfold qPart
      simp only [List.replicate_zero, List.flatMap_nil, List.nil_append, Nat.sub_zero]
      exact (flat_rep 0 0 _).symm
    rw [hq0] at hr0
    subst hs
    refine Al_row fun b w2 hr2 hb hsz hf2 => ?_
    simp only [List.getElem?_cons_zero, LdV_some, dec_slice, hr2.cell]
    have hb1 := (hf1 fun _ => False).size
    have hs0 : w.heap.size < w1.heap.size := hr0.lt
    refine LoopP_inv (fun st w' => ∃ k : Nat, k ≤ n.toNat ∧ st.1 = k ∧ Row w' b [.slice (some ⟨w.heap.size, 0, none⟩) n.toNat n.toNat] ∧ Row w' w.heap.size (qPart m n.toNat k) ∧ ∀ S, Fr8 w w' S)
      (fun st _ => n.toNat - st.1.toNat) ⟨0, by omega, rfl, hr2, hr0.fr (hf2 fun _ => False) (by simp), fun S => (hf1 S).trans (hf2 S) fun _ _ e => e⟩ ?_
    rintro ⟨i, ⟨⟩⟩ w3 ⟨k, hk, rfl, hb3, hr3, hf3⟩ next hnext
    simp only [List.getElem?_cons_zero, LdV_some, dec_slice, AtIx_some, add_mk, Nat.zero_add, hb3.cell]
    by_cases hlt : k < n.toNat
    · simp only [hlt, Int.ofNat_lt, decide_true, cond_true, Int.toNat_natCast]
      refine ⟨by omega, by first | trivial | omega, ?_⟩
      refine St_row hr3 rfl (by rw [qPart_len _ _ _ hk]; omega) fun w4 hr4 hf4 _ => ?_
      rw [qPart_set _ _ _ hlt] at hr4
      have e2 : IntKind.i64.wrap ((k : Int) + 1) = ((k + 1 : Nat) : Int) := by rw [wrap_i64 (by omega) (by omega)]; omega
      rw [e2]
      refine hnext _ _ ⟨k + 1, by omega, rfl, hb3.fr (hf4 (· = w.heap.size) rfl) (by omega), hr4, fun S => (hf3 S).trans (hf4 (· = w.heap.size) rfl) fun x hx e => by omega⟩ (by simp only; omega)
    · have hk2 : k = n.toNat := by omega
      subst hk2
      simp only [Int.lt_irrefl, decide_false, cond_false]
      refine ⟨hf3, .inl ⟨⟨h1, h2, h3, h4⟩, by trivial, b, w.heap.size, rfl, by omega, by omega, ⟨by simpa using hb3, ?_, by omega⟩⟩⟩
      unfold qPart at hr3
      simpa using hr3
  · have key : (bif decide (n < 1) then true else bif decide (n > 64) then true else bif decide (m < 0) then true else decide (m > 4096)) = true := by
      simp only [newOk] at hn
      by_cases c1 : n < 1
      · simp [c1]
      · by_cases c2 : n > 64
        · simp [c2]
        · by_cases c3 : m < 0
          · simp [c3]
          · simp [c1, c2, c3]; omega
    by_cases c1 : n < 1
    · simp only [c1, decide_true, cond_true, ex_some, Ld_eq]; exact ⟨fun S => Fr8.refl _ _, .inr ⟨hn, by trivial, by trivial⟩⟩
    · by_cases c2 : n > 64
      · simp only [c1, c2, decide_true, decide_false, cond_false, cond_true, ex_some, Ld_eq]; exact ⟨fun S => Fr8.refl _ _, .inr ⟨hn, by trivial, by trivial⟩⟩
      · by_cases c3 : m < 0
        · simp only [c1, c2, c3, decide_true, decide_false, cond_false, cond_true, ex_some, Ld_eq]; exact ⟨fun S => Fr8.refl _ _, .inr ⟨hn, by trivial, by trivial⟩⟩
        · have c4 : m > 4096 := by simp only [newOk] at hn; omega
          simp only [c1, c2, c3, c4, decide_true, decide_false, cond_false, cond_true, ex_some, Ld_eq]; exact ⟨fun S => Fr8.refl _ _, .inr ⟨hn, by trivial, by trivial⟩⟩

theorem xnew_ok (n m : Int) (w : World) : c_ref21_New n m w fun p e w' =>
    (∀ S, Fr8 w w' S) ∧ ((newOk n m ∧ e = 0 ∧ ∃ b s, p = some ⟨b, 0, none⟩ ∧ w.heap.size ≤ b ∧ w.heap.size ≤ s ∧ QX w' b s (List.replicate n.toNat 0) m) ∨ (¬ newOk n m ∧ e = 1 ∧ p = none)) := by
  apply ok_ref21_New
  unfold s_ref21_New
  by_cases hn : newOk n m
  · obtain ⟨h1, h2, h3, h4⟩ := hn
    have c1 : ¬ (n < 1) := by omega
    have c2 : ¬ (n > 64) := by omega
    have c3 : ¬ (m < 0) := by omega
    have c4 : ¬ (m > 4096) := by omega
    simp only [c1, c2, c3, c4, decide_false, cond_false, cond_true]
    refine MkSl_row (by omega) (by omega) (by omega) (by omega) fun s w1 hr0 hs _ hf1 => ?_
    subst hs
    have hs0 := hr0.lt
    refine Al_row fun b w2 hr2 hb hsz hf2 => ?_
    refine ⟨fun S => (hf1 S).trans (hf2 S) fun _ _ e => e, .inl ⟨⟨h1, h2, h3, h4⟩, by trivial, b, w.heap.size, rfl, by omega, by omega, ⟨by simpa using hr2, ?_, by omega⟩⟩⟩
    rw [flat_rep1]
    exact hr0.fr (hf2 fun _ => False) (by simp)
  · by_cases c1 : n < 1
    · simp only [c1, decide_true, cond_true]; exact ⟨fun S => Fr8.refl _ _, .inr ⟨hn, by trivial, by trivial⟩⟩
    · by_cases c2 : n > 64
      · simp only [c1, c2, decide_true, decide_false, cond_false, cond_true]; exact ⟨fun S => Fr8.refl _ _, .inr ⟨hn, by trivial, by trivial⟩⟩
      · by_cases c3 : m < 0
        · simp only [c1, c2, c3, decide_true, decide_false, cond_false, cond_true]; exact ⟨fun S => Fr8.refl _ _, .inr ⟨hn, by trivial, by trivial⟩⟩
        · have c4 : m > 4096 := by simp only [newOk] at hn; omega
          simp only [c1, c2, c3, c4, decide_true, decide_false, cond_false, cond_true]; exact ⟨fun S => Fr8.refl _ _, .inr ⟨hn, by trivial, by trivial⟩⟩

/-! ### The laws -/
theorem takeF_ok {l : List Int} {m : Int} (h : QOk l m) (i : Int) : QOk (takeF l m i).2 m := by
  unfold takeF
  split
  · split
    · exact h
    · rename_i hi hge
      refine ⟨fun x hx => ?_, h.m0, h.m1, by simpa using h.len⟩
      rcases List.mem_or_eq_of_mem_set hx with hx | rfl
      · exact h.lo x hx
      · have := h.lo _ (at_mem hi); omega
  · exact h

theorem giveF_ok {l : List Int} {m : Int} (h : QOk l m) (i : Int) : QOk (giveF l i).2 m := by
  unfold giveF
  split
  · split
    · exact h
    · rename_i hi hge
      refine ⟨fun x hx => ?_, h.m0, h.m1, by simpa using h.len⟩
      rcases List.mem_or_eq_of_mem_set hx with hx | rfl
      · exact h.lo x hx
      · have := h.lo _ (at_mem hi); omega
  · exact h

theorem awake_ok (w : World) : c_law21_awake w fun r w' => r = true ∧ ∀ S, Fr8 w w' S := by
  apply ok_law21_awake
  unfold s_law21_awake
  refine cm_quota_New (new_ok 1 1 w) ?_
  rintro p e w1 ⟨hf, ⟨hn, rfl, b, s, rfl, hb, hs, h⟩ | ⟨hn, _⟩⟩
  · have hl : List.replicate (1 : Int).toNat (0 : Int) = [0] := rfl
    rw [hl] at h
    have q0 : QOk [0] 1 := newOk_q (n := 1) hn
    simp only [Option.isNone_some, cond_true, Bool.not_false, beq_self_eq_true]
    have hlt := h.hd.lt
    have hlt2 := h.row.lt
    refine cm_quota_Quota_Take (take_ok h q0 0) ?_
    rintro e w2 ⟨rfl, h2, hf2⟩
    have t1 : takeF [0] 1 0 = (0, [1]) := by decide
    rw [t1] at h2 ⊢
    simp only [cond_true, beq_self_eq_true]
    have q1 : QOk [1] 1 := by have := takeF_ok q0 0; rw [t1] at this; exact this
    refine cm_quota_Quota_Take (take_ok h2 q1 0) ?_
    rintro e w3 ⟨rfl, h3, hf3⟩
    have t2 : takeF [1] 1 0 = (10, [1]) := by decide
    rw [t2] at h3 ⊢
    simp only [cond_true, beq_self_eq_true]
    refine cm_quota_Quota_Count (count_ok h3 0) ?_
    rintro n w4 ⟨rfl, rfl⟩
    have t3 : countF [1] 0 = 1 := by decide
    rw [t3]
    simp only [cond_true, beq_self_eq_true]
    refine cm_quota_Quota_Give (give_ok h3 q1 0) ?_
    rintro e w5 ⟨rfl, h5, hf5⟩
    have t4 : (giveF [1] 0).1 = 0 := by decide
    rw [t4]
    refine ⟨rfl, fun S => ?_⟩
    exact (((hf S).trans hf2 fun x hx e => by omega).trans hf3 fun x hx e => by omega).trans hf5 fun x hx e => by omega
  · exact absurd (by decide) hn

/-- A list of calls as it came in. -/
structure DoIn (w : World) (s : SliceV) : Prop where
  at_ : ∀ k, k < s.len → ∃ b o g i, s.a = some ⟨b, o, none⟩ ∧ b < w.heap.size ∧ w.cell? ⟨b, o + k * 2, none⟩ = some (.bool g) ∧ w.cell? ⟨b, o + k * 2 + 1, none⟩ = some (.int .i64 i)
  len : s.len ≤ 2 ^ 63 - 1

theorem cell_fr {w w' : World} {b i : Nat} (hf : ∀ S, Fr8 w w' S) (hb : b < w.heap.size) : w'.cell? ⟨b, i, none⟩ = w.cell? ⟨b, i, none⟩ := by
  have := (hf fun _ => False).same b hb (by simp)
  simp [World.cell?, this]

theorem DoIn.fr {w w' : World} {s : SliceV} (h : DoIn w s) (hf : ∀ S, Fr8 w w' S) : DoIn w' s := by
  refine ⟨fun k hk => ?_, h.len⟩
  obtain ⟨b, o, g, i, h1, h2, h3, h4⟩ := h.at_ k hk
  exact ⟨b, o, g, i, h1, Nat.lt_of_lt_of_le h2 (hf fun _ => False).size, by rw [cell_fr hf h2]; exact h3, by rw [cell_fr hf h2]; exact h4⟩

theorem AtIx_do {w : World} {s : SliceV} {k : Nat} {b o : Nat} {K : Addr → Prop} (ha : s.a = some ⟨b, o, none⟩) (hk : k < s.len) (h : K ⟨b, o + k * 2, none⟩) : AtIx s 2 (k : Int) K :=
  AtIx_row ha (by omega) (by omega) (by simpa using h)

/-- The two quotas side by side. -/
structure Both (w0 w : World) (b1 s1 b2 s2 : Nat) (l : List Int) (m : Int) : Prop where
  r : QR w b1 s1 l m
  x : QX w b2 s2 l m
  q : QOk l m
  n1 : w0.heap.size ≤ b1
  n2 : w0.heap.size ≤ s1
  n3 : w0.heap.size ≤ b2
  n4 : w0.heap.size ≤ s2
  d1 : s1 ≠ b2
  d2 : s1 ≠ s2
  d3 : s2 ≠ b1

theorem Both.fr {w0 w w' : World} {b1 s1 b2 s2 : Nat} {l : List Int} {m : Int} (h : Both w0 w b1 s1 b2 s2 l m) (hf : ∀ S, Fr8 w w' S) : Both w0 w' b1 s1 b2 s2 l m :=
  ⟨h.r.fr (hf fun _ => False) (by simp) (by simp), h.x.fr (hf fun _ => False) (by simp) (by simp), h.q, h.n1, h.n2, h.n3, h.n4, h.d1, h.d2, h.d3⟩

theorem lives_ok {w : World} {n m : Int} {s : SliceV} (hs : DoIn w s) : c_law21_QuotaLives n m s w fun r w' => r = true ∧ ∀ S, Fr8 w w' S := by
  apply ok_law21_QuotaLives
  unfold s_law21_QuotaLives
  refine cm_quota_New (new_ok n m w) ?_
  rintro p e w1 ⟨hf1, h1⟩
  refine cm_ref21_New (xnew_ok n m w1) ?_
  rintro px ex w2 ⟨hf2, h2⟩
  have hf02 : ∀ S, Fr8 w w2 S := fun S => (hf1 S).trans (hf2 S) fun _ _ e => e
  have fin : ∀ w', (∀ S, Fr8 w w' S) → c_law21_awake w' fun r w'' => r = true ∧ ∀ S, Fr8 w w'' S := fun w' hf =>
    cm_law21_awake (awake_ok w') fun r w'' ⟨hr, hf'⟩ => ⟨hr, fun S => (hf S).trans (hf' S) fun _ _ e => e⟩
  have hlen := hs.len
  by_cases hn : newOk n m
  · obtain ⟨_, rfl, b1, s1, rfl, hb1, hs1, hr⟩ | ⟨hx, _⟩ := h1
    case inr => exact absurd hn hx
    obtain ⟨_, rfl, b2, s2, rfl, hb2, hs2, hx⟩ | ⟨hx, _⟩ := h2
    case inr => exact absurd hn hx
    have l1 := hr.hd.lt
    have l2 := hr.row.lt
    have z1 := (hf1 fun _ => False).size
    have hboth : Both w w2 b1 s1 b2 s2 (List.replicate n.toNat 0) m := ⟨hr.fr (hf2 fun _ => False) (by simp) (by simp), hx, newOk_q hn, hb1, hs1, by omega, by omega, by omega, by omega, by omega⟩
    simp only [bne_self_eq_false, Option.isNone_some, beq_self_eq_true, Bool.not_true, Option.isNone_some, cond_false, cond_true, Ld_eq]
    refine LoopP_inv (fun st w' => (∃ k : Nat, k ≤ s.len ∧ st.1 = k) ∧ (∃ l, Both w w' b1 s1 b2 s2 l m) ∧ ∀ S, Fr8 w w' S) (fun st _ => s.len - st.1.toNat) ⟨⟨0, by omega, rfl⟩, ⟨_, hboth⟩, hf02⟩ ?_
    rintro ⟨i, ⟨⟩⟩ w3 ⟨⟨k, hk, rfl⟩, ⟨l, hb⟩, hf3⟩ next hnext
    by_cases hlt : k < s.len
    · have hlt' : ((k : Int) < (s.len : Int)) := by omega
      simp only [hlt', decide_true, cond_true]
      obtain ⟨b, o, g, x, ha, hbl, hc1, hc2⟩ := (hs.fr hf3).at_ k hlt
      refine AtIx_do (w := w3) ha hlt ?_
      simp only [LdV_some, dec_int, dec_bool, add_mk, Nat.add_zero, hc1, hc2]
      refine Al_row fun a w4 hr4 ha4 _ hf4 => ?_
      simp only [add_mk, Nat.zero_add, Nat.add_zero]
      refine St_row hr4 rfl (by simp) fun w5 hr5 hf5 _ => ?_
      refine St_row hr5 rfl (by simp) fun w6 hr6 hf6 _ => ?_
      simp only [List.set_cons_zero, List.set_cons_succ] at hr6
      have z3 := (hf3 fun _ => False).size
      have hf36 : Fr8 w3 w6 (· = a) := ((hf4 (· = a)).trans (hf5 (· = a) rfl) fun _ _ e => e).trans (hf6 (· = a) rfl) fun _ _ e => e
      have hf36' : ∀ S, Fr8 w3 w6 S := fun S => ⟨hf36.size, fun x hx _ => hf36.same x hx (by omega), hf36.io⟩
      have hf06 : ∀ S, Fr8 w w6 S := fun S => (hf3 S).trans (hf36' S) fun _ _ e => e
      have hb6 := hb.fr hf36'
      have a6 : a < w6.heap.size := hr6.lt
      have ln1 := hb.r.hd.lt
      have ln2 := hb.r.row.lt
      have ln3 := hb.x.hd.lt
      have ln4 := hb.x.row.lt
      by_cases h200 : (k : Int) ≥ 200
      · simp only [h200, decide_true, cond_true]
        exact fin _ hf06
      · simp only [h200, decide_false, cond_false]
        have e2 : IntKind.i64.wrap ((k : Int) + 1) = ((k + 1 : Nat) : Int) := by rw [wrap_i64 (by omega) (by omega)]; omega
        rw [e2]
        have hb7 : Both w w6.drew b1 s1 b2 s2 l m := hb6.fr fun S => Fr8.drew _ _
        have hr7 : Row w6.drew a [Value.bool g, Value.int .i64 x] := hr6.drew
        have hf07 : ∀ S, Fr8 w w6.drew S := fun S => (hf06 S).trans (Fr8.drew _ S) fun _ _ e => e
        -- behind the two calls
        have rest : ∀ (l' : List Int) (w8 : World), Both w w8 b1 s1 b2 s2 l' m → Row w8 a [Value.bool g, Value.int .i64 x] → (∀ S, Fr8 w w8 S) →
            (bif !true then (false = true ∧ ∀ S, Fr8 w w8.drew S) else
              LdV (.int .i64) (w8.drew.cell? ⟨a, 1, none⟩) fun x31 => LdV (.int .i64) (w8.drew.cell? ⟨a, 1, none⟩) fun x32 => c_quota_Quota_Count (some ⟨b1, 0, none⟩) x31 w8.drew fun r33 w34 =>
                w34.cell? ⟨a, 1, none⟩ = some (Value.int .i64 x32) ∧ c_ref21_Quota_Count (some ⟨b2, 0, none⟩) x32 w34 fun r35 w36 =>
                (bif (r33 != r35) then (false = true ∧ ∀ S, Fr8 w w36 S) else
                c_quota_Quota_Total (some ⟨b1, 0, none⟩) w36 fun r37 w38 => c_ref21_Quota_Total (some ⟨b2, 0, none⟩) w38 fun r39 w40 =>
                (bif (r37 != r39) then (false = true ∧ ∀ S, Fr8 w w40 S) else next (((k + 1 : Nat) : Int), ()) w40))) := by
          intro l' w8 hb8 hr8 hf8
          have hb9 : Both w w8.drew b1 s1 b2 s2 l' m := hb8.fr fun S => Fr8.drew _ _
          have hr9 : Row w8.drew a [Value.bool g, Value.int .i64 x] := hr8.drew
          simp only [Bool.not_true, cond_false, List.getElem?_cons_zero, List.getElem?_cons_succ, LdV_some, dec_int, hr9.cell]
          refine cm_quota_Quota_Count (count_ok hb9.r x) ?_
          rintro r w10 ⟨rfl, rfl⟩
          refine ⟨by simp [hr9.cell], ?_⟩
          refine cm_ref21_Quota_Count (xcount_ok hb9.x x) ?_
          rintro r w10 ⟨rfl, rfl⟩
          simp only [bne_self_eq_false, cond_false]
          refine cm_quota_Quota_Total (total_ok hb9.r hb9.q) ?_
          rintro r w11 ⟨rfl, hf11⟩
          have hb11 := hb9.fr hf11
          refine cm_ref21_Quota_Total (xtotal_ok hb11.x hb11.q) ?_
          rintro r w12 ⟨rfl, hf12⟩
          simp only [bne_self_eq_false, cond_false]
          refine hnext _ _ ⟨⟨k + 1, by omega, rfl⟩, ⟨l', hb11.fr hf12⟩, fun S => ?_⟩ (by simp only; omega)
          exact (((hf8 S).trans (Fr8.drew _ S) fun _ _ e => e).trans (hf11 S) fun _ _ e => e).trans (hf12 S) fun _ _ e => e
        cases g with
        | true =>
          simp only [cond_true, List.getElem?_cons_zero, List.getElem?_cons_succ, LdV_some, dec_int, dec_bool, hr6.cell, hr7.cell]
          refine cm_quota_Quota_Give (give_ok hb7.r hb7.q x) ?_
          rintro r w8 ⟨rfl, hq8, hf8⟩
          have hr8 := hr7.fr hf8 (by omega)
          refine ⟨by simp [hr8.cell], ?_⟩
          have hx8 := hb7.x.fr hf8 (by have := hb7.d1; omega) (by have := hb7.d2; omega)
          refine cm_ref21_Quota_Give (xgive_ok hx8 hb7.q x) ?_
          rintro r w9 ⟨rfl, hq9, hf9⟩
          simp only [beq_self_eq_true]
          have n2 := hb.n2
          have n4 := hb.n4
          exact rest (giveF l x).2 w9 ⟨hq8.fr hf9 (by have := hb7.d3; omega) (by have := hb7.d2; omega), hq9, giveF_ok hb7.q x, hb.n1, hb.n2, hb.n3, hb.n4, hb.d1, hb.d2, hb.d3⟩ (hr8.fr hf9 (by omega))
            fun S => ((hf07 S).trans hf8 fun x hx e => by omega).trans hf9 fun x hx e => by omega
        | false =>
          simp only [cond_false, List.getElem?_cons_zero, List.getElem?_cons_succ, LdV_some, dec_int, dec_bool, hr6.cell, hr7.cell]
          refine cm_quota_Quota_Take (take_ok hb7.r hb7.q x) ?_
          rintro r w8 ⟨rfl, hq8, hf8⟩
          have hr8 := hr7.fr hf8 (by omega)
          refine ⟨by simp [hr8.cell], ?_⟩
          have hx8 := hb7.x.fr hf8 (by have := hb7.d1; omega) (by have := hb7.d2; omega)
          refine cm_ref21_Quota_Take (xtake_ok hx8 hb7.q x) ?_
          rintro r w9 ⟨rfl, hq9, hf9⟩
          simp only [beq_self_eq_true]
          have n2 := hb.n2
          have n4 := hb.n4
          exact rest (takeF l m x).2 w9 ⟨hq8.fr hf9 (by have := hb7.d3; omega) (by have := hb7.d2; omega), hq9, takeF_ok hb7.q x, hb.n1, hb.n2, hb.n3, hb.n4, hb.d1, hb.d2, hb.d3⟩ (hr8.fr hf9 (by omega))
            fun S => ((hf07 S).trans hf8 fun x hx e => by omega).trans hf9 fun x hx e => by omega
    · have hlt' : ¬ ((k : Int) < (s.len : Int)) := by omega
      simp only [hlt', decide_false, cond_false]
      exact fin _ hf3
  · obtain ⟨hx, _⟩ | ⟨_, rfl, rfl⟩ := h1
    case inl => exact absurd hx hn
    obtain ⟨hx, _⟩ | ⟨_, rfl, rfl⟩ := h2
    case inl => exact absurd hx hn
    simp only [bne_self_eq_false, Option.isNone_none, beq_self_eq_true, Bool.not_true, Option.isNone_none, cond_false, cond_true, Ld_eq]
    refine LoopP_inv (fun st w' => (∃ k : Nat, k ≤ s.len ∧ st.1 = k) ∧ ∀ S, Fr8 w w' S) (fun st _ => s.len - st.1.toNat) ⟨⟨0, by omega, rfl⟩, hf02⟩ ?_
    rintro ⟨i, ⟨⟩⟩ w3 ⟨⟨k, hk, rfl⟩, hf3⟩ next hnext
    by_cases hlt : k < s.len
    · have hlt' : ((k : Int) < (s.len : Int)) := by omega
      simp only [hlt', decide_true, cond_true]
      obtain ⟨b, o, g, x, ha, hbl, hc1, hc2⟩ := (hs.fr hf3).at_ k hlt
      refine AtIx_do (w := w3) ha hlt ?_
      simp only [LdV_some, dec_int, dec_bool, add_mk, Nat.add_zero, hc1, hc2]
      refine Al_row fun a w4 hr4 ha4 _ hf4 => ?_
      simp only [add_mk, Nat.zero_add, Nat.add_zero]
      refine St_row hr4 rfl (by simp) fun w5 hr5 hf5 _ => ?_
      refine St_row hr5 rfl (by simp) fun w6 hr6 hf6 _ => ?_
      have z3 := (hf3 fun _ => False).size
      have hf06 : ∀ S, Fr8 w w6 S := fun S => (hf3 S).trans (((hf4 (· = a)).trans (hf5 (· = a) rfl) fun _ _ e => e).trans (hf6 (· = a) rfl) fun _ _ e => e) fun x hx e => by omega
      by_cases h200 : (k : Int) ≥ 200
      · simp only [h200, decide_true, cond_true]
        exact fin _ hf06
      · simp only [h200, decide_false, cond_false]
        exact fin _ hf06
    · have hlt' : ¬ ((k : Int) < (s.len : Int)) := by omega
      simp only [hlt', decide_false, cond_false]
      exact fin _ hf3

/-- The program's quota alone. -/
structure One (w0 w : World) (b1 s1 : Nat) (l : List Int) (n m : Int) : Prop where
  r : QR w b1 s1 l m
  q : QOk l m
  n1 : w0.heap.size ≤ b1
  n2 : w0.heap.size ≤ s1
  ln : l.length = n.toNat

theorem One.fr {w0 w w' : World} {b1 s1 : Nat} {l : List Int} {n m : Int} (h : One w0 w b1 s1 l n m) (hf : ∀ S, Fr8 w w' S) : One w0 w' b1 s1 l n m :=
  ⟨h.r.fr (hf fun _ => False) (by simp) (by simp), h.q, h.n1, h.n2, h.ln⟩

theorem count_le {l : List Int} {m : Int} (h : QOk l m) (i : Int) : 0 ≤ countF l i ∧ countF l i ≤ m := by
  unfold countF
  have := h.m0
  split
  · rename_i hi; exact h.lo _ (at_mem hi)
  · exact ⟨by omega, h.m0⟩

theorem sum_le {m : Int} : ∀ l : List Int, (∀ x ∈ l, 0 ≤ x ∧ x ≤ m) → 0 ≤ sumF l ∧ sumF l ≤ (l.length : Int) * m := by
  intro l
  induction l with
  | nil => intro _; simp [sumF]
  | cons x l ih =>
    intro h
    have h1 := h x (List.mem_cons_self ..)
    have h2 := ih fun y hy => h y (List.mem_cons_of_mem _ hy)
    have h3 : sumF (x :: l) = x + sumF l := rfl
    simp only [h3, List.length_cons]
    have : ((l.length + 1 : Nat) : Int) * m = (l.length : Int) * m + m := by push_cast; rw [Int.add_mul, Int.one_mul]
    omega

theorem takeF_len (l : List Int) (m i : Int) : (takeF l m i).2.length = l.length := by
  unfold takeF
  split
  · split <;> simp
  · rfl
theorem giveF_len (l : List Int) (i : Int) : (giveF l i).2.length = l.length := by
  unfold giveF
  split
  · split <;> simp
  · rfl

theorem bounds_ok {w : World} {a0 a1 : Int} {s : SliceV} (hs : DoIn w s) (h00 : 0 ≤ a0) (h01 : a0 ≤ 255) (h10 : 0 ≤ a1) (h11 : a1 ≤ 255) : c_law21_QuotaBounds a0 a1 s w fun r w' => r = true ∧ ∀ S, Fr8 w w' S := by
  apply ok_law21_QuotaBounds
  unfold s_law21_QuotaBounds
  refine ⟨by decide, by decide, ?_⟩
  have e1 : Int.tmod a0 64 = a0 % 64 := Int.tmod_eq_emod_of_nonneg h00
  have e2 : Int.tmod a1 9 = a1 % 9 := Int.tmod_eq_emod_of_nonneg h10
  have e3 : IntKind.i64.wrap (a0 % 64) = a0 % 64 := wrap_i64 (by omega) (by omega)
  have e4 : IntKind.i64.wrap (1 + a0 % 64) = 1 + a0 % 64 := wrap_i64 (by omega) (by omega)
  have e5 : IntKind.i64.wrap (a1 % 9) = a1 % 9 := wrap_i64 (by omega) (by omega)
  have hn1 : 1 ≤ 1 + a0 % 64 := by omega
  have hn2 : 1 + a0 % 64 ≤ 64 := by omega
  have hm1 : 0 ≤ a1 % 9 := by omega
  have hm2 : a1 % 9 ≤ 8 := by omega
  rw [e1, e2, e3, e4, e5]
  generalize 1 + a0 % 64 = n at *
  generalize a1 % 9 = m at *
  have hp0 : 0 ≤ n * m := Int.mul_nonneg (by omega) hm1
  have hp1 : n * m ≤ 64 * 8 := by
    have h1 : n * m ≤ 64 * m := Int.mul_le_mul_of_nonneg_right hn2 hm1
    omega
  have e6 : IntKind.i64.wrap (n * m) = n * m := wrap_i64 (by omega) (by omega)
  rw [e6]
  refine cm_quota_New (new_ok n m w) ?_
  rintro p e w1 ⟨hf1, h1⟩
  have fin : ∀ w', (∀ S, Fr8 w w' S) → c_law21_awake w' fun r w'' => r = true ∧ ∀ S, Fr8 w w'' S := fun w' hf =>
    cm_law21_awake (awake_ok w') fun r w'' ⟨hr, hf'⟩ => ⟨hr, fun S => (hf S).trans (hf' S) fun _ _ e => e⟩
  have hlen := hs.len
  have hn : newOk n m := ⟨by omega, by omega, by omega, by omega⟩
  obtain ⟨_, rfl, b1, s1, rfl, hb1, hs1, hr⟩ | ⟨hx, _⟩ := h1
  case inr => exact absurd hn hx
  have hone : One w w1 b1 s1 (List.replicate n.toNat 0) n m := ⟨hr, newOk_q hn, hb1, hs1, by simp⟩
  simp only [bne_self_eq_false, Option.isNone_some, Option.isNone_some, cond_false, cond_true, Ld_eq]
  refine LoopP_inv (fun st w' => (∃ k : Nat, k ≤ s.len ∧ st.1 = k) ∧ (∃ l, One w w' b1 s1 l n m) ∧ ∀ S, Fr8 w w' S) (fun st _ => s.len - st.1.toNat) ⟨⟨0, by omega, rfl⟩, ⟨_, hone⟩, hf1⟩ ?_
  rintro ⟨i, ⟨⟩⟩ w3 ⟨⟨k, hk, rfl⟩, ⟨l, hb⟩, hf3⟩ next hnext
  by_cases hlt : k < s.len
  · have hlt' : ((k : Int) < (s.len : Int)) := by omega
    simp only [hlt', decide_true, cond_true]
    obtain ⟨b, o, g, x, ha, hbl, hc1, hc2⟩ := (hs.fr hf3).at_ k hlt
    refine AtIx_do (w := w3) ha hlt ?_
    simp only [LdV_some, dec_int, dec_bool, add_mk, Nat.add_zero, hc1, hc2]
    refine Al_row fun a w4 hr4 ha4 _ hf4 => ?_
    simp only [add_mk, Nat.zero_add, Nat.add_zero]
    refine St_row hr4 rfl (by simp) fun w5 hr5 hf5 _ => ?_
    refine St_row hr5 rfl (by simp) fun w6 hr6 hf6 _ => ?_
    simp only [List.set_cons_zero, List.set_cons_succ] at hr6
    have z3 := (hf3 fun _ => False).size
    have hf36 : Fr8 w3 w6 (· = a) := ((hf4 (· = a)).trans (hf5 (· = a) rfl) fun _ _ e => e).trans (hf6 (· = a) rfl) fun _ _ e => e
    have hf36' : ∀ S, Fr8 w3 w6 S := fun S => ⟨hf36.size, fun x hx _ => hf36.same x hx (by omega), hf36.io⟩
    have hf06 : ∀ S, Fr8 w w6 S := fun S => (hf3 S).trans (hf36' S) fun _ _ e => e
    have hb6 := hb.fr hf36'
    have ln1 := hb.r.hd.lt
    have ln2 := hb.r.row.lt
    by_cases h200 : (k : Int) ≥ 200
    · simp only [h200, decide_true, cond_true]
      exact fin _ hf06
    · simp only [h200, decide_false, cond_false]
      have e2 : IntKind.i64.wrap ((k : Int) + 1) = ((k + 1 : Nat) : Int) := by rw [wrap_i64 (by omega) (by omega)]; omega
      rw [e2]
      have rest : ∀ (l' : List Int) (w8 : World), One w w8 b1 s1 l' n m → Row w8 a [Value.bool g, Value.int .i64 x] → (∀ S, Fr8 w w8 S) → (∀ w9, (∃ l', One w w9 b1 s1 l' n m) → (∀ S, Fr8 w w9 S) → next (((k + 1 : Nat) : Int), ()) w9) →
          LdV (.int .i64) (w8.cell? ⟨a, 1, none⟩) fun x25 => c_quota_Quota_Count (some ⟨b1, 0, none⟩) x25 w8 fun r26 w27 =>
            (bif decide (r26 < 0) then (false = true ∧ ∀ S, Fr8 w w27 S) else
            LdV (.int .i64) (w27.cell? ⟨a, 1, none⟩) fun x28 => c_quota_Quota_Count (some ⟨b1, 0, none⟩) x28 w27 fun r29 w30 =>
            (bif decide (r29 > m) then (false = true ∧ ∀ S, Fr8 w w30 S) else
            c_quota_Quota_Total (some ⟨b1, 0, none⟩) w30 fun r31 w32 =>
            (bif decide (r31 < 0) then (false = true ∧ ∀ S, Fr8 w w32 S) else
            c_quota_Quota_Total (some ⟨b1, 0, none⟩) w32 fun r33 w34 =>
            (bif decide (r33 > n * m) then (false = true ∧ ∀ S, Fr8 w w34 S) else next (((k + 1 : Nat) : Int), ()) w34)))) := by
        intro l' w8 hb8 hr8 hf8 hnx
        obtain ⟨c0, c1⟩ := count_le hb8.q x
        obtain ⟨t0, t1⟩ := sum_le l' hb8.q.lo
        have hln := hb8.ln
        have hl : (l'.length : Int) = n := by omega
        rw [hl] at t1
        simp only [List.getElem?_cons_zero, List.getElem?_cons_succ, LdV_some, dec_int, hr8.cell]
        refine cm_quota_Quota_Count (count_ok hb8.r x) ?_
        rintro r w10 ⟨rfl, rfl⟩
        have g1 : ¬ (countF l' x < 0) := by omega
        have g2 : ¬ (countF l' x > m) := by omega
        simp only [g1, decide_false, cond_false, List.getElem?_cons_zero, List.getElem?_cons_succ, LdV_some, dec_int, hr8.cell]
        refine cm_quota_Quota_Count (count_ok hb8.r x) ?_
        rintro r w10 ⟨rfl, rfl⟩
        simp only [g2, decide_false, cond_false]
        refine cm_quota_Quota_Total (total_ok hb8.r hb8.q) ?_
        rintro r w11 ⟨rfl, hf11⟩
        have g3 : ¬ (sumF l' < 0) := by omega
        have g4 : ¬ (sumF l' > n * m) := by omega
        simp only [g3, decide_false, cond_false]
        have hb11 := hb8.fr hf11
        refine cm_quota_Quota_Total (total_ok hb11.r hb11.q) ?_
        rintro r w12 ⟨rfl, hf12⟩
        simp only [g4, decide_false, cond_false]
        exact hnx _ ⟨l', hb11.fr hf12⟩ fun S => ((hf8 S).trans (hf11 S) fun _ _ e => e).trans (hf12 S) fun _ _ e => e
      have hnx : ∀ w9, (∃ l', One w w9 b1 s1 l' n m) → (∀ S, Fr8 w w9 S) → next (((k + 1 : Nat) : Int), ()) w9 := fun w9 h9 hf9 => hnext _ _ ⟨⟨k + 1, by omega, rfl⟩, h9, hf9⟩ (by simp only; omega)
      cases g with
      | true =>
        simp only [cond_true, List.getElem?_cons_zero, List.getElem?_cons_succ, LdV_some, dec_int, dec_bool, hr6.cell]
        refine cm_quota_Quota_Give (give_ok hb6.r hb6.q x) ?_
        rintro r w8 ⟨rfl, hq8, hf8⟩
        have n2 := hb.n2
        exact rest (giveF l x).2 w8 ⟨hq8, giveF_ok hb6.q x, hb.n1, hb.n2, by rw [giveF_len]; exact hb.ln⟩ (hr6.fr hf8 (by omega)) (fun S => (hf06 S).trans hf8 fun x hx e => by omega) hnx
      | false =>
        simp only [cond_false, List.getElem?_cons_zero, List.getElem?_cons_succ, LdV_some, dec_int, dec_bool, hr6.cell]
        refine cm_quota_Quota_Take (take_ok hb6.r hb6.q x) ?_
        rintro r w8 ⟨rfl, hq8, hf8⟩
        have n2 := hb.n2
        exact rest (takeF l m x).2 w8 ⟨hq8, takeF_ok hb6.q x, hb.n1, hb.n2, by rw [takeF_len]; exact hb.ln⟩ (hr6.fr hf8 (by omega)) (fun S => (hf06 S).trans hf8 fun x hx e => by omega) hnx
  · have hlt' : ¬ ((k : Int) < (s.len : Int)) := by omega
    simp only [hlt', decide_false, cond_false]
    exact fin _ hf3
end Go.Proofs
