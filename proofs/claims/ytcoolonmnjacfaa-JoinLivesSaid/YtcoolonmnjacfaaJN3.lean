import Derived.Test.YtcoolonmnjacfaaJN2
/- A part is put into the buffer of its key. -/
namespace Go.Proofs
open Gp Gp.Hol Gp.Jn
set_option maxRecDepth 100000
set_option maxHeartbeats 2000000

theorem toListS_inj {a b : ByteArray} (h : a.toList = b.toList) : a = b := by
  rw [ByteArray.toList_eq, ByteArray.toList_eq] at h
  cases a; cases b
  simp at h
  rw [h]
theorem strEqS (a b : ByteArray) : strEq a b = decide (a = b) := by
  unfold strEq
  by_cases h : a = b
  · subst h; simp
  · rw [decide_eq_false h, beq_eq_false_iff_ne]
    exact fun e => h (toListS_inj e)
theorem eqS (a b : ByteArray) : eqT Try.prog 16 9 (encKy a) (encKy b) = some (decide (a = b)) := by
  have h : eqT Try.prog 16 9 (.string a) (.string b) = some (strEq a b) := by kernel_rfl
  rw [h, strEqS]
theorem keyS (a : ByteArray) : keyOK Try.prog 9 (encKy a) = true := by
  have h : keyOK Try.prog 9 (.string a) = true := by kernel_rfl
  exact h

theorem MapGetV_F {α β : Type} [DecidableEq α] {enc : α → Value} {ev : β → Value} {w : World} {r : Nat} {l : List (α × β)} {P : Program} {kt : TypeId} (h : MapF enc ev w r l) (hE : ∀ a b : α, eqT P 16 kt (enc a) (enc b) = some (decide (a = b))) (a : α) (hk : keyOK P kt (enc a) = true) {z : Value} {K : Value → Bool → Prop}
    (h0 : lkF l a = none → K z false) (h1 : ∀ b, lkF l a = some b → K (ev b) true) : MapGetV P kt (some r) (enc a) z w K := by
  obtain ⟨es, c, g1, g2, _⟩ := h
  refine ⟨hk, .inr ⟨r, es, c, rfl, g1, ?_⟩⟩
  cases hl : lkF l a with
  | none =>
    cases l with
    | nil =>
      have : es.toList = [] := by simpa using g2
      exact ⟨none, by rw [this]; rfl, h0 hl⟩
    | cons x l' =>
      rcases findV_F hE a x.2 es.toList _ 0 g2 with ⟨_, q2, _⟩ | ⟨j, v, e, q1, _⟩
      · exact ⟨_, q2, h0 hl⟩
      · rw [hl] at q1; cases q1
  | some b =>
    rcases findV_F hE a b es.toList _ 0 g2 with ⟨q1, _, _⟩ | ⟨j, v, e, q1, q2, _⟩
    · rw [hl] at q1; cases q1
    · rw [hl] at q1; cases q1
      exact ⟨_, q2, h1 b hl⟩

theorem room_perm {l l' : List Pc} (h : l.Perm l') (off : Int) (b : List UInt8) : roomP l off b = room l' off b := by
  unfold roomP room
  simp only [h.mem_iff]

section
variable {w w' : World} {t m : Nat} {many bytes wait : Int} {rs : List (Key × JE)}

/-- What the buffer of a key is, in memory. -/
theorem jopen_ok (h : JAt w t m many bytes wait rs) (k : Key) (now : Int) : c_join_Table_open (some ⟨t, 0, none⟩) k now w fun p e w' => Ext w w' ∧
    match jopen many (jtab rs) k now with
    | none => p = none ∧ e = 7
    | some x => e = 0 ∧ ∃ r : BR, p = some ⟨r.b, 0, none⟩ ∧ BAt w' (r, x) ∧ (lkF rs k = some (r, x) ∨ (lkF rs k = none ∧ ∀ z, fpR r z → w.heap.size ≤ z)) := by
  apply ok_join_Table_open
  unfold s_join_Table_open
  simp only [ex_some, Ld_eq, List.getElem?_cons_zero, LdV_some, dec_map, add_mk, Nat.zero_add, h.row.cell]
  refine MapGetV_F h.map eqS k (keyS k) (fun hl => ?_) (fun e hl => ?_)
  · have hj : jopen many (jtab rs) k now = if many ≤ (rs.length : Int) then none else some (fresh now) := by
      unfold jopen
      rw [lk_tab, hl]
      simp [jtab]
    rw [hj]
    refine ⟨none, rfl, ?_⟩
    simp only [cond_false]
    have hd := h.ext (Ext.drew w)
    have rd := hd.row
    simp only [List.getElem?_cons_zero, List.getElem?_cons_succ, LdV_some, dec_int, dec_map, rd.cell]
    refine MapLen_J hd.map ?_
    simp only [true_and]
    by_cases hf : many ≤ (rs.length : Int)
    · rw [decide_eq_true (show (rs.length : Int) ≥ many from hf), cond_true, if_pos hf]
      exact ⟨Ext.drew w, by trivial⟩
    · rw [decide_eq_false (show ¬ (rs.length : Int) ≥ many from hf), cond_false, if_neg hf]
      refine cm_holes_New (new_ok w.drew) ?_
      rintro v w1 ⟨hb, rfl, e1, z1, H, f1⟩
      refine Al_e fun b w2 r2 e2 z2 f2 => ?_
      have zd : w.drew.heap.size = w.heap.size := rfl
      have ec : (if (1099511627776 : Int) < (if (0 : Int) > now then 0 else now) then 1099511627776 else (if (0 : Int) > now then 0 else now)) = clampT now := by
        unfold clampT
        split <;> split <;> omega
      rw [ec] at r2
      refine ⟨((Ext.drew w).trans f1).trans f2, ⟨b, hb, ⟨none, 0, 0⟩, [], []⟩, rfl, ⟨r2, H.ext f2, Gp.Hol.Good.nil, List.Pairwise.nil, List.Perm.refl _, ⟨by simp only; omega, (by rintro ⟨o, hz⟩; cases hz), fun x hx => by simp at hx⟩⟩, .inr ⟨hl, ?_⟩⟩
      rintro z (g | g | ⟨o, g⟩ | ⟨x, hx, _⟩)
      · simp only at g; omega
      · simp only at g; omega
      · cases g
      · simp at hx
  · have hj : jopen many (jtab rs) k now = some e.2 := by
      unfold jopen
      rw [lk_tab, hl]; rfl
    rw [hj]
    refine ⟨some ⟨e.1.b, 0, none⟩, rfl, ?_⟩
    simp only [cond_true]
    exact ⟨Ext.refl _, by trivial, e.1, rfl, h.bufs _ (lk_mem hl), .inl hl⟩
end
end Go.Proofs
