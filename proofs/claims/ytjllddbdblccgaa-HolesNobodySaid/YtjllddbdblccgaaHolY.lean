import Derived.Test.YtjllddbdblccgaaHolX
/- Parts of a datagram: the document's answer. -/
namespace Go.Proofs
open Gp Gp.Hol
set_option maxRecDepth 100000

/-- The document's parts, in memory. -/
structure RAt (w : World) (x : Nat) (t : SliceV) (ys : List P3) (L : List Pc) : Prop where
  row : Row w x [.slice t.a t.len t.cap]
  buf : BufN 3 eP w t ys
  pcs : PcsAt w ys L
  apart : ∀ b, SliceV.at t b → b ≠ x
  free : FreeP ys fun b => b = x

theorem RAt.ext {w w' : World} {x : Nat} {t : SliceV} {ys : List P3} {L : List Pc} (R : RAt w x t ys L) (hf : Ext w w') : RAt w' x t ys L := ⟨R.row.ext hf, R.buf.ext hf, R.pcs.ext hf, R.apart, R.free⟩
theorem RAt.fr {w w' : World} {x : Nat} {t : SliceV} {ys : List P3} {L : List Pc} {S : Nat → Prop} (R : RAt w x t ys L) (hf : Fr8 w w' S) (h1 : ¬ S x) (h2 : ∀ b, SliceV.at t b → ¬ S b) (h3 : FreeP ys S) : RAt w' x t ys L :=
  ⟨R.row.fr hf h1, R.buf.fr hf h2, R.pcs.fr hf h3, R.apart, R.free⟩
theorem RAt.sl {w : World} {x : Nat} {t : SliceV} {ys : List P3} {L : List Pc} (R : RAt w x t ys L) : SlN 3 eP w t ys := R.buf.sl eP_len (by omega)
theorem RAt.len {w : World} {x : Nat} {t : SliceV} {ys : List P3} {L : List Pc} (R : RAt w x t ys L) : t.len = L.length := R.buf.len.trans R.pcs.len

/-- A part of the document's parts is read. -/
theorem RAt.ix {w : World} {x : Nat} {t : SliceV} {ys : List P3} {L : List Pc} (R : RAt w x t ys L) {j : Nat} (hj : j < L.length) {K : Addr → Prop}
    (hK : ∀ (a : Addr) (y0 : Int) (y1 : Bool) (y2 : SliceV) (b : List UInt8), L[j]? = some (y0, y1, b) → ys[j]? = some (y0, y1, y2, ()) → SlB w y2 b → w.cell? a = some (.int .i64 y0) → w.cell? (a.add 1) = some (.bool y1) → w.cell? (a.add 2) = some (.slice y2.a y2.len y2.cap) → K a) : AtIx t 3 (j : Int) K := by
  have hlen := R.buf.len
  have hxl := R.pcs.len
  have hxj := List.getElem?_eq_getElem (show j < ys.length by omega)
  generalize ys[j] = y at hxj
  obtain ⟨p, hp, e1, e2, e3⟩ := R.pcs.get hxj
  obtain ⟨y0, y1, y2, ⟨⟩⟩ := y
  obtain ⟨p0, p1, p2⟩ := p
  simp only at e1 e2 e3
  subst e1 e2
  refine SlN_ix eP_len (by omega) R.sl (by omega) (by rw [Int.toNat_natCast]; exact hxj) fun a' hc => ?_
  exact hK a' y0 y1 y2 p2 hp hxj e3 (hc 0 _ rfl) (hc 1 _ rfl) (hc 2 _ rfl)

theorem take_any {L : List Pc} {f : Pc → Bool} {j : Nat} {p : Pc} (hp : L[j]? = some p) (h : (L.take j).any f = false) (hf : f p = false) : (L.take (j + 1)).any f = false := by
  rw [List.take_add_one, hp, Option.toList_some, List.any_append, h, List.any_cons, hf, List.any_nil]; rfl

theorem add0 (a : Addr) : a.add 0 = a := by unfold Addr.add; simp

theorem same_ok {w : World} {x : Nat} {t : SliceV} {ys : List P3} {L : List Pc} (R : RAt w x t ys L) (hl : L.length ≤ 2 ^ 30) {off : Int} {more : Bool} {s : SliceV} {b : List UInt8} (hs : SlB w s b) :
    c_ref15_Holes_same (some ⟨x, 0, none⟩) off more s w fun r w' => r = decide (((off, more, b) : Pc) ∈ L) ∧ Ext w w' := by
  apply ok_ref15_Holes_same
  unfold s_ref15_Holes_same
  have hlen := R.len
  refine LoopP_inv (fun st W => ∃ j : Nat, j ≤ L.length ∧ st.1 = (j : Int) ∧ Ext w W ∧ (L.take j).any (fun p => decide (p = (off, more, b))) = false) (fun st _ => (L.length - st.1).toNat) ⟨0, by omega, rfl, Ext.refl _, by simp⟩ ?_
  rintro ⟨i, ⟨⟩⟩ W ⟨j, hj, hi, hw, hm⟩ next hnext
  simp only at hi
  subst hi
  have RW := R.ext hw
  simp -zeta only [ex_some, ex_some, Ld_eq, List.getElem?_cons_zero, LdV_some, dec_slice, RW.row.cell]
  by_cases hlt : (j : Int) < (t.len : Int)
  · rw [decide_eq_true hlt, cond_true]
    refine RW.ix (by omega) fun a y0 y1 y2 p2 hp _ e3 c0 c1 c2 => ?_
    simp -zeta only [LdV_some, dec_slice, dec_int, dec_bool, add0, c0, c1, c2]
    refine Al_f rfl rfl fun u W1 ru eu zu fu => ?_
    have hw1 := hw.trans fu
    intro J
    have hJT : (y0, y1, p2) = ((off, more, b) : Pc) → J true := by
      intro he
      simp only [J, cond_true]
      exact ⟨(decide_eq_true (he ▸ List.mem_of_getElem? hp)).symm, hw1⟩
    have hJF : (y0, y1, p2) ≠ ((off, more, b) : Pc) → J false := by
      intro he
      simp only [J, cond_false]
      rw [wrap_i64 (by omega) (by omega)]
      exact hnext _ _ ⟨j + 1, by omega, by simp, hw1, take_any hp hm (decide_eq_false he)⟩ (by simp only; omega)
    clear_value J
    simp -zeta only [List.getElem?_cons_zero, List.getElem?_cons_succ, LdV_some, dec_slice, dec_int, dec_bool, add_mk, Nat.zero_add, ru.cell]
    by_cases h1 : y0 = off
    · rw [show (y0 == off) = true by simpa using h1, cond_true]
      by_cases h2 : y1 = more
      · rw [show (y1 == more) = true by simpa using h2, cond_true]
        refine bytesStr_of (e3.ext fu) (bytesStr_of (hs.ext hw1) ?_)
        have hst : strEq ⟨⟨p2⟩⟩ ⟨⟨b⟩⟩ = decide (p2 = b) := by
          unfold strEq
          rw [ByteArray.toList_eq, ByteArray.toList_eq]
          show (p2 == b) = decide (p2 = b)
          by_cases h : p2 = b <;> simp [h]
        rw [hst]
        by_cases h3 : p2 = b
        · rw [decide_eq_true h3]; exact hJT (by rw [h1, h2, h3])
        · rw [decide_eq_false h3]; exact hJF fun h => h3 (by simp only [Prod.mk.injEq] at h; exact h.2.2)
      · rw [show (y1 == more) = false by simpa using h2, cond_false]
        exact hJF fun h => h2 (by simp only [Prod.mk.injEq] at h; exact h.2.1)
    · rw [show (y0 == off) = false by simpa using h1, cond_false]
      exact hJF fun h => h1 (by simp only [Prod.mk.injEq] at h; exact h.1)
  · rw [decide_eq_false hlt, cond_false]
    rw [List.take_of_length_le (by omega)] at hm
    refine ⟨(decide_eq_false fun h => ?_).symm, hw⟩
    have := List.any_eq_false.1 hm _ h
    simp at this

theorem shares_ok {w : World} {x : Nat} {t : SliceV} {ys : List P3} {L : List Pc} (R : RAt w x t ys L) (hl : L.length ≤ 2 ^ 30) (hg : ∀ p ∈ L, 0 ≤ p.1 ∧ pend p ≤ 65535) {off : Int} {more : Bool} {s : SliceV} {b : List UInt8} (hs : SlB w s b) (h0 : 0 ≤ off) (h1 : pend (off, more, b) ≤ 65535) :
    c_ref15_Holes_shares (some ⟨x, 0, none⟩) off s w fun r w' => r = L.any (sh (off, more, b)) ∧ Ext w w' := by
  apply ok_ref15_Holes_shares
  unfold s_ref15_Holes_shares
  have hlen := R.len
  refine LoopP_inv (fun st W => ∃ j : Nat, j ≤ L.length ∧ st.1 = (j : Int) ∧ Ext w W ∧ (L.take j).any (sh (off, more, b)) = false) (fun st _ => (L.length - st.1).toNat) ⟨0, by omega, rfl, Ext.refl _, by simp⟩ ?_
  rintro ⟨i, ⟨⟩⟩ W ⟨j, hj, hi, hw, hm⟩ next hnext
  simp only at hi
  subst hi
  have RW := R.ext hw
  simp -zeta only [ex_some, ex_some, Ld_eq, List.getElem?_cons_zero, LdV_some, dec_slice, RW.row.cell]
  by_cases hlt : (j : Int) < (t.len : Int)
  · rw [decide_eq_true hlt, cond_true]
    refine RW.ix (by omega) fun a y0 y1 y2 p2 hp _ e3 c0 c1 c2 => ?_
    have hpm := List.mem_of_getElem? hp
    have hpg := hg _ hpm
    simp -zeta only [LdV_some, dec_slice, dec_int, dec_bool, add0, c0, c1, c2]
    refine Al_f rfl rfl fun u W1 ru eu zu fu => ?_
    have hw1 := hw.trans fu
    have hsl := hs.1
    have e3l := e3.1
    have nb := empty_iff hs
    have np := empty_iff e3
    unfold pend at h1 hpg
    simp only at h1 hpg
    have hgb : decide ((s.len : Int) > 0) = !b.isEmpty := by
      rw [hsl]
      cases b with
      | nil => rfl
      | cons c l => exact decide_eq_true (by simp only [List.length_cons]; omega)
    have hgp : decide ((y2.len : Int) > 0) = !p2.isEmpty := by
      rw [e3l]
      cases p2 with
      | nil => rfl
      | cons c l => exact decide_eq_true (by simp only [List.length_cons]; omega)
    intro J
    have hJ : ∀ v, v = (!p2.isEmpty && !b.isEmpty) → J v := by
      intro v hv
      simp -zeta only [J]
      refine JoinP.of fun J2 hJ2 => ?_
      have hJ2' : ∀ v2 : Bool, v2 = sh (off, more, b) (y0, y1, p2) → J2 ((v2, ()), W1) := by
        intro v2 h2
        refine hJ2 _ ?_
        dsimp only
        cases v2
        · rw [cond_false, wrap_i64 (by omega) (by omega)]
          exact hnext _ _ ⟨j + 1, by omega, by simp, hw1, take_any hp hm h2.symm⟩ (by simp only; omega)
        · rw [cond_true]
          exact ⟨(List.any_eq_true.2 ⟨_, hpm, h2.symm⟩).symm, hw1⟩
      unfold sh pend at hJ2'
      simp only at hJ2'
      have w1 : IntKind.i64.wrap (off + (s.len : Int)) = off + (b.length : Int) := by rw [wrap_i64 (by omega) (by omega), hsl]
      have w2 : IntKind.i64.wrap (y0 + (y2.len : Int)) = y0 + (p2.length : Int) := by rw [wrap_i64 (by omega) (by omega), e3l]
      simp -zeta only [List.getElem?_cons_zero, List.getElem?_cons_succ, LdV_some, dec_slice, dec_int, add_mk, Nat.zero_add, ru.cell, w1, w2, nb, np]
      have e01 : (y0 == off) = decide (off = y0) := by
        by_cases h : y0 = off
        · simp [h]
        · have : ¬ off = y0 := fun e => h e.symm
          simp [h, this]
      rw [e01]
      generalize b.isEmpty = eb at *
      generalize p2.isEmpty = ep at *
      generalize decide (y0 < off + (b.length : Int)) = d1 at *
      generalize decide (off < y0 + (p2.length : Int)) = d2 at *
      generalize decide (off = y0) = d3 at *
      subst hv
      cases eb <;> cases ep <;> cases d1 <;> cases d2 <;> cases d3 <;> exact hJ2' _ rfl
    clear_value J
    simp -zeta only [List.getElem?_cons_zero, List.getElem?_cons_succ, LdV_some, dec_slice, add_mk, Nat.zero_add, ru.cell, hgp, hgb]
    cases hpe : p2.isEmpty
    · simp only [Bool.not_false, cond_true]
      exact hJ _ (by rw [hpe]; rfl)
    · simp only [Bool.not_true, cond_false]
      exact hJ _ (by rw [hpe]; rfl)
  · rw [decide_eq_false hlt, cond_false]
    rw [List.take_of_length_le (by omega)] at hm
    exact ⟨hm.symm, hw⟩

theorem lastE_cons (p : Pc) (l : List Pc) : lastE (p :: l) = if p.2.1 = false then pend p else lastE l := rfl

theorem rend_ok {w : World} {x : Nat} {t : SliceV} {ys : List P3} {L : List Pc} (R : RAt w x t ys L) (hl : L.length ≤ 2 ^ 30) (hg : ∀ p ∈ L, 0 ≤ p.1 ∧ pend p ≤ 65535) :
    c_ref15_Holes_end (some ⟨x, 0, none⟩) w fun r w' => r = lastE L ∧ Ext w w' := by
  apply ok_ref15_Holes_end
  unfold s_ref15_Holes_end
  have hlen := R.len
  refine LoopP_inv (fun st W => ∃ j : Nat, j ≤ L.length ∧ st.1 = (j : Int) ∧ Ext w W ∧ lastE L = lastE (L.drop j)) (fun st _ => (L.length - st.1).toNat) ⟨0, by omega, rfl, Ext.refl _, rfl⟩ ?_
  rintro ⟨i, ⟨⟩⟩ W ⟨j, hj, hi, hw, hm⟩ next hnext
  simp only at hi
  subst hi
  have RW := R.ext hw
  simp -zeta only [ex_some, ex_some, Ld_eq, List.getElem?_cons_zero, LdV_some, dec_slice, RW.row.cell]
  by_cases hlt : (j : Int) < (t.len : Int)
  · rw [decide_eq_true hlt, cond_true]
    refine RW.ix (by omega) fun a y0 y1 y2 p2 hp hy e3 c0 c1 c2 => ?_
    have hdrop : L.drop j = (y0, y1, p2) :: L.drop (j + 1) := by
      obtain ⟨h1, h2⟩ := List.getElem?_eq_some_iff.1 hp
      rw [← h2]
      exact List.drop_eq_getElem_cons h1
    rw [hdrop] at hm
    rw [lastE_cons] at hm
    simp only at hm
    have hpg := hg _ (List.mem_of_getElem? hp)
    unfold pend at hpg
    simp only at hpg
    simp only [LdV_some, dec_bool, c1]
    cases y1
    · simp only [Bool.not_false, cond_true]
      have RD := RW.ext (Ext.drew W)
      simp only [List.getElem?_cons_zero, LdV_some, dec_slice, RD.row.cell]
      have hs := RD.sl
      refine RD.ix (by omega) fun a y0' y1' y2' p2' hp' hy' e3' c0' c1' c2' => ?_
      rw [hp] at hp'
      cases hp'
      simp only [LdV_some, dec_int, c0']
      refine RD.ix (by omega) fun a y0' y1' y2' p2' hp' hy' e3' c0' c1' c2' => ?_
      rw [hp] at hp'
      cases hp'
      simp only [LdV_some, dec_slice, c2']
      have := e3'.1
      rw [wrap_i64 (by (try simp only); omega) (by (try simp only); omega), hm, if_pos rfl, this]
      exact ⟨rfl, hw.trans (Ext.drew _)⟩
    · simp only [Bool.not_true, cond_false]
      rw [wrap_i64 (by omega) (by omega)]
      exact hnext _ _ ⟨j + 1, by omega, by simp, hw, by rw [hm]; simp⟩ (by simp only; omega)
  · rw [decide_eq_false hlt, cond_false]
    rw [List.drop_of_length_le (by omega)] at hm
    exact ⟨hm.symm, hw⟩

theorem rfar_ok {w : World} {x : Nat} {t : SliceV} {ys : List P3} {L : List Pc} (R : RAt w x t ys L) (hl : L.length ≤ 2 ^ 30) (hg : ∀ p ∈ L, 0 ≤ p.1 ∧ pend p ≤ 65535) :
    c_ref15_Holes_Far (some ⟨x, 0, none⟩) w fun r w' => r = far L ∧ Ext w w' := by
  apply ok_ref15_Holes_Far
  unfold s_ref15_Holes_Far
  have hlen := R.len
  refine LoopP_inv (fun st W => ∃ j : Nat, j ≤ L.length ∧ st.2.1 = (j : Int) ∧ Ext w W ∧ st.1 = far (L.take j)) (fun st _ => (L.length - st.2.1).toNat) ⟨0, by omega, rfl, Ext.refl _, rfl⟩ ?_
  rintro ⟨m, i, ⟨⟩⟩ W ⟨j, hj, hi, hw, hm⟩ next hnext
  simp only at hi hm
  subst hi hm
  have RW := R.ext hw
  have RD := RW.ext (Ext.drew W)
  simp -zeta only [ex_some, ex_some, Ld_eq, List.getElem?_cons_zero, LdV_some, dec_slice, RW.row.cell]
  by_cases hlt : (j : Int) < (t.len : Int)
  · rw [decide_eq_true hlt, cond_true]
    simp -zeta only [List.getElem?_cons_zero, LdV_some, dec_slice, RD.row.cell]
    refine RD.ix (by omega) fun a y0 y1 y2 p2 hp hy e3 c0 c1 c2 => ?_
    simp -zeta only [LdV_some, dec_int, c0]
    refine RD.ix (by omega) fun a y0' y1' y2' p2' hp' hy' e3' c0' c1' c2' => ?_
    rw [hp] at hp'
    cases hp'
    have hpg := hg _ (List.mem_of_getElem? hp)
    unfold pend at hpg
    simp only at hpg
    have e := e3'.1
    simp only [LdV_some, dec_slice, c2']
    rw [wrap_i64 (n := y0 + _) (by (try simp only); omega) (by (try simp only); omega), wrap_i64 (by omega) (by omega)]
    refine hnext _ _ ⟨j + 1, by omega, by simp, hw.trans (Ext.drew _), ?_⟩ (by simp only; omega)
    rw [Gp.Hol.take_snoc' hp]
    unfold far
    rw [List.foldl_append]
    simp only [List.foldl_cons, List.foldl_nil]
    unfold pend
    simp only
    rw [← e]
    split <;> omega
  · rw [decide_eq_false hlt, cond_false]
    rw [List.take_of_length_le (by omega)]
    exact ⟨rfl, hw⟩

theorem cover_ok {w : World} {x : Nat} {t : SliceV} {ys : List P3} {L : List Pc} (R : RAt w x t ys L) (hl : L.length ≤ 2 ^ 30) (hg : ∀ p ∈ L, 0 ≤ p.1 ∧ pend p ≤ 65535) (at_ : Int) :
    c_ref15_Holes_Cover (some ⟨x, 0, none⟩) at_ w fun r w' => r = cov L at_ ∧ Ext w w' := by
  apply ok_ref15_Holes_Cover
  unfold s_ref15_Holes_Cover cov
  have hlen := R.len
  refine LoopP_inv (fun st W => ∃ j : Nat, j ≤ L.length ∧ st.1 = (j : Int) ∧ Ext w W ∧ (L.take j).any (fun p => decide (p.1 ≤ at_) && decide (at_ < pend p)) = false) (fun st _ => (L.length - st.1).toNat) ⟨0, by omega, rfl, Ext.refl _, by simp⟩ ?_
  rintro ⟨i, ⟨⟩⟩ W ⟨j, hj, hi, hw, hm⟩ next hnext
  simp only at hi
  subst hi
  have RW := R.ext hw
  have RD := RW.ext (Ext.drew W)
  simp -zeta only [ex_some, ex_some, Ld_eq, List.getElem?_cons_zero, LdV_some, dec_slice, RW.row.cell]
  by_cases hlt : (j : Int) < (t.len : Int)
  · rw [decide_eq_true hlt, cond_true]
    intro J
    have hd := hw.trans (Ext.drew W)
    have hJ : ∀ p v, L[j]? = some p → v = (decide (p.1 ≤ at_) && decide (at_ < pend p)) → J v W.drew := by
      intro p v hp hv
      simp only [J]
      cases v
      · rw [cond_false, wrap_i64 (by omega) (by omega)]
        exact hnext _ _ ⟨j + 1, by omega, by simp, hd, take_any hp hm hv.symm⟩ (by simp only; omega)
      · rw [cond_true]
        exact ⟨(List.any_eq_true.2 ⟨_, List.mem_of_getElem? hp, hv.symm⟩).symm, hd⟩
    clear_value J
    simp -zeta only [List.getElem?_cons_zero, LdV_some, dec_slice, RD.row.cell]
    refine RD.ix (by omega) fun a y0 y1 y2 p2 hp hy e3 c0 c1 c2 => ?_
    simp -zeta only [LdV_some, dec_int, c0]
    by_cases h1 : y0 ≤ at_
    · rw [decide_eq_true h1, cond_true]
      refine RD.ix (by omega) fun a y0' y1' y2' p2' hp' hy' e3' c0' c1' c2' => ?_
      rw [hp] at hp'
      cases hp'
      simp -zeta only [LdV_some, dec_int, c0']
      refine RD.ix (by omega) fun a y0' y1' y2' p2' hp' hy' e3' c0' c1' c2' => ?_
      rw [hp] at hp'
      cases hp'
      have hpg := hg _ (List.mem_of_getElem? hp)
      unfold pend at hpg
      simp only at hpg
      have e := e3'.1
      simp only [LdV_some, dec_slice, c2']
      rw [wrap_i64 (by (try simp only); omega) (by (try simp only); omega)]
      refine hJ _ _ hp ?_
      unfold pend
      simp only
      rw [decide_eq_true h1, Bool.true_and, e]
    · rw [decide_eq_false h1, cond_false]
      exact hJ _ _ hp (by simp only; rw [decide_eq_false h1]; rfl)
  · rw [decide_eq_false hlt, cond_false]
    rw [List.take_of_length_le (by omega)] at hm
    exact ⟨hm.symm, hw⟩

theorem rbytes_ok {w : World} {x : Nat} {t : SliceV} {ys : List P3} {L : List Pc} (R : RAt w x t ys L) (hl : L.length ≤ 2 ^ 30) (hg : ∀ p ∈ L, 0 ≤ p.1 ∧ pend p ≤ 65535) :
    c_ref15_Holes_Bytes (some ⟨x, 0, none⟩) w fun r w' => r = sum L ∧ w' = w := by
  apply ok_ref15_Holes_Bytes
  unfold s_ref15_Holes_Bytes
  have hlen := R.len
  simp -zeta only [ex_some]
  refine LoopP_inv (fun st W => ∃ j : Nat, j ≤ L.length ∧ st.2.1 = (j : Int) ∧ W = w ∧ st.1 = sum (L.take j)) (fun st _ => (L.length - st.2.1).toNat) ⟨0, by omega, rfl, rfl, rfl⟩ ?_
  rintro ⟨m, i, ⟨⟩⟩ W ⟨j, hj, hi, rfl, hm⟩ next hnext
  simp only at hi hm
  subst hi hm
  simp -zeta only [Ld_eq, List.getElem?_cons_zero, LdV_some, dec_slice, R.row.cell]
  by_cases hlt : (j : Int) < (t.len : Int)
  · rw [decide_eq_true hlt, cond_true]
    refine R.ix (by omega) fun a y0 y1 y2 p2 hp hy e3 c0 c1 c2 => ?_
    simp only [LdV_some, dec_slice, c2]
    have e := e3.1
    have h1 := sum_le (l := L.take (j + 1)) fun q hq => hg q (List.mem_of_mem_take hq)
    have h2 := sum_nonneg (L.take j)
    have h3 : sum (L.take (j + 1)) = sum (L.take j) + (p2.length : Int) := by
      rw [Gp.Hol.take_snoc' hp]; simp [sum]
    rw [List.length_take, Nat.min_eq_left (by omega)] at h1
    rw [wrap_i64 (n := sum _ + _) (by (try simp only); omega) (by (try simp only); omega), wrap_i64 (by omega) (by omega)]
    exact hnext _ _ ⟨j + 1, by omega, by simp, rfl, by simp only; rw [h3, e]⟩ (by simp only; omega)
  · rw [decide_eq_false hlt, cond_false]
    rw [List.take_of_length_le (by omega)]
    exact ⟨rfl, by trivial⟩

theorem rroom_ok {w : World} {x : Nat} {t : SliceV} {ys : List P3} {L : List Pc} (R : RAt w x t ys L) (hl : L.length ≤ 2 ^ 30) {off : Int} {s : SliceV} {b : List UInt8} (hs : SlB w s b) :
    c_ref15_Holes_Room (some ⟨x, 0, none⟩) off s w fun r w' => r = roomP L off b ∧ Ext w w' := by
  apply ok_ref15_Holes_Room
  unfold s_ref15_Holes_Room roomP
  intro J
  refine cm_ref15_Holes_same (same_ok R hl hs) ?_
  rintro r w2 ⟨rfl, f2⟩
  by_cases h1 : ((off, true, b) : Pc) ∈ L
  · rw [decide_eq_true h1, cond_true]
    simp only [J, cond_true, if_pos (Or.inl h1 : ((off, true, b) : Pc) ∈ L ∨ ((off, false, b) : Pc) ∈ L)]
    exact ⟨by trivial, f2⟩
  rw [decide_eq_false h1, cond_false]
  refine cm_ref15_Holes_same (same_ok (R.ext f2) hl (hs.ext f2)) ?_
  rintro r w3 ⟨rfl, f3⟩
  by_cases h2 : ((off, false, b) : Pc) ∈ L
  · rw [decide_eq_true h2]
    simp only [J, cond_true, if_pos (Or.inr h2 : ((off, true, b) : Pc) ∈ L ∨ ((off, false, b) : Pc) ∈ L)]
    exact ⟨by trivial, f2.trans f3⟩
  rw [decide_eq_false h2]
  simp only [J, cond_false]
  rw [if_neg (by simp [h1, h2])]
  exact ⟨by rw [hs.1], f2.trans f3⟩

end Go.Proofs

/- Parts of a datagram: the document's answer, put in, put together, and where nothing came. -/
namespace Go.Proofs
open Gp Gp.Hol
set_option maxRecDepth 100000

theorem radd_ok {w : World} {x : Nat} {t : SliceV} {ys : List P3} {L : List Pc} (R : RAt w x t ys L) (hl : L.length ≤ 2 ^ 20) (hg : ∀ p ∈ L, 0 ≤ p.1 ∧ pend p ≤ 65535) {off : Int} {more : Bool} {s : SliceV} {b : List UInt8} (hs : SlB w s b) (hb : b.length ≤ 2 ^ 40) :
    c_ref15_Holes_Add (some ⟨x, 0, none⟩) off more s w fun r w' => r = (add L (off, more, b)).1 ∧ ∃ t' ys', RAt w' x t' ys' (add L (off, more, b)).2 ∧ Fr8 w w' (· = x) ∧ (∀ c, SliceV.at t' c → SliceV.at t c ∨ w.heap.size ≤ c) ∧
      ∀ y ∈ ys', y ∈ ys ∨ ∀ a, y.2.2.1.a = some a → w.heap.size ≤ a.block := by
  apply ok_ref15_Holes_Add
  unfold s_ref15_Holes_Add
  have hsl := hs.1
  have keep : ∀ (n : Int) w', Ext w w' → n = (add L (off, more, b)).1 → (add L (off, more, b)).2 = L → n = (add L (off, more, b)).1 ∧ ∃ t' ys', RAt w' x t' ys' (add L (off, more, b)).2 ∧ Fr8 w w' (· = x) ∧ (∀ c, SliceV.at t' c → SliceV.at t c ∨ w.heap.size ≤ c) ∧
      ∀ y ∈ ys', y ∈ ys ∨ ∀ a, y.2.2.1.a = some a → w.heap.size ≤ a.block :=
    fun n w' hf h1 h2 => ⟨h1, t, ys, (by rw [h2]; exact R.ext hf), hf _, fun c hc => .inl hc, fun y hy => .inl hy⟩
  intro J
  have hT : (off < 0 ∨ (more = true ∧ (b.length = 0 ∨ b.length % 8 ≠ 0))) → J true := by
    intro h
    simp only [J, cond_true]
    have hm : may (off, more, b) = 4 := by unfold may; rw [if_pos h]
    have ha : add L (off, more, b) = (4, L) := by unfold add; rw [if_pos (by rw [hm]; decide), hm]
    exact keep 4 w (Ext.refl _) (by rw [ha]) (by rw [ha])
  have hF : ¬ (off < 0 ∨ (more = true ∧ (b.length = 0 ∨ b.length % 8 ≠ 0))) → J false := by
    intro h
    clear hT
    simp -zeta only [J, cond_false]
    by_cases h6 : off > 65535 - (b.length : Int)
    · rw [decide_eq_true (by rw [wrap_i64 (by omega) (by omega), hsl]; exact h6), cond_true]
      have hm : may (off, more, b) = 6 := by unfold may; rw [if_neg h, if_pos h6]
      have ha : add L (off, more, b) = (6, L) := by unfold add; rw [if_pos (by rw [hm]; decide), hm]
      exact keep 6 w (Ext.refl _) (by rw [ha]) (by rw [ha])
    rw [decide_eq_false (by rw [wrap_i64 (by omega) (by omega), hsl]; exact h6), cond_false]
    have hm : may (off, more, b) = 0 := by unfold may; rw [if_neg h, if_neg h6]
    obtain ⟨o0, o1, o2⟩ := may_ok hm
    have o0 : 0 ≤ off := o0
    refine cm_ref15_Holes_same (same_ok R (by omega) hs) ?_
    rintro r w2 ⟨rfl, f2⟩
    by_cases hmem : ((off, more, b) : Pc) ∈ L
    · rw [decide_eq_true hmem, cond_true]
      have ha : add L (off, more, b) = (0, L) := by unfold add; rw [if_neg (by rw [hm]; simp), if_pos hmem]
      exact keep 0 w2 f2 (by rw [ha]) (by rw [ha])
    rw [decide_eq_false hmem, cond_false]
    refine cm_ref15_Holes_shares (shares_ok (more := more) (R.ext f2) (by omega) hg (hs.ext f2) o0 o1) ?_
    rintro r w3 ⟨rfl, f3⟩
    have e3 := f2.trans f3
    cases hany : L.any (sh (off, more, b))
    case true =>
      rw [cond_true]
      have ha : add L (off, more, b) = (9, L) := by unfold add; rw [if_neg (by rw [hm]; simp), if_neg hmem, if_pos hany]
      exact keep 9 w3 e3 (by rw [ha]) (by rw [ha])
    rw [cond_false]
    refine cm_ref15_Holes_end (rend_ok (R.ext e3) (by omega) hg) ?_
    rintro r w4 ⟨rfl, f4⟩
    have e4 := e3.trans f4
    intro J2
    have hbad : ∀ W, Ext w W → fits L (lastE L) (off, more, b) = false → J2 true W := by
      intro W hf hfit
      simp only [J2, cond_true]
      have ha : add L (off, more, b) = (4, L) := by unfold add; rw [if_neg (by rw [hm]; simp), if_neg hmem, if_neg (by rw [hany]; simp), if_pos hfit]
      exact keep 4 W hf (by rw [ha]) (by rw [ha])
    have hgood : ∀ W, Ext w W → fits L (lastE L) (off, more, b) = true → J2 false W := by
      intro W hf hfit
      clear hbad
      simp -zeta only [J2, cond_false]
      have ha : add L (off, more, b) = (0, L ++ [(off, more, b)]) := by unfold add; rw [if_neg (by rw [hm]; simp), if_neg hmem, if_neg (by rw [hany]; simp), if_neg (by rw [hfit]; simp)]
      rw [ha]
      have RW := R.ext hf
      simp -zeta only [ex_some, ex_some, Ld_eq, List.getElem?_cons_zero, LdV_some, dec_slice, RW.row.cell]
      have hyl := R.pcs.len
      refine AppSl_bufN eP_len BufN.nil RW.sl rfl (by omega) eP_one (by simp only [List.length_nil]; omega) (by simp only [List.length_nil]; omega) fun s1 w5 b1 f5 at1 => ?_
      have f5 : Ext W w5 := f5.new (by rintro c hc ⟨o, e⟩; cases e)
      have e5 := hf.trans f5
      have hs1lt : ∀ c, SliceV.at s1 c → c < w5.heap.size := fun c hc => b1.lt hc
      refine AppSl_bytes (l := []) (Buf.nil) ((hs.ext e5)) (by simp only [List.length_nil]; omega) fun s2 w6 b2 f6 at2 _ => ?_
      have f6 : Ext w5 w6 := f6.new (by rintro c hc ⟨o, e⟩; cases e)
      have b2 : Buf w6 s2 (bytesV b) := b2
      refine Al_e fun v w7 rv ev z7 f7 => ?_
      have hd7 : SlB w7 s2 b := (SlB.of_buf b2).ext f7
      have hyl7 : SlN 3 eP w7 ⟨some ⟨v, 0, none⟩, 1, 1⟩ [(off, more, s2, ())] := (BufN.row (xs := [((off, more, s2, ()) : P3)]) (f := eP) (n := 3) rv).sl eP_len (by omega)
      have b1 : BufN 3 eP w7 s1 ys := by simpa using (b1.ext f6).ext f7
      refine AppSl_bufN eP_len b1 hyl7 rfl (by omega) eP_one (by simp only [List.length_singleton]; omega) (by simp only [List.length_singleton]; omega) fun s3 w8 b3 f8 at3 => ?_
      have e7 := (e5.trans f6).trans f7
      have hat1 : ∀ c, SliceV.at s1 c → w.heap.size ≤ c := fun c hc => by
        rcases at1 c hc with ⟨o, e⟩ | h
        · cases e
        · have := hf.size; omega
      have hat3 : ∀ c, SliceV.at s3 c → w.heap.size ≤ c := fun c hc => by
        rcases at3 c hc with h | h
        · exact hat1 c h
        · have := e7.size; omega
      have hs2 : ∀ a, s2.a = some a → w5.heap.size ≤ a.block := fun a ha' => by
        rcases at2 _ (b2.at_eq ha') with ⟨o, e⟩ | h
        · cases e
        · exact h
      have hxlt := R.row.lt
      have e8 : Ext w w8 := e7.new f8 fun c hc hc' => by have := hat1 c hc'; omega
      have hpc : PcsAt w8 (ys ++ [(off, more, s2, ())]) (L ++ [(off, more, b)]) := by
        have h := (R.pcs.ext e8).ins (Nat.le_refl _) (x := (off, more, s2, ())) (p := (off, more, b)) ⟨rfl, rfl, hd7.fr f8 fun a ha' h0 hc => ?_⟩
        · rw [List.take_length, List.drop_length] at h
          rw [hyl, List.take_length, List.drop_length] at h
          exact h
        · -- the new bytes are not where the list is
          have h1 := hs2 a ha'
          have h2 := hs1lt _ hc
          omega
      have hfree : FreeP (ys ++ [(off, more, s2, ())]) fun c => c = x := by
        intro y hy a ha' h0 e
        rcases List.mem_append.1 hy with hy | hy
        · exact R.free y hy a ha' h0 e
        · rw [List.mem_singleton.1 hy] at ha'
          have := hs2 a ha'
          have := e5.size
          omega
      have R8 := R.row.ext e8
      refine St_row R8 rfl (by simp) fun w9 r9 f9 z9 => ?_
      simp only [List.set_cons_zero] at r9
      have hs3x : ∀ c, SliceV.at s3 c → c ≠ x := fun c hc e => by have := hat3 c hc; omega
      refine ⟨by trivial, s3, _, ⟨r9, b3.fr (f9 (· = x) rfl) hs3x, hpc.fr (f9 (· = x) rfl) hfree, hs3x, hfree⟩, e8.fr (f9 (· = x) rfl), fun c hc => .inr (hat3 c hc), fun y hy => ?_⟩
      rcases List.mem_append.1 hy with hy | hy
      · exact .inl hy
      · rw [List.mem_singleton.1 hy]
        exact .inr fun a ha' => by have := hs2 a ha'; have := e5.size; omega
    clear_value J2
    have hp : pend (off, more, b) = off + (b.length : Int) := rfl
    rw [hp] at o1
    have w1 : IntKind.i64.wrap (off + (s.len : Int)) = off + (b.length : Int) := by rw [wrap_i64 (by omega) (by omega), hsl]
    have hfit : fits L (lastE L) (off, more, b) = if more = true then decide (lastE L < 0) || decide (off + (b.length : Int) ≤ lastE L) else decide (lastE L < 0) && decide (far L ≤ off + (b.length : Int)) := rfl
    rw [hfit] at hbad hgood
    rw [w1]
    cases hmo : more
    · rw [Bool.not_false, cond_true]
      rw [hmo] at hbad hgood
      simp only [Bool.false_eq_true, if_false] at hbad hgood
      by_cases hl0 : lastE L ≥ 0
      · rw [decide_eq_true hl0, cond_true]
        exact hbad _ e4 (by rw [decide_eq_false (by omega)]; rfl)
      rw [decide_eq_false hl0, cond_false]
      refine cm_ref15_Holes_Far (rfar_ok (R.ext e4) (by omega) hg) ?_
      rintro r w5 ⟨rfl, f5⟩
      by_cases hfa : far L > off + (b.length : Int)
      · rw [decide_eq_true hfa, cond_true]
        exact hbad _ (e4.trans f5) (by rw [decide_eq_false (show ¬ far L ≤ _ by omega), Bool.and_false])
      · rw [decide_eq_false hfa, cond_false, cond_false]
        exact hgood _ (e4.trans f5) (by rw [decide_eq_true (show lastE L < 0 by omega), decide_eq_true (show far L ≤ _ by omega)]; rfl)
    · rw [Bool.not_true, cond_false]
      rw [hmo] at hbad hgood
      simp only [if_true] at hbad hgood
      by_cases hl0 : lastE L ≥ 0
      · rw [decide_eq_true hl0, cond_true]
        by_cases hgt : off + (b.length : Int) > lastE L
        · rw [decide_eq_true hgt]
          exact hbad _ e4 (by rw [decide_eq_false (show ¬ lastE L < 0 by omega), decide_eq_false (show ¬ _ ≤ lastE L by omega)]; rfl)
        · rw [decide_eq_false hgt]
          exact hgood _ e4 (by rw [decide_eq_true (show _ ≤ lastE L by omega), Bool.or_true])
      · rw [decide_eq_false hl0, cond_false]
        exact hgood _ e4 (by rw [decide_eq_true (show lastE L < 0 by omega), Bool.true_or])
  clear_value J
  by_cases h0 : off < 0
  · rw [decide_eq_true h0, cond_true]; exact hT (.inl h0)
  rw [decide_eq_false h0, cond_false]
  cases hmo : more
  · rw [cond_false]; exact hF (by rw [hmo]; simp; omega)
  rw [cond_true]
  by_cases h2 : b.length = 0
  · rw [show ((s.len : Int) == 0) = true by rw [hsl, h2]; rfl, cond_true]; exact hT (.inr ⟨hmo, .inl h2⟩)
  rw [show ((s.len : Int) == 0) = false by simp; omega, cond_false]
  refine ⟨by decide, ?_⟩
  by_cases h3 : b.length % 8 = 0
  · rw [show (Int.tmod (s.len : Int) 8 != 0) = false by rw [Int.tmod_eq_emod_of_nonneg (by omega)]; simp; omega]; exact hF (by omega)
  · rw [show (Int.tmod (s.len : Int) 8 != 0) = true by rw [Int.tmod_eq_emod_of_nonneg (by omega)]; simp; omega]; exact hT (.inr ⟨hmo, .inr h3⟩)

theorem bytesV_set (l : List UInt8) (i : Nat) (b : UInt8) : (bytesV l).set i (.int .u8 b.toNat) = bytesV (l.set i b) := by
  unfold bytesV; rw [List.map_set]

theorem SlB_ix {w : World} {s : SliceV} {l : List UInt8} (h : SlB w s l) {k : Nat} {b : UInt8} (hk : l[k]? = some b) {K : Addr → Prop} (hK : ∀ a, w.cell? a = some (.int .u8 b.toNat) → K a) : AtIx s 1 (k : Int) K := by
  obtain ⟨a, ha, hc⟩ := h.at_ hk
  have hlt := (List.getElem?_eq_some_iff.1 hk).1
  have hl := h.1
  obtain ⟨sa, sl, sc⟩ := s
  simp only at ha hl
  subst ha
  refine (AtIx_some ..).2 ⟨by omega, by omega, hK _ ?_⟩
  rw [Int.toNat_natCast, Nat.mul_one]
  exact hc

/-- The bytes of a part stand at its place. -/
def Set (out : List UInt8) (p : Pc) (n : Nat) : Prop := ∀ k, k < n → out[p.1.toNat + k]? = p.2.2[k]?

theorem rdone_ok {w : World} {x : Nat} {t : SliceV} {ys : List P3} {L : List Pc} (R : RAt w x t ys L) (G : Gp.Hol.Good L) (hl : L.length ≤ 2 ^ 20) :
    c_ref15_Holes_Done (some ⟨x, 0, none⟩) w fun r ok w' => ((ok = true ∧ 0 ≤ lastE L ∧ sum L = lastE L ∧ ∃ out, SlB w' r out ∧ (out.length : Int) = lastE L ∧ ∀ p ∈ L, Set out p p.2.2.length) ∨ (ok = false ∧ (lastE L < 0 ∨ sum L ≠ lastE L) ∧ SlB w' r [])) ∧ Ext w w' := by
  apply ok_ref15_Holes_Done
  unfold s_ref15_Holes_Done
  have hg : ∀ p ∈ L, 0 ≤ p.1 ∧ pend p ≤ 65535 := fun p hp => ⟨(G.ok p hp).1, (G.ok p hp).2.1⟩
  refine cm_ref15_Holes_end (rend_ok R (by omega) hg) ?_
  rintro r w2 ⟨rfl, f2⟩
  have R2 := R.ext f2
  intro J
  by_cases hneg : lastE L < 0
  · rw [decide_eq_true hneg, cond_true]
    simp only [J, cond_true]
    exact ⟨.inr ⟨by trivial, .inl hneg, SlB.nil⟩, f2⟩
  rw [decide_eq_false hneg, cond_false]
  refine cm_ref15_Holes_Bytes (rbytes_ok R2 (by omega) hg) ?_
  rintro r w0 ⟨rfl, hw⟩
  have hw := hw.symm
  subst hw
  by_cases hsum : sum L = lastE L
  case neg =>
    rw [show (sum L != lastE L) = true by simpa using hsum]
    simp only [J, cond_true]
    exact ⟨.inr ⟨by trivial, .inr hsum, SlB.nil⟩, f2⟩
  rw [show (sum L != lastE L) = false by simpa using hsum]
  simp -zeta only [J, cond_false]
  have hlast : ∀ p ∈ L, pend p ≤ lastE L := by
    by_cases hex : ∃ q ∈ L, q.2.1 = false
    · obtain ⟨q, hq, hqm⟩ := hex
      rw [lastE_some G.one hq hqm]
      exact G.last q hq hqm
    · exact absurd ((lastE_neg G).2 fun q hq => by
        cases hb : q.2.1
        · exact absurd ⟨q, hq, hb⟩ hex
        · rfl) hneg
  have hle : lastE L ≤ 65535 ∨ L = [] := by
    by_cases hex : ∃ q ∈ L, q.2.1 = false
    · obtain ⟨q, hq, hqm⟩ := hex
      rw [lastE_some G.one hq hqm]
      exact .inl (hg q hq).2
    · exact absurd ((lastE_neg G).2 fun q hq => by
        cases hb : q.2.1
        · exact absurd ⟨q, hq, hb⟩ hex
        · rfl) hneg
  have hle : lastE L ≤ 65535 := by
    rcases hle with h | h
    · exact h
    · rw [h]; decide
  obtain ⟨n, hn⟩ : ∃ n : Nat, lastE L = (n : Int) := ⟨(lastE L).toNat, by omega⟩
  refine MkSl_row (by omega) (by omega) (by omega) (by omega) fun c w3 rc ec zc fc => ?_
  have fc : Ext w2 w3 := fc
  rw [hn, Int.toNat_natCast] at rc ⊢
  have hlen := R.len
  have hxlt := R2.row.lt
  have hbytes0 : repCells [Value.int .u8 0] n = bytesV (List.replicate n 0) := by
    have : ∀ n, repCells [Value.int .u8 0] n = bytesV (List.replicate n 0) := by
      intro n
      induction n with
      | zero => rfl
      | succ n ih => rw [repCells, ih, List.replicate_succ]; rfl
    exact this n
  rw [hbytes0] at rc
  have RAtW : ∀ {W}, Fr8 w3 W (· = c) → RAt W x t ys L := fun {W} hf => by
    refine (R2.ext fc).fr hf (by omega) (fun b hb => by have := R2.buf.lt hb; omega) (fun y hy a ha h0 e => ?_)
    obtain ⟨k, hk⟩ := List.getElem?_of_mem hy
    obtain ⟨p, hp, g1, g2, g3⟩ := R2.pcs.get hk
    have := g3.lt ha (by have := g3.1; omega)
    omega
  have fin : ∀ {W}, Fr8 w3 W (· = c) → Ext w W := fun {W} hf => (f2.trans fc).new hf (by intro y hy e; have := f2.size; omega)
  have hdisj : ∀ (i j : Nat) p q, i < j → L[i]? = some p → L[j]? = some q → sh p q = false := by
    intro i j p q hij hp hq
    obtain ⟨h1, rfl⟩ := List.getElem?_eq_some_iff.1 hp
    obtain ⟨h2, rfl⟩ := List.getElem?_eq_some_iff.1 hq
    exact List.pairwise_iff_getElem.1 G.apart i j h1 h2 hij
  refine LoopP_inv (fun st W => ∃ j : Nat, j ≤ L.length ∧ st.1 = (j : Int) ∧ Fr8 w3 W (· = c) ∧ ∃ out : List UInt8, Row W c (bytesV out) ∧ out.length = n ∧ ∀ (i : Nat) p, i < j → L[i]? = some p → Set out p p.2.2.length) (fun st _ => (L.length - st.1).toNat)
    ⟨0, by omega, rfl, Fr8.refl _ _, _, rc, by simp, fun i p h => by omega⟩ ?_
  rintro ⟨i, ⟨⟩⟩ W ⟨j, hj, hi, hf, out, hr, hol, hset⟩ next hnext
  simp only at hi
  subst hi
  have RW := RAtW hf
  simp -zeta only [ex_some, ex_some, Ld_eq, List.getElem?_cons_zero, LdV_some, dec_slice, AtIx_some, add_mk, Nat.zero_add, RW.row.cell]
  by_cases hlt : (j : Int) < (t.len : Int)
  · rw [decide_eq_true hlt, cond_true]
    have hpj := List.getElem?_eq_getElem (show j < L.length by omega)
    generalize L[j] = p at hpj
    have hpm := List.mem_of_getElem? hpj
    have hpl := hlast p hpm
    have hpg := hg p hpm
    refine LoopP_inv (fun st W => ∃ k : Nat, k ≤ p.2.2.length ∧ st.1 = (k : Int) ∧ Fr8 w3 W (· = c) ∧ ∃ out : List UInt8, Row W c (bytesV out) ∧ out.length = n ∧ (∀ (i : Nat) p, i < j → L[i]? = some p → Set out p p.2.2.length) ∧ Set out p k) (fun st _ => (p.2.2.length - st.1).toNat)
      ⟨0, by omega, rfl, hf, out, hr, hol, hset, fun k h => by omega⟩ ?_
    clear hf hr hol hset RW out W
    rintro ⟨i, ⟨⟩⟩ W ⟨k, hk, hi, hf, out, hr, hol, hset, hsk⟩ next2 hnext2
    simp only at hi
    subst hi
    have RW := RAtW hf
    have RD := RW.ext (Ext.drew W)
    have hfd : Fr8 w3 W.drew (· = c) := hf.ext (Ext.drew W)
    simp -zeta only [List.getElem?_cons_zero, LdV_some, dec_slice, RW.row.cell]
    refine RW.ix (by omega) fun a y0 y1 y2 p2 hp hy e3 c0 c1 c2 => ?_
    have hpe : p = (y0, y1, p2) := by rw [hpj] at hp; exact Option.some.inj hp
    have hp2 : p2 = p.2.2 := by rw [hpe]
    have hy0 : y0 = p.1 := by rw [hpe]
    simp -zeta only [LdV_some, dec_slice, c2]
    have hl2 := e3.1
    by_cases hklt : (k : Int) < (y2.len : Int)
    · rw [decide_eq_true hklt, cond_true]
      simp -zeta only [List.getElem?_cons_zero, LdV_some, dec_slice, RD.row.cell]
      refine RD.ix (by omega) fun a y0' y1' y2' p2' hp' hy' e3' c0' c1' c2' => ?_
      rw [hp] at hp'
      cases hp'
      simp -zeta only [LdV_some, dec_int, c0']
      refine RD.ix (by omega) fun a y0' y1' y2' p2' hp' hy' e3' c0' c1' c2' => ?_
      rw [hp] at hp'
      cases hp'
      simp -zeta only [LdV_some, dec_slice, c2']
      have hkp : k < p.2.2.length := by rw [← hp2]; omega
      have hkb := List.getElem?_eq_getElem (show k < p2.length by omega)
      generalize p2[k] = bb at hkb
      refine SlB_ix e3' hkb fun a hca => ?_
      simp -zeta only [LdV_some, dec_int, hca]
      unfold pend at hpl hpg
      rw [← hy0, ← hp2] at hpl hpg
      rw [wrap_i64 (n := y0 + (k : Int)) (by omega) (by omega)]
      refine ⟨by omega, by omega, ?_⟩
      rw [Nat.mul_one]
      have hpos : (y0 + (k : Int)).toNat = y0.toNat + k := by omega
      rw [hpos]
      refine St_row hr.drew rfl (by rw [bytesV_len, hol]; omega) fun W2 r2 g2 z2 => ?_
      rw [bytesV_set] at r2
      rw [wrap_i64 (by omega) (by omega)]
      refine hnext2 _ _ ⟨k + 1, by rw [← hp2]; omega, by simp, hfd.trans (g2 (· = c) rfl) fun _ _ e => e, _, r2, by rw [List.length_set]; exact hol, fun i q hij hq m hm => ?_, fun m hm => ?_⟩ (by simp only; omega)
      · have h1 := hset i q hij hq m hm
        have hq0 := (hg q (List.mem_of_getElem? hq)).1
        rw [List.getElem?_set_ne, h1]
        intro e
        have hs := hdisj i j q p hij hq hpj
        unfold sh at hs
        have n1 : q.2.2.isEmpty = false := by cases hh : q.2.2 with
          | nil => rw [hh] at hm; simp at hm
          | cons _ _ => rfl
        have n2 : p.2.2.isEmpty = false := by rw [← hp2]; cases hh : p2 with
          | nil => rw [hh] at hkb; simp at hkb
          | cons _ _ => rfl
        have hk2 := (List.getElem?_eq_some_iff.1 hkb).1
        rw [n1, n2] at hs
        unfold pend at hs
        rw [← hy0, ← hp2] at hs
        simp only [Bool.false_and, Bool.not_false, Bool.true_and, Bool.false_or, Bool.and_eq_false_iff, decide_eq_false_iff_not] at hs
        omega
      · rw [← hy0, ← hp2]
        rcases Nat.lt_or_ge m k with h | h
        · have := hsk m h
          rw [← hy0, ← hp2] at this
          rw [List.getElem?_set_ne (by omega), this]
        · have : m = k := by omega
          subst this
          rw [List.getElem?_set_self (by omega), hkb]
    · rw [decide_eq_false hklt, cond_false]
      have hke : k = p.2.2.length := by rw [← hp2]; rw [hp2] at hl2; rw [← hp2] at hk hl2; omega
      rw [wrap_i64 (by omega) (by omega)]
      refine hnext _ _ ⟨j + 1, by omega, by simp, hf, out, hr, hol, fun i q hij hq => ?_⟩ (by simp only; omega)
      rcases Nat.lt_or_ge i j with h | h
      · exact hset i q h hq
      · have : i = j := by omega
        subst this
        rw [hpj] at hq
        cases hq
        rw [← hke]
        exact hsk
  · rw [decide_eq_false hlt, cond_false]
    have : j = L.length := by omega
    subst this
    refine ⟨.inl ⟨by trivial, by omega, by rw [hsum]; exact hn, out, SlB.of_buf ?_, by omega, fun p hp => ?_⟩, fin hf⟩
    · have := SlB.row hr
      rw [hol] at this
      exact this
    · obtain ⟨i, hi, rfl⟩ := List.mem_iff_getElem.1 hp
      exact hset i _ hi (List.getElem?_eq_getElem hi)

theorem runs_len (f : Int → Bool) (n : Nat) : (runs f n).length ≤ 2 * n := by
  induction n with
  | zero => simp [runs]
  | succ n ih =>
    unfold runs
    split
    · omega
    · split
      · simp only [List.length_append, List.length_dropLast, List.length_singleton]; omega
      · simp only [List.length_append, List.length_cons, List.length_nil]; omega

theorem eI_len' (x : Int) : ([Value.int .i64 x] : List Value).length = 1 := rfl
abbrev eI (x : Int) : List Value := [.int .i64 x]
theorem eI_len (x : Int) : (eI x).length = 1 := rfl
theorem eI_one (x : Int) : ∀ v ∈ eI x, isOne v = true := by intro v hv; rw [List.mem_singleton.1 hv]; rfl

theorem rgaps_ok {w : World} {x : Nat} {t : SliceV} {ys : List P3} {L : List Pc} (R : RAt w x t ys L) (G : Gp.Hol.Good L) (hl : L.length ≤ 2 ^ 20) :
    c_ref15_Holes_Gaps (some ⟨x, 0, none⟩) w fun r w' => SlN 1 eI w' r (runs (cov L) (if lastE L < 0 then far L else lastE L).toNat) ∧ Ext w w' := by
  apply ok_ref15_Holes_Gaps
  unfold s_ref15_Holes_Gaps
  have hg : ∀ p ∈ L, 0 ≤ p.1 ∧ pend p ≤ 65535 := fun p hp => ⟨(G.ok p hp).1, (G.ok p hp).2.1⟩
  refine cm_ref15_Holes_end (rend_ok R (by omega) hg) ?_
  rintro r w2 ⟨rfl, f2⟩
  have R2 := R.ext f2
  have hfar0 : 0 ≤ far L := (far_le (n := 0)).1
  have hfar1 : far L ≤ 65535 := (far_iff (by decide)).2 fun p hp => (hg p hp).2
  have hle : lastE L ≤ 65535 := by
    by_cases hex : ∃ q ∈ L, q.2.1 = false
    · obtain ⟨q, hq, hqm⟩ := hex
      rw [lastE_some G.one hq hqm]
      exact (hg q hq).2
    · rw [lastE_none fun q hq => by
        cases hb : q.2.1
        · exact absurd ⟨q, hq, hb⟩ hex
        · rfl]
      decide
  intro J
  have hJ : ∀ (e : Nat) W, Ext w W → e ≤ 65535 → (if lastE L < 0 then far L else lastE L).toNat = e → J (e : Int) W := by
    intro e W hf he hee
    rw [show J (e : Int) W = (J (e : Int) W) from rfl]
    simp -zeta only [J]
    rw [hee]
    refine LoopP_inv (fun st W' => ∃ j : Nat, j ≤ e ∧ st.2.1 = (j : Int) ∧ Ext w W' ∧ BufN 1 eI W' st.1 (runs (cov L) j) ∧ ∀ c, SliceV.at st.1 c → w.heap.size ≤ c) (fun st _ => (e - st.2.1).toNat)
      ⟨0, by omega, rfl, hf, BufN.nil, fun c hc => by obtain ⟨o, e⟩ := hc; cases e⟩ ?_
    rintro ⟨s, i, ⟨⟩⟩ W' ⟨j, hj, hi, hx, hb, hat⟩ next hnext
    simp only at hi hb hat
    subst hi
    have hrl := runs_len (cov L) j
    by_cases hlt : (j : Int) < (e : Int)
    · rw [decide_eq_true hlt, cond_true]
      intro J2
      have hJ2 : ∀ s' W2, Ext w W2 → BufN 1 eI W2 s' (runs (cov L) (j + 1)) → (∀ c, SliceV.at s' c → w.heap.size ≤ c) → J2 s' W2 := by
        intro s' W2 h1 h2 h3
        simp only [J2]
        rw [wrap_i64 (by (try simp only); omega) (by (try simp only); omega)]
        exact hnext _ _ ⟨j + 1, by omega, by simp, h1, h2, h3⟩ (by simp only; omega)
      clear_value J2
      refine cm_ref15_Holes_Cover (cover_ok (R.ext hx) (by omega) hg _) ?_
      rintro r W2 ⟨rfl, g2⟩
      have hx2 := hx.trans g2
      have hb2 := hb.ext g2
      have hlen := hb.len
      unfold runs at hJ2
      cases hcv : cov L (j : Int)
      case true =>
        rw [cond_true]
        exact hJ2 _ _ hx2 (by rw [if_pos hcv]; exact hb2) hat
      rw [cond_false]
      rw [if_neg (by rw [hcv]; simp)] at hJ2
      intro J3
      have hT : (runs (cov L) j).getLast? = some (j : Int) → J3 true := by
        intro hgl
        simp only [J3, cond_true]
        rw [if_pos hgl] at hJ2
        have hne : runs (cov L) j ≠ [] := fun h => by rw [h] at hgl; simp at hgl
        have hpos := List.length_pos_iff.2 hne
        obtain ⟨b, pad, ha, hc, hr⟩ : ∃ b pad, s.a = some ⟨b, 0, none⟩ ∧ s.cap * 1 = (runs (cov L) j).length * 1 + pad.length ∧ Row W2 b ((runs (cov L) j).flatMap eI ++ pad) := by
          rcases hb2.mem with ⟨_, h, _⟩ | h
          · exact absurd h hne
          · exact h
        obtain ⟨sa, sl, sc⟩ := s
        simp only at ha hc hlen hat
        subst ha
        subst hlen
        rw [wrap_i64 (n := ((runs (cov L) j).length : Int) - 1) (by omega) (by omega), show ((runs (cov L) j).length : Int) - 1 = (((runs (cov L) j).length - 1 : Nat) : Int) by omega]
        refine (AtIx_some ..).2 ⟨by omega, by omega, ?_⟩
        rw [add_mk, Nat.zero_add, Int.toNat_natCast, Nat.mul_one]
        have hfl := flat_len eI 1 eI_len (runs (cov L) j)
        refine St_row hr rfl (by rw [List.length_append]; omega) fun W3 r3 g3 z3 => ?_
        rw [wrap_i64 (by omega) (by omega)] at r3
        have hsplit : (runs (cov L) j).flatMap eI = (runs (cov L) j).dropLast.flatMap eI ++ [Value.int .i64 (j : Int)] := by
          have h1 := List.dropLast_concat_getLast hne
          have h2 : (runs (cov L) j).getLast hne = (j : Int) := by rw [List.getLast?_eq_some_getLast hne] at hgl; exact Option.some.inj hgl
          rw [h2] at h1
          conv => lhs; rw [← h1, List.flatMap_append]
          rfl
        have hdl := flat_len eI 1 eI_len (runs (cov L) j).dropLast
        rw [List.length_dropLast] at hdl
        refine hJ2 _ _ (hx2.new (g3 (· = b) rfl) fun y hy e => by have := hat b ⟨0, rfl⟩; omega) ⟨by simp only [List.length_append, List.length_dropLast, List.length_singleton]; omega, .inr ⟨b, pad, rfl, ?_, ?_⟩⟩ hat
        · simp only [List.length_append, List.length_dropLast, List.length_singleton]; omega
        · rw [hsplit, List.append_assoc, List.set_append_right _ _ (by omega), hdl] at r3
          rw [List.flatMap_append, List.append_assoc]
          have : (runs (cov L) j).length - 1 - ((runs (cov L) j).length - 1) * 1 = 0 := by omega
          rw [this] at r3
          exact r3
      have hF : (runs (cov L) j).getLast? ≠ some (j : Int) → J3 false := by
        intro hgl
        clear hT
        simp only [J3, cond_false]
        rw [if_neg hgl] at hJ2
        refine Al_e fun v W3 rv ev zv fv => ?_
        have hv : SlN 1 eI W3 ⟨some ⟨v, 0, none⟩, 2, 2⟩ [(j : Int), (j : Int) + 1] := (BufN.row (xs := [(j : Int), (j : Int) + 1]) (f := eI) (n := 1) (by rw [wrap_i64 (by omega) (by omega)] at rv; exact rv)).sl eI_len (by omega)
        refine AppSl_bufN eI_len (hb2.ext fv) hv rfl (by omega) eI_one (by simp only [List.length_cons, List.length_nil]; omega) (by simp only [List.length_cons, List.length_nil]; omega) fun s' W4 h1 h2 h3 => ?_
        refine hJ2 _ _ ((hx2.trans fv).new h2 fun y hy e => by have := hat y e; omega) h1 fun c hc => ?_
        rcases h3 c hc with h | h
        · exact hat c h
        · have := (hx2.trans fv).size; omega
      clear_value J3
      by_cases hpos : (s.len : Int) > 0
      · rw [decide_eq_true hpos, cond_true]
        have hne : runs (cov L) j ≠ [] := fun h => by rw [h] at hlen; simp at hlen; omega
        rw [wrap_i64 (n := (s.len : Int) - 1) (by omega) (by omega), show (s.len : Int) - 1 = ((s.len - 1 : Nat) : Int) by omega]
        have hgl := List.getLast?_eq_getElem? (l := runs (cov L) j)
        have hx3 := List.getElem?_eq_getElem (show (runs (cov L) j).length - 1 < (runs (cov L) j).length by omega)
        generalize (runs (cov L) j)[(runs (cov L) j).length - 1] = z at hx3
        rw [hx3] at hgl
        refine SlN_ix eI_len (by omega) (hb2.sl eI_len (by omega)) (by omega) (by rw [Int.toNat_natCast, hlen]; exact hx3) fun a hc => ?_
        have c0 : W2.cell? a = some (.int .i64 z) := hc 0 _ rfl
        simp only [Ld_eq, LdV_some, dec_int, c0]
        by_cases hz : z = (j : Int)
        · rw [show (z == (j : Int)) = true by simpa using hz]; exact hT (by rw [hgl, hz])
        · rw [show (z == (j : Int)) = false by simpa using hz]; exact hF (by rw [hgl]; simpa using hz)
      · rw [decide_eq_false hpos, cond_false]
        refine hF ?_
        have : runs (cov L) j = [] := List.length_eq_zero_iff.1 (by omega)
        rw [this]
        simp
    · rw [decide_eq_false hlt, cond_false]
      have : j = e := by omega
      subst this
      exact ⟨hb.sl eI_len (by omega), hx⟩
  clear_value J
  by_cases hneg : lastE L < 0
  · rw [decide_eq_true hneg, cond_true]
    refine cm_ref15_Holes_Far (rfar_ok R2 (by omega) hg) ?_
    rintro r w3 ⟨rfl, f3⟩
    have := hJ (far L).toNat w3 (f2.trans f3) (by omega) (by rw [if_pos hneg])
    rw [show (((far L).toNat : Nat) : Int) = far L by omega] at this
    exact this
  · rw [decide_eq_false hneg, cond_false]
    have := hJ (lastE L).toNat w2 f2 (by omega) (by rw [if_neg hneg])
    rw [show (((lastE L).toNat : Nat) : Int) = lastE L by omega] at this
    exact this

end Go.Proofs

/- Parts of a datagram: both at once. -/
namespace Go.Proofs
open Gp Gp.Hol
set_option maxRecDepth 100000

theorem no_at {b : Nat} (h : SliceV.at ⟨none, 0, 0⟩ b) : False := by obtain ⟨o, h⟩ := h; cases h
theorem no_pcs (w : World) : PcsAt w [] [] := ⟨rfl, fun i x p hx => by cases hx⟩
theorem no_free (S : Nat → Prop) : FreeP [] S := fun x hx => by cases hx

theorem new_ok (w : World) : c_holes_New w fun v w' => ∃ h, v = some ⟨h, 0, none⟩ ∧ h = w.heap.size ∧ w'.heap.size = h + 1 ∧ HAt w' h ⟨none, 0, 0⟩ [] [] (lastE []) ∧ Ext w w' := by
  apply ok_holes_New
  unfold s_holes_New
  refine Al_e fun a w1 ra ea z1 f1 => ?_
  exact ⟨a, rfl, ea, z1, ⟨ra, BufN.nil, no_pcs _, fun b hb => (no_at hb).elim, no_free _⟩, f1⟩

theorem MarkSl_row {w : World} {b : Nat} {l : List UInt8} {K : World → Prop} (hr : Row w b (bytesV l)) (hK : ∀ w', SlB w' ⟨some ⟨b, 0, none⟩, l.length, l.length⟩ l → Fr8 w w' (· = b) → K w') : MarkSl ⟨b, 0, none⟩ w K := by
  have hs := SlB.of_buf (SlB.row hr)
  obtain ⟨T, hT⟩ := id hr
  refine ⟨T, (bytesV l).length, by simp [World.shape?, hT], hK _ ?_ ?_⟩
  · refine ⟨hs.1, ?_, hs.2.2⟩
    have hc := hs.2.1
    refine ⟨hc.1, fun j hj => ?_⟩
    rw [← hc.2 j hj, add_mk]
    have hlt := (Array.getElem?_eq_some_iff.1 hT).1
    simp [World.cell?, World.freeze, Array.getElem?_modify, hT]
  · refine ⟨by simp [World.freeze], fun c hc hn => ?_, rfl, rfl, rfl⟩
    have : ¬ b = c := fun e => hn e.symm
    simp [World.freeze, Array.getElem?_modify, this]

theorem HAt.fr_one {w w' : World} {h v : Nat} {s : SliceV} {xs : List P3} {l : List Pc} {last : Int} (H : HAt w h s xs l last) (hf : Fr8 w w' (· = v)) (hv : w.heap.size ≤ v + 0 ∨ True) (h1 : h ≠ v) (h2 : ∀ b, SliceV.at s b → b ≠ v) (h3 : FreeP xs (· = v)) : HAt w' h s xs l last := H.fr hf h1 h2 h3

theorem HAt.old {w w' : World} {h v : Nat} {s : SliceV} {xs : List P3} {l : List Pc} {last : Int} (H : HAt w h s xs l last) {w1 : World} (hx : Ext w w1) (hv : w.heap.size ≤ v) (hf : Fr8 w1 w' (· = v)) : HAt w' h s xs l last :=
  (H.ext (hx.new hf fun b hb e => by omega))

/-- A literal's bytes are put in. -/
theorem add_lit {w : World} {h : Nat} {s : SliceV} {xs : List P3} {l : List Pc} (H : HAt w h s xs l (lastE l)) (G : Gp.Hol.Good l) (hs : l.Pairwise le) (hl : l.length ≤ 2 ^ 20) {off : Int} {more : Bool} {b : List UInt8} (hb : b.length ≤ 2 ^ 40) {T : TypeId} {K : Int → World → Prop}
    (hK : ∀ w' s' xs' l', HAt w' h s' xs' l' (lastE l') → l'.Perm (add l (off, more, b)).2 → l'.Pairwise le → Fr8 w w' (fun c => c = h ∨ SliceV.at s c) → (∀ c, SliceV.at s' c → SliceV.at s c ∨ w.heap.size ≤ c) → K (add l (off, more, b)).1 w') :
    Al w (.cells ⟨bytesV b⟩ T) fun a w1 => MarkSl a w1 fun w2 => c_holes_Holes_Add (some ⟨h, 0, none⟩) off more ⟨some a, b.length, b.length⟩ w2 K := by
  refine Al_e fun v w1 rv ev z1 f1 => MarkSl_row rv fun w2 h2 f2 => ?_
  have e2 : Ext w w2 := f1.new f2 fun c hc e => by omega
  refine cm_holes_Holes_Add (add_ok (H.ext e2) G hs hl h2 hb) ?_
  rintro r w3 ⟨rfl, s', xs', l', a1, a2, a3, a4, a5, _⟩
  exact hK w3 s' xs' l' a1 a2 a3 (e2.fr a4) fun c hc => (a5 c hc).imp id fun h => Nat.le_trans e2.size h

theorem cat9 {l : List Pc} (G : Gp.Hol.Good l) (hs : l.Pairwise le) (hp : l.Perm [(8, false, [98]), (0, true, [49, 50, 51, 52, 53, 54, 55, 56])]) : 0 ≤ lastE l ∧ gaps 0 l (lastE l) = [] ∧ cat l = [49, 50, 51, 52, 53, 54, 55, 56, 98] := by
  have h1 : lastE l = 9 := by rw [lastE_perm G.one hp]; rfl
  have h2 : sum l = 9 := by rw [sum_perm hp]; rfl
  have h0 : 0 ≤ lastE l := by omega
  refine ⟨h0, (done_iff G hs h0).2 (by omega), cat_eq G hs h0 (by omega) (by rw [h1]; rfl) fun p hm k hk => ?_⟩
  rcases List.mem_cons.1 (hp.mem_iff.1 hm) with rfl | hm
  · match k, hk with
    | 0, _ => rfl
  · rw [List.mem_singleton.1 hm] at hk ⊢
    match k, hk with
    | 0, _ => rfl
    | 1, _ => rfl
    | 2, _ => rfl
    | 3, _ => rfl
    | 4, _ => rfl
    | 5, _ => rfl
    | 6, _ => rfl
    | 7, _ => rfl

theorem strEq_bs (l m : List UInt8) : strEq ⟨⟨l⟩⟩ (bs m) = decide (l = m) := by
  unfold strEq
  rw [ByteArray.toList_eq, ByteArray.toList_eq]
  show (l == m) = decide (l = m)
  by_cases h : l = m <;> simp [h]

theorem awake15_ok (w : World) : c_law15_awake w fun r w' => r = true ∧ Ext w w' := by
  apply ok_law15_awake
  unfold s_law15_awake
  refine cm_holes_New (new_ok w) ?_
  rintro v w1 ⟨h, rfl, eh, z1, H, f1⟩
  intro J
  rw [show (Option.isNone (some (⟨h, 0, none⟩ : Addr))) = false from rfl, cond_false]
  refine add_lit (b := [98]) H Gp.Hol.Good.nil List.Pairwise.nil (by decide) (by decide) fun w2 s2 xs2 l2 H2 p2 o2 g2 n2 => ?_
  have e1 : add [] ((8, false, [98]) : Pc) = (0, [(8, false, [98])]) := by decide
  rw [e1] at p2 ⊢
  simp only at p2 ⊢
  rw [show ((0 : Int) != 0) = false from rfl, cond_false]
  have hl2 : l2 = [(8, false, [98])] := List.perm_singleton.1 p2
  subst hl2
  have G2 : Gp.Hol.Good [((8, false, [98]) : Pc)] := by have := Gp.Hol.Good.nil.add' ((8, false, [98]) : Pc); rw [e1] at this; exact this
  have ex2 : Ext w w2 := f1.new g2 fun c hc hh => by
    rcases hh with rfl | hh
    · omega
    · exact no_at hh
  have hn2 : ∀ c, SliceV.at s2 c → w.heap.size ≤ c := fun c hc => by
    rcases n2 c hc with h | h
    · exact (no_at h).elim
    · omega
  refine add_lit (b := [49, 50, 51, 52, 53, 54, 55, 56]) H2 G2 o2 (by decide) (by decide) fun w3 s3 xs3 l3 H3 p3 o3 g3 n3 => ?_
  have e2 : add [((8, false, [98]) : Pc)] (0, true, [49, 50, 51, 52, 53, 54, 55, 56]) = (0, [(8, false, [98]), (0, true, [49, 50, 51, 52, 53, 54, 55, 56])]) := by decide
  rw [e2] at p3 ⊢
  simp only at p3 ⊢
  rw [show ((0 : Int) != 0) = false from rfl]
  have G3' : Gp.Hol.Good [((8, false, [98]) : Pc), (0, true, [49, 50, 51, 52, 53, 54, 55, 56])] := by have := G2.add' ((0, true, [49, 50, 51, 52, 53, 54, 55, 56]) : Pc); rw [e2] at this; exact this
  have G3 := G3'.perm p3.symm
  have hlen3 : l3.length = 2 := p3.length_eq
  have ex3 : Ext w w3 := ex2.new g3 fun c hc hh => by
    rcases hh with rfl | hh
    · omega
    · have := hn2 c hh; omega
  have hn3 : ∀ c, SliceV.at s3 c → w.heap.size ≤ c := fun c hc => by
    rcases n3 c hc with h | h
    · exact hn2 c h
    · have := ex2.size; omega
  obtain ⟨c1, c2, c3⟩ := cat9 G3 o3 p3
  simp -zeta only [J, cond_false]
  refine cm_holes_Holes_Done (done_ok H3 G3 (by omega)) ?_
  rintro r ok w4 ⟨hd, f4⟩
  rcases hd with ⟨rfl, _, _, hr⟩ | ⟨_, hbad, _⟩
  case inr =>
    rcases hbad with h | h
    · omega
    · exact absurd c2 h
  rw [cond_true, c3] at *
  refine bytesStr_of hr ?_
  rw [strEq_bs, decide_eq_true rfl, cond_true]
  have H4 := H3.ext f4
  refine add_lit (b := [120, 50, 51, 52, 53, 54, 55, 56]) H4 G3 o3 (by omega) (by decide) fun w5 s5 xs5 l5 H5 p5 o5 g5 n5 => ?_
  have e3 : (add l3 (0, true, [120, 50, 51, 52, 53, 54, 55, 56])).1 = 9 := by
    rw [(add_perm G3 p3 _).1]; decide
  rw [e3]
  exact ⟨rfl, (ex3.trans f4).new g5 fun c hc hh => by
    rcases hh with rfl | hh
    · omega
    · have := hn3 c hh; omega⟩

theorem lawfar_ok {w : World} {s : SliceV} {xs : List P3} {ps : List Pc} (hs : SlN 3 eP w s xs) (hp : PcsAt w xs ps) :
    c_law15_far s w fun r w' => (r = false → ps.length ≤ 60 ∧ ∀ p ∈ ps, p.2.2.length ≤ 2000) ∧ Ext w w' := by
  apply ok_law15_far
  unfold s_law15_far
  have hlen := hs.len
  have hxl := hp.len
  refine LoopP_inv (fun st W => ∃ j : Nat, j ≤ ps.length ∧ st.2.1 = (j : Int) ∧ Ext w W ∧ j ≤ 60 ∧ ∀ p ∈ ps.take j, p.2.2.length ≤ 2000) (fun st _ => (ps.length - st.2.1).toNat) ⟨0, by omega, rfl, Ext.refl _, by omega, by simp⟩ ?_
  rintro ⟨m, i, ⟨⟩⟩ W ⟨j, hj, hi, hw, h60, hm⟩ next hnext
  simp only at hi
  subst hi
  by_cases hlt : (j : Int) < (s.len : Int)
  · rw [decide_eq_true hlt, cond_true]
    have hx := List.getElem?_eq_getElem (show j < xs.length by omega)
    generalize xs[j] = x at hx
    obtain ⟨p, hpj, e1, e2, e3⟩ := (hp.ext hw).get hx
    obtain ⟨y0, y1, y2, ⟨⟩⟩ := x
    refine SlN_ix eP_len (by omega) (hs.ext hw) (by simp only; omega) (by simp only; rw [Int.toNat_natCast]; exact hx) fun a hc => ?_
    have c0 : W.cell? (a.add 0) = some (.int .i64 y0) := hc 0 _ rfl
    have c1 : W.cell? (a.add 1) = some (.bool y1) := hc 1 _ rfl
    have c2 : W.cell? (a.add 2) = some (.slice y2.a y2.len y2.cap) := hc 2 _ rfl
    simp -zeta only [Ld_eq, LdV_some, dec_slice, dec_int, dec_bool, c0, c1, c2]
    refine Al_f rfl rfl fun t W1 rt et zt ft => ?_
    have hw1 := hw.trans ft
    intro J
    have hT : J true := by
      simp only [J, cond_true]
      exact ⟨fun h => (by cases h), hw1⟩
    have hF : j < 60 → y2.len ≤ 2000 → J false := by
      intro h1 h2
      clear hT
      simp only [J, cond_false, cond_false, List.getElem?_cons_zero, List.getElem?_cons_succ, LdV_some, dec_slice, add_mk, Nat.zero_add, rt.cell]
      rw [wrap_i64 (n := (j : Int) + 1) (by omega) (by omega)]
      refine hnext _ _ ⟨j + 1, by omega, by simp, hw1, by omega, fun q hq => ?_⟩ (by simp only; omega)
      rw [Gp.Hol.take_snoc' hpj] at hq
      rcases List.mem_append.1 hq with hq | hq
      · exact hm q hq
      · rw [List.mem_singleton.1 hq]
        have := e3.1
        simp only at this
        omega
    clear_value J
    simp -zeta only [List.getElem?_cons_zero, List.getElem?_cons_succ, LdV_some, dec_slice, dec_int, add_mk, Nat.zero_add, rt.cell]
    by_cases h1 : (j : Int) ≥ 60
    · rw [decide_eq_true h1, cond_true]; exact hT
    rw [decide_eq_false h1, cond_false]
    by_cases h2 : (y2.len : Int) > 2000
    · rw [decide_eq_true h2, cond_true]; exact hT
    rw [decide_eq_false h2, cond_false]
    have hF := hF (by omega) (by omega)
    by_cases h3 : y0 > 4000
    · rw [decide_eq_true h3, cond_true]
      by_cases h4 : y0 ≤ 65535
      · rw [decide_eq_true h4]; exact hT
      · rw [decide_eq_false h4]; exact hF
    · rw [decide_eq_false h3, cond_false]; exact hF
  · rw [decide_eq_false hlt, cond_false]
    have : j = ps.length := by omega
    subst this
    rw [List.take_length] at hm
    exact ⟨fun _ => ⟨h60, hm⟩, hw⟩

/-- Both have the same parts. -/
structure Both (n0 : Nat) (w : World) (h : Nat) (s : SliceV) (xs : List P3) (l : List Pc) (x : Nat) (t : SliceV) (ys : List P3) (L : List Pc) : Prop where
  H : HAt w h s xs l (lastE l)
  R : RAt w x t ys L
  G : Gp.Hol.Good l
  srt : l.Pairwise le
  perm : l.Perm L
  n1 : n0 ≤ h
  n2 : n0 ≤ x
  n3 : ∀ b, SliceV.at s b → n0 ≤ b
  hx : h ≠ x
  sx : ¬ SliceV.at s x
  th : ¬ SliceV.at t h
  st : ∀ b, SliceV.at s b → ¬ SliceV.at t b
  fx : FreeP xs (· = x)
  fy : FreeP ys fun b => b = h ∨ SliceV.at s b

theorem Both.GL {n0 : Nat} {w : World} {h : Nat} {s : SliceV} {xs : List P3} {l : List Pc} {x : Nat} {t : SliceV} {ys : List P3} {L : List Pc} (B : Both n0 w h s xs l x t ys L) : Gp.Hol.Good L := B.G.perm B.perm
theorem Both.ext {n0 : Nat} {w w' : World} {h : Nat} {s : SliceV} {xs : List P3} {l : List Pc} {x : Nat} {t : SliceV} {ys : List P3} {L : List Pc} (B : Both n0 w h s xs l x t ys L) (hf : Ext w w') : Both n0 w' h s xs l x t ys L :=
  ⟨B.H.ext hf, B.R.ext hf, B.G, B.srt, B.perm, B.n1, B.n2, B.n3, B.hx, B.sx, B.th, B.st, B.fx, B.fy⟩

theorem dlt {w : World} {ys : List P3} {L : List Pc} (h : PcsAt w ys L) {y : P3} (hy : y ∈ ys) {a : Addr} (ha : y.2.2.1.a = some a) (h0 : 0 < y.2.2.1.len) : a.block < w.heap.size := by
  obtain ⟨k, hk⟩ := List.getElem?_of_mem hy
  obtain ⟨p, hp, g1, g2, g3⟩ := h.get hk
  exact g3.lt ha (by have := g3.1; omega)

/-- A part is put into both. -/
theorem both_add {n0 : Nat} {w : World} {h : Nat} {s : SliceV} {xs : List P3} {l : List Pc} {x : Nat} {t : SliceV} {ys : List P3} {L : List Pc} (B : Both n0 w h s xs l x t ys L) (hl : L.length ≤ 2 ^ 19) {off : Int} {more : Bool} {d : SliceV} {b : List UInt8} (hd : SlB w d b) (hb : b.length ≤ 2 ^ 40) (hd0 : ∀ a, d.a = some a → 0 < d.len → a.block < n0)
    {K : Int → Int → World → Prop}
    (hK : ∀ w' s' xs' l' t' ys', Both n0 w' h s' xs' l' x t' ys' (add L (off, more, b)).2 → (∀ c lc, Row w c lc → c ≠ h → c ≠ x → ¬ SliceV.at s c → Row w' c lc ∧ ¬ SliceV.at s' c) → Fr8 w w' (n0 ≤ ·) → K (add L (off, more, b)).1 (add L (off, more, b)).1 w')
    {K2 : Int → World → Prop} (hK2 : ∀ r w1, (∀ c lc, Row w c lc → c ≠ h → c ≠ x → ¬ SliceV.at s c → Row w1 c lc) → (c_ref15_Holes_Add (some ⟨x, 0, none⟩) off more d w1 fun r' w2 => K r r' w2) → K2 r w1) :
    c_holes_Holes_Add (some ⟨h, 0, none⟩) off more d w K2 := by
  have hlp := B.perm.length_eq
  refine cm_holes_Holes_Add (add_ok B.H B.G B.srt (by omega) hd hb) ?_
  rintro r w1 ⟨rfl, s1, xs1, l1, H1, p1, o1, g1, n1, m1⟩
  have ha1 : ∀ c lc, Row w c lc → c ≠ h → c ≠ x → ¬ SliceV.at s c → Row w1 c lc := fun c lc hc h1 h2 h3 => hc.fr g1 (fun e => e.elim h1 h3)
  have hhl := B.H.row.lt
  have hxl := B.R.row.lt
  have R1 : RAt w1 x t ys L := B.R.fr g1 (fun e => e.elim (fun e => B.hx e.symm) B.sx) (fun c hc e => e.elim (fun e => B.th (e ▸ hc)) fun e => B.st c e hc) B.fy
  have hd1 : SlB w1 d b := hd.fr g1 fun a' ha' h0 e => by
    have hlt := hd0 a' ha' (by have := hd.1; omega)
    rcases e with e | e
    · have := B.n1; omega
    · have := B.n3 _ e; omega
  obtain ⟨q1, q2⟩ := add_perm B.G B.perm (off, more, b)
  refine hK2 _ _ ha1 ?_
  refine cm_ref15_Holes_Add (radd_ok R1 (by omega) (fun p hp => ⟨(B.GL.ok p hp).1, (B.GL.ok p hp).2.1⟩) hd1 hb) ?_
  rintro r w2 ⟨rfl, t2, ys2, R2, g2, n2, m2⟩
  rw [q1]
  have z1 := g1.size
  have hs1x : ¬ SliceV.at s1 x := fun hc => by
    rcases n1 _ hc with h | h
    · exact B.sx h
    · omega
  have hfx1 : FreeP xs1 (· = x) := fun y hy a' ha' h0 e => by
    rcases m1 y hy with h | h
    · exact B.fx y h a' ha' h0 e
    · have := h a' ha'; omega
  have H2 : HAt w2 h s1 xs1 l1 (lastE l1) := H1.fr g2 B.hx (fun c hc e => hs1x (e ▸ hc)) hfx1
  refine hK w2 s1 xs1 l1 t2 ys2 ⟨H2, R2, ?_, o1, p1.trans q2, B.n1, B.n2, ?_, B.hx, hs1x, ?_, ?_, hfx1, ?_⟩ (fun c lc hc k1 k2 k3 => ⟨(ha1 c lc hc k1 k2 k3).fr g2 k2, fun hat => by
    rcases n1 c hat with h' | h'
    · exact k3 h'
    · have := hc.lt; omega⟩) ?_
  · exact (B.G.add' _).perm p1.symm
  · intro c hc
    rcases n1 c hc with h | h
    · exact B.n3 c h
    · have := B.n1; omega
  · intro hc
    rcases n2 _ hc with h | h
    · exact B.th h
    · omega
  · intro c hc hc'
    rcases n2 _ hc' with h | h
    · rcases n1 _ hc with h' | h'
      · exact B.st c h' h
      · have := B.R.buf.lt h; omega
    · have := H1.buf.lt hc; omega
  · intro y hy a' ha' h0 e
    rcases m2 y hy with h | h
    · have hlt := dlt B.R.pcs h ha' h0
      rcases e with e | e
      · exact B.fy y h a' ha' h0 (.inl e)
      · rcases n1 _ e with h' | h'
        · exact B.fy y h a' ha' h0 (.inr h')
        · omega
    · have h1 := h a' ha'
      rcases e with e | e
      · omega
      · have := H1.buf.lt e; omega
  · exact (g1.mono fun c hc => hc.elim (fun e => e ▸ B.n1) (B.n3 c)).trans (g2.mono fun c hc => by subst hc; exact B.n2) fun _ _ e => e

/-- Both are made. -/
theorem both_new (w0 : World) {w : World} (hf : Ext w0 w) {h : Nat} (eh : h = w.heap.size) {w1 : World} (z1 : w1.heap.size = h + 1) (H : HAt w1 h ⟨none, 0, 0⟩ [] [] (lastE [])) {x : Nat} {w2 : World} (rx : Row w2 x [.slice none 0 0]) (ex : x = w1.heap.size) (f2 : Ext w1 w2) :
    Both w0.heap.size w2 h ⟨none, 0, 0⟩ [] [] x ⟨none, 0, 0⟩ [] [] :=
  ⟨H.ext f2, ⟨rx, BufN.nil, no_pcs _, fun b hb => (no_at hb).elim, no_free _⟩, Gp.Hol.Good.nil, List.Pairwise.nil, List.Perm.refl _, by have := hf.size; omega, by have := hf.size; omega, fun b hb => (no_at hb).elim, by omega, fun hb => no_at hb, fun hb => no_at hb, fun b hb => (no_at hb).elim, no_free _, no_free _⟩

end Go.Proofs
