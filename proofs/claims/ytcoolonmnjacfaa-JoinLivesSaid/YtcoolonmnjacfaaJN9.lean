import Derived.Test.YtcoolonmnjacfaaJN6
/- The document's parts at a place inside a row of other things. -/
namespace Go.Proofs
open Gp Gp.Hol
set_option maxRecDepth 100000
set_option maxHeartbeats 2000000

/-- The document's parts, in memory, at place `o` of a row. -/
structure QAt (w : World) (x o : Nat) (vs : List Value) (t : SliceV) (ys : List P3) (L : List Pc) : Prop where
  row : Row w x vs
  ato : vs[o]? = some (.slice t.a t.len t.cap)
  buf : BufN 3 eP w t ys
  pcs : PcsAt w ys L
  apart : ∀ b, SliceV.at t b → b ≠ x
  free : FreeP ys fun b => b = x

theorem QAt.cell {w : World} {x o : Nat} {vs : List Value} {t : SliceV} {ys : List P3} {L : List Pc} (R : QAt w x o vs t ys L) : w.cell? ⟨x, o, none⟩ = some (.slice t.a t.len t.cap) := by
  rw [R.row.cell]; exact R.ato

theorem QAt.ext {w w' : World} {x o : Nat} {vs : List Value} {t : SliceV} {ys : List P3} {L : List Pc} (R : QAt w x o vs t ys L) (hf : Ext w w') : QAt w' x o vs t ys L := ⟨R.row.ext hf, R.ato, R.buf.ext hf, R.pcs.ext hf, R.apart, R.free⟩

theorem QAt.fr {w w' : World} {x o : Nat} {vs : List Value} {t : SliceV} {ys : List P3} {L : List Pc} {S : Nat → Prop} (R : QAt w x o vs t ys L) (hf : Fr8 w w' S) (h1 : ¬ S x) (h2 : ∀ b, SliceV.at t b → ¬ S b) (h3 : FreeP ys S) : QAt w' x o vs t ys L :=
  ⟨R.row.fr hf h1, R.ato, R.buf.fr hf h2, R.pcs.fr hf h3, R.apart, R.free⟩

theorem set_same {α : Type} {l : List α} {i : Nat} {x : α} (h : l[i]? = some x) : l.set i x = l := by
  obtain ⟨h1, rfl⟩ := List.getElem?_eq_some_iff.1 h
  exact List.set_getElem_self h1

theorem QAt.sl {w : World} {x o : Nat} {vs : List Value} {t : SliceV} {ys : List P3} {L : List Pc} (R : QAt w x o vs t ys L) : SlN 3 eP w t ys := R.buf.sl eP_len (by omega)

theorem QAt.len {w : World} {x o : Nat} {vs : List Value} {t : SliceV} {ys : List P3} {L : List Pc} (R : QAt w x o vs t ys L) : t.len = L.length := R.buf.len.trans R.pcs.len

/-- A part of the document's parts is read. -/
theorem QAt.ix {w : World} {x o : Nat} {vs : List Value} {t : SliceV} {ys : List P3} {L : List Pc} (R : QAt w x o vs t ys L) {j : Nat} (hj : j < L.length) {K : Addr → Prop}
    (hK : ∀ (a : Addr) (y0 : Int) (y1 : Bool) (y2 : SliceV) (b : List UInt8), L[j]? = some (y0, y1, b) → ys[j]? = some (y0, y1, y2, ()) → SlB w y2 b → w.cell? a = some (.int .i64 y0) → w.cell? (a.add 1) = some (.bool y1) → w.cell? (a.add 2) = some (.slice y2.a y2.len y2.cap) → K a) : AtIx t 3 (j : Int) K := by
  have hlen := R.buf.len
  have hxl := R.pcs.len
  have hxj := List.getElem?_eq_getElem (show j < ys.length by omega)
  generalize ys[j] = y at hxj
  obtain ⟨p, hp, e1, e2, e3⟩ := R.pcs.get hxj
  obtain ⟨y0, y1, y2, ⟨⟩⟩ := y
  obtain ⟨p0, p1, p2⟩ := p
  simp only at e1 e2 e3
  subst e1 e2
  refine SlN_ix eP_len (by omega) R.sl (by omega) (by rw [Int.toNat_natCast]; exact hxj) fun a' hc => ?_
  exact hK a' y0 y1 y2 p2 hp hxj e3 (hc 0 _ rfl) (hc 1 _ rfl) (hc 2 _ rfl)

theorem qsame_ok {w : World} {x o : Nat} {vs : List Value} {t : SliceV} {ys : List P3} {L : List Pc} (R : QAt w x o vs t ys L) (hl : L.length ≤ 2 ^ 30) {off : Int} {more : Bool} {s : SliceV} {b : List UInt8} (hs : SlB w s b) :
    c_ref15_Holes_same (some ⟨x, o, none⟩) off more s w fun r w' => r = decide (((off, more, b) : Pc) ∈ L) ∧ Ext w w' := by
  apply ok_ref15_Holes_same
  unfold s_ref15_Holes_same
  have hlen := R.len
  refine LoopP_inv (fun st W => ∃ j : Nat, j ≤ L.length ∧ st.1 = (j : Int) ∧ Ext w W ∧ (L.take j).any (fun p => decide (p = (off, more, b))) = false) (fun st _ => (L.length - st.1).toNat) ⟨0, by omega, rfl, Ext.refl _, by simp⟩ ?_
  rintro ⟨i, ⟨⟩⟩ W ⟨j, hj, hi, hw, hm⟩ next hnext
  simp only at hi
  subst hi
  have RW := R.ext hw
  simp -zeta only [ex_some, ex_some, Ld_eq, LdV_some, dec_slice, RW.cell]
  by_cases hlt : (j : Int) < (t.len : Int)
  · rw [decide_eq_true hlt, cond_true]
    refine RW.ix (by omega) fun a y0 y1 y2 p2 hp _ e3 c0 c1 c2 => ?_
    simp -zeta only [LdV_some, dec_slice, dec_int, dec_bool, add0, c0, c1, c2]
    refine Al_f rfl rfl fun u W1 ru eu zu fu => ?_
    have hw1 := hw.trans fu
    intro J
    have hJT : (y0, y1, p2) = ((off, more, b) : Pc) → J true := by
      intro he
      simp only [J, cond_true]
      exact ⟨(decide_eq_true (he ▸ List.mem_of_getElem? hp)).symm, hw1⟩
    have hJF : (y0, y1, p2) ≠ ((off, more, b) : Pc) → J false := by
      intro he
      simp only [J, cond_false]
      rw [wrap_i64 (by omega) (by omega)]
      exact hnext _ _ ⟨j + 1, by omega, by simp, hw1, take_any hp hm (decide_eq_false he)⟩ (by simp only; omega)
    clear_value J
    simp -zeta only [List.getElem?_cons_zero, List.getElem?_cons_succ, LdV_some, dec_slice, dec_int, dec_bool, add_mk, Nat.zero_add, ru.cell]
    by_cases h1 : y0 = off
    · rw [show (y0 == off) = true by simpa using h1, cond_true]
      by_cases h2 : y1 = more
      · rw [show (y1 == more) = true by simpa using h2, cond_true]
        refine bytesStr_of (e3.ext fu) (bytesStr_of (hs.ext hw1) ?_)
        have hst : strEq ⟨⟨p2⟩⟩ ⟨⟨b⟩⟩ = decide (p2 = b) := by
          unfold strEq
          rw [ByteArray.toList_eq, ByteArray.toList_eq]
          show (p2 == b) = decide (p2 = b)
          by_cases h : p2 = b <;> simp [h]
        rw [hst]
        by_cases h3 : p2 = b
        · rw [decide_eq_true h3]; exact hJT (by rw [h1, h2, h3])
        · rw [decide_eq_false h3]; exact hJF fun h => h3 (by simp only [Prod.mk.injEq] at h; exact h.2.2)
      · rw [show (y1 == more) = false by simpa using h2, cond_false]
        exact hJF fun h => h2 (by simp only [Prod.mk.injEq] at h; exact h.2.1)
    · rw [show (y0 == off) = false by simpa using h1, cond_false]
      exact hJF fun h => h1 (by simp only [Prod.mk.injEq] at h; exact h.1)
  · rw [decide_eq_false hlt, cond_false]
    rw [List.take_of_length_le (by omega)] at hm
    refine ⟨(decide_eq_false fun h => ?_).symm, hw⟩
    have := List.any_eq_false.1 hm _ h
    simp at this

theorem qshares_ok {w : World} {x o : Nat} {vs : List Value} {t : SliceV} {ys : List P3} {L : List Pc} (R : QAt w x o vs t ys L) (hl : L.length ≤ 2 ^ 30) (hg : ∀ p ∈ L, 0 ≤ p.1 ∧ pend p ≤ 65535) {off : Int} {more : Bool} {s : SliceV} {b : List UInt8} (hs : SlB w s b) (h0 : 0 ≤ off) (h1 : pend (off, more, b) ≤ 65535) :
    c_ref15_Holes_shares (some ⟨x, o, none⟩) off s w fun r w' => r = L.any (sh (off, more, b)) ∧ Ext w w' := by
  apply ok_ref15_Holes_shares
  unfold s_ref15_Holes_shares
  have hlen := R.len
  refine LoopP_inv (fun st W => ∃ j : Nat, j ≤ L.length ∧ st.1 = (j : Int) ∧ Ext w W ∧ (L.take j).any (sh (off, more, b)) = false) (fun st _ => (L.length - st.1).toNat) ⟨0, by omega, rfl, Ext.refl _, by simp⟩ ?_
  rintro ⟨i, ⟨⟩⟩ W ⟨j, hj, hi, hw, hm⟩ next hnext
  simp only at hi
  subst hi
  have RW := R.ext hw
  simp -zeta only [ex_some, ex_some, Ld_eq, LdV_some, dec_slice, RW.cell]
  by_cases hlt : (j : Int) < (t.len : Int)
  · rw [decide_eq_true hlt, cond_true]
    refine RW.ix (by omega) fun a y0 y1 y2 p2 hp _ e3 c0 c1 c2 => ?_
    have hpm := List.mem_of_getElem? hp
    have hpg := hg _ hpm
    simp -zeta only [LdV_some, dec_slice, dec_int, dec_bool, add0, c0, c1, c2]
    refine Al_f rfl rfl fun u W1 ru eu zu fu => ?_
    have hw1 := hw.trans fu
    have hsl := hs.1
    have e3l := e3.1
    have nb := empty_iff hs
    have np := empty_iff e3
    unfold pend at h1 hpg
    simp only at h1 hpg
    have hgb : decide ((s.len : Int) > 0) = !b.isEmpty := by
      rw [hsl]
      cases b with
      | nil => rfl
      | cons c l => exact decide_eq_true (by simp only [List.length_cons]; omega)
    have hgp : decide ((y2.len : Int) > 0) = !p2.isEmpty := by
      rw [e3l]
      cases p2 with
      | nil => rfl
      | cons c l => exact decide_eq_true (by simp only [List.length_cons]; omega)
    intro J
    have hJ : ∀ v, v = (!p2.isEmpty && !b.isEmpty) → J v := by
      intro v hv
      simp -zeta only [J]
      refine JoinP.of fun J2 hJ2 => ?_
      have hJ2' : ∀ v2 : Bool, v2 = sh (off, more, b) (y0, y1, p2) → J2 ((v2, ()), W1) := by
        intro v2 h2
        refine hJ2 _ ?_
        dsimp only
        cases v2
        · rw [cond_false, wrap_i64 (by omega) (by omega)]
          exact hnext _ _ ⟨j + 1, by omega, by simp, hw1, take_any hp hm h2.symm⟩ (by simp only; omega)
        · rw [cond_true]
          exact ⟨(List.any_eq_true.2 ⟨_, hpm, h2.symm⟩).symm, hw1⟩
      unfold sh pend at hJ2'
      simp only at hJ2'
      have w1 : IntKind.i64.wrap (off + (s.len : Int)) = off + (b.length : Int) := by rw [wrap_i64 (by omega) (by omega), hsl]
      have w2 : IntKind.i64.wrap (y0 + (y2.len : Int)) = y0 + (p2.length : Int) := by rw [wrap_i64 (by omega) (by omega), e3l]
      simp -zeta only [List.getElem?_cons_zero, List.getElem?_cons_succ, LdV_some, dec_slice, dec_int, add_mk, Nat.zero_add, ru.cell, w1, w2, nb, np]
      have e01 : (y0 == off) = decide (off = y0) := by
        by_cases h : y0 = off
        · simp [h]
        · have : ¬ off = y0 := fun e => h e.symm
          simp [h, this]
      rw [e01]
      generalize b.isEmpty = eb at *
      generalize p2.isEmpty = ep at *
      generalize decide (y0 < off + (b.length : Int)) = d1 at *
      generalize decide (off < y0 + (p2.length : Int)) = d2 at *
      generalize decide (off = y0) = d3 at *
      subst hv
      cases eb <;> cases ep <;> cases d1 <;> cases d2 <;> cases d3 <;> exact hJ2' _ rfl
    clear_value J
    simp -zeta only [List.getElem?_cons_zero, List.getElem?_cons_succ, LdV_some, dec_slice, add_mk, Nat.zero_add, ru.cell, hgp, hgb]
    cases hpe : p2.isEmpty
    · simp only [Bool.not_false, cond_true]
      exact hJ _ (by rw [hpe]; rfl)
    · simp only [Bool.not_true, cond_false]
      exact hJ _ (by rw [hpe]; rfl)
  · rw [decide_eq_false hlt, cond_false]
    rw [List.take_of_length_le (by omega)] at hm
    exact ⟨hm.symm, hw⟩

theorem qend_ok {w : World} {x o : Nat} {vs : List Value} {t : SliceV} {ys : List P3} {L : List Pc} (R : QAt w x o vs t ys L) (hl : L.length ≤ 2 ^ 30) (hg : ∀ p ∈ L, 0 ≤ p.1 ∧ pend p ≤ 65535) :
    c_ref15_Holes_end (some ⟨x, o, none⟩) w fun r w' => r = lastE L ∧ Ext w w' := by
  apply ok_ref15_Holes_end
  unfold s_ref15_Holes_end
  have hlen := R.len
  refine LoopP_inv (fun st W => ∃ j : Nat, j ≤ L.length ∧ st.1 = (j : Int) ∧ Ext w W ∧ lastE L = lastE (L.drop j)) (fun st _ => (L.length - st.1).toNat) ⟨0, by omega, rfl, Ext.refl _, rfl⟩ ?_
  rintro ⟨i, ⟨⟩⟩ W ⟨j, hj, hi, hw, hm⟩ next hnext
  simp only at hi
  subst hi
  have RW := R.ext hw
  simp -zeta only [ex_some, ex_some, Ld_eq, LdV_some, dec_slice, RW.cell]
  by_cases hlt : (j : Int) < (t.len : Int)
  · rw [decide_eq_true hlt, cond_true]
    refine RW.ix (by omega) fun a y0 y1 y2 p2 hp hy e3 c0 c1 c2 => ?_
    have hdrop : L.drop j = (y0, y1, p2) :: L.drop (j + 1) := by
      obtain ⟨h1, h2⟩ := List.getElem?_eq_some_iff.1 hp
      rw [← h2]
      exact List.drop_eq_getElem_cons h1
    rw [hdrop] at hm
    rw [lastE_cons] at hm
    simp only at hm
    have hpg := hg _ (List.mem_of_getElem? hp)
    unfold pend at hpg
    simp only at hpg
    simp only [LdV_some, dec_bool, c1]
    cases y1
    · simp only [Bool.not_false, cond_true]
      have RD := RW.ext (Ext.drew W)
      simp only [LdV_some, dec_slice, RD.cell]
      have hs := RD.sl
      refine RD.ix (by omega) fun a y0' y1' y2' p2' hp' hy' e3' c0' c1' c2' => ?_
      rw [hp] at hp'
      cases hp'
      simp only [LdV_some, dec_int, c0']
      refine RD.ix (by omega) fun a y0' y1' y2' p2' hp' hy' e3' c0' c1' c2' => ?_
      rw [hp] at hp'
      cases hp'
      simp only [LdV_some, dec_slice, c2']
      have := e3'.1
      rw [wrap_i64 (by (try simp only); omega) (by (try simp only); omega), hm, if_pos rfl, this]
      exact ⟨rfl, hw.trans (Ext.drew _)⟩
    · simp only [Bool.not_true, cond_false]
      rw [wrap_i64 (by omega) (by omega)]
      exact hnext _ _ ⟨j + 1, by omega, by simp, hw, by rw [hm]; simp⟩ (by simp only; omega)
  · rw [decide_eq_false hlt, cond_false]
    rw [List.drop_of_length_le (by omega)] at hm
    exact ⟨hm.symm, hw⟩

theorem qfar_ok {w : World} {x o : Nat} {vs : List Value} {t : SliceV} {ys : List P3} {L : List Pc} (R : QAt w x o vs t ys L) (hl : L.length ≤ 2 ^ 30) (hg : ∀ p ∈ L, 0 ≤ p.1 ∧ pend p ≤ 65535) :
    c_ref15_Holes_Far (some ⟨x, o, none⟩) w fun r w' => r = far L ∧ Ext w w' := by
  apply ok_ref15_Holes_Far
  unfold s_ref15_Holes_Far
  have hlen := R.len
  refine LoopP_inv (fun st W => ∃ j : Nat, j ≤ L.length ∧ st.2.1 = (j : Int) ∧ Ext w W ∧ st.1 = far (L.take j)) (fun st _ => (L.length - st.2.1).toNat) ⟨0, by omega, rfl, Ext.refl _, rfl⟩ ?_
  rintro ⟨m, i, ⟨⟩⟩ W ⟨j, hj, hi, hw, hm⟩ next hnext
  simp only at hi hm
  subst hi hm
  have RW := R.ext hw
  have RD := RW.ext (Ext.drew W)
  simp -zeta only [ex_some, ex_some, Ld_eq, LdV_some, dec_slice, RW.cell]
  by_cases hlt : (j : Int) < (t.len : Int)
  · rw [decide_eq_true hlt, cond_true]
    simp -zeta only [LdV_some, dec_slice, RD.cell]
    refine RD.ix (by omega) fun a y0 y1 y2 p2 hp hy e3 c0 c1 c2 => ?_
    simp -zeta only [LdV_some, dec_int, c0]
    refine RD.ix (by omega) fun a y0' y1' y2' p2' hp' hy' e3' c0' c1' c2' => ?_
    rw [hp] at hp'
    cases hp'
    have hpg := hg _ (List.mem_of_getElem? hp)
    unfold pend at hpg
    simp only at hpg
    have e := e3'.1
    simp only [LdV_some, dec_slice, c2']
    rw [wrap_i64 (n := y0 + _) (by (try simp only); omega) (by (try simp only); omega), wrap_i64 (by omega) (by omega)]
    refine hnext _ _ ⟨j + 1, by omega, by simp, hw.trans (Ext.drew _), ?_⟩ (by simp only; omega)
    rw [Gp.Hol.take_snoc' hp]
    unfold far
    rw [List.foldl_append]
    simp only [List.foldl_cons, List.foldl_nil]
    unfold pend
    simp only
    rw [← e]
    split <;> omega
  · rw [decide_eq_false hlt, cond_false]
    rw [List.take_of_length_le (by omega)]
    exact ⟨rfl, hw⟩

theorem qbytes_ok {w : World} {x o : Nat} {vs : List Value} {t : SliceV} {ys : List P3} {L : List Pc} (R : QAt w x o vs t ys L) (hl : L.length ≤ 2 ^ 30) (hg : ∀ p ∈ L, 0 ≤ p.1 ∧ pend p ≤ 65535) :
    c_ref15_Holes_Bytes (some ⟨x, o, none⟩) w fun r w' => r = sum L ∧ w' = w := by
  apply ok_ref15_Holes_Bytes
  unfold s_ref15_Holes_Bytes
  have hlen := R.len
  simp -zeta only [ex_some]
  refine LoopP_inv (fun st W => ∃ j : Nat, j ≤ L.length ∧ st.2.1 = (j : Int) ∧ W = w ∧ st.1 = sum (L.take j)) (fun st _ => (L.length - st.2.1).toNat) ⟨0, by omega, rfl, rfl, rfl⟩ ?_
  rintro ⟨m, i, ⟨⟩⟩ W ⟨j, hj, hi, rfl, hm⟩ next hnext
  simp only at hi hm
  subst hi hm
  simp -zeta only [Ld_eq, LdV_some, dec_slice, R.cell]
  by_cases hlt : (j : Int) < (t.len : Int)
  · rw [decide_eq_true hlt, cond_true]
    refine R.ix (by omega) fun a y0 y1 y2 p2 hp hy e3 c0 c1 c2 => ?_
    simp only [LdV_some, dec_slice, c2]
    have e := e3.1
    have h1 := sum_le (l := L.take (j + 1)) fun q hq => hg q (List.mem_of_mem_take hq)
    have h2 := sum_nonneg (L.take j)
    have h3 : sum (L.take (j + 1)) = sum (L.take j) + (p2.length : Int) := by
      rw [Gp.Hol.take_snoc' hp]; simp [sum]
    rw [List.length_take, Nat.min_eq_left (by omega)] at h1
    rw [wrap_i64 (n := sum _ + _) (by (try simp only); omega) (by (try simp only); omega), wrap_i64 (by omega) (by omega)]
    exact hnext _ _ ⟨j + 1, by omega, by simp, rfl, by simp only; rw [h3, e]⟩ (by simp only; omega)
  · rw [decide_eq_false hlt, cond_false]
    rw [List.take_of_length_le (by omega)]
    exact ⟨rfl, by trivial⟩

theorem qroom_ok {w : World} {x o : Nat} {vs : List Value} {t : SliceV} {ys : List P3} {L : List Pc} (R : QAt w x o vs t ys L) (hl : L.length ≤ 2 ^ 30) {off : Int} {s : SliceV} {b : List UInt8} (hs : SlB w s b) :
    c_ref15_Holes_Room (some ⟨x, o, none⟩) off s w fun r w' => r = roomP L off b ∧ Ext w w' := by
  apply ok_ref15_Holes_Room
  unfold s_ref15_Holes_Room roomP
  intro J
  refine cm_ref15_Holes_same (qsame_ok R hl hs) ?_
  rintro r w2 ⟨rfl, f2⟩
  by_cases h1 : ((off, true, b) : Pc) ∈ L
  · rw [decide_eq_true h1, cond_true]
    simp only [J, cond_true, if_pos (Or.inl h1 : ((off, true, b) : Pc) ∈ L ∨ ((off, false, b) : Pc) ∈ L)]
    exact ⟨by trivial, f2⟩
  rw [decide_eq_false h1, cond_false]
  refine cm_ref15_Holes_same (qsame_ok (R.ext f2) hl (hs.ext f2)) ?_
  rintro r w3 ⟨rfl, f3⟩
  by_cases h2 : ((off, false, b) : Pc) ∈ L
  · rw [decide_eq_true h2]
    simp only [J, cond_true, if_pos (Or.inr h2 : ((off, true, b) : Pc) ∈ L ∨ ((off, false, b) : Pc) ∈ L)]
    exact ⟨by trivial, f2.trans f3⟩
  rw [decide_eq_false h2]
  simp only [J, cond_false]
  rw [if_neg (by simp [h1, h2])]
  exact ⟨by rw [hs.1], f2.trans f3⟩



theorem qadd_ok {w : World} {x o : Nat} {vs : List Value} {t : SliceV} {ys : List P3} {L : List Pc} (R : QAt w x o vs t ys L) (hl : L.length ≤ 2 ^ 20) (hg : ∀ p ∈ L, 0 ≤ p.1 ∧ pend p ≤ 65535) {off : Int} {more : Bool} {s : SliceV} {b : List UInt8} (hs : SlB w s b) (hb : b.length ≤ 2 ^ 40) :
    c_ref15_Holes_Add (some ⟨x, o, none⟩) off more s w fun r w' => r = (add L (off, more, b)).1 ∧ ∃ t' ys', QAt w' x o (vs.set o (.slice t'.a t'.len t'.cap)) t' ys' (add L (off, more, b)).2 ∧ Fr8 w w' (· = x) ∧ (∀ c, SliceV.at t' c → SliceV.at t c ∨ w.heap.size ≤ c) ∧
      ∀ y ∈ ys', y ∈ ys ∨ ∀ a, y.2.2.1.a = some a → w.heap.size ≤ a.block := by
  apply ok_ref15_Holes_Add
  unfold s_ref15_Holes_Add
  have hsl := hs.1
  have keep : ∀ (n : Int) w', Ext w w' → n = (add L (off, more, b)).1 → (add L (off, more, b)).2 = L → n = (add L (off, more, b)).1 ∧ ∃ t' ys', QAt w' x o (vs.set o (.slice t'.a t'.len t'.cap)) t' ys' (add L (off, more, b)).2 ∧ Fr8 w w' (· = x) ∧ (∀ c, SliceV.at t' c → SliceV.at t c ∨ w.heap.size ≤ c) ∧
      ∀ y ∈ ys', y ∈ ys ∨ ∀ a, y.2.2.1.a = some a → w.heap.size ≤ a.block :=
    fun n w' hf h1 h2 => ⟨h1, t, ys, (by rw [h2, set_same R.ato]; exact R.ext hf), hf _, fun c hc => .inl hc, fun y hy => .inl hy⟩
  intro J
  have hT : (off < 0 ∨ (more = true ∧ (b.length = 0 ∨ b.length % 8 ≠ 0))) → J true := by
    intro h
    simp only [J, cond_true]
    have hm : may (off, more, b) = 4 := by unfold may; rw [if_pos h]
    have ha : add L (off, more, b) = (4, L) := by unfold add; rw [if_pos (by rw [hm]; decide), hm]
    exact keep 4 w (Ext.refl _) (by rw [ha]) (by rw [ha])
  have hF : ¬ (off < 0 ∨ (more = true ∧ (b.length = 0 ∨ b.length % 8 ≠ 0))) → J false := by
    intro h
    clear hT
    simp -zeta only [J, cond_false]
    by_cases h6 : off > 65535 - (b.length : Int)
    · rw [decide_eq_true (by rw [wrap_i64 (by omega) (by omega), hsl]; exact h6), cond_true]
      have hm : may (off, more, b) = 6 := by unfold may; rw [if_neg h, if_pos h6]
      have ha : add L (off, more, b) = (6, L) := by unfold add; rw [if_pos (by rw [hm]; decide), hm]
      exact keep 6 w (Ext.refl _) (by rw [ha]) (by rw [ha])
    rw [decide_eq_false (by rw [wrap_i64 (by omega) (by omega), hsl]; exact h6), cond_false]
    have hm : may (off, more, b) = 0 := by unfold may; rw [if_neg h, if_neg h6]
    obtain ⟨o0, o1, o2⟩ := may_ok hm
    have o0 : 0 ≤ off := o0
    refine cm_ref15_Holes_same (qsame_ok R (by omega) hs) ?_
    rintro r w2 ⟨rfl, f2⟩
    by_cases hmem : ((off, more, b) : Pc) ∈ L
    · rw [decide_eq_true hmem, cond_true]
      have ha : add L (off, more, b) = (0, L) := by unfold add; rw [if_neg (by rw [hm]; simp), if_pos hmem]
      exact keep 0 w2 f2 (by rw [ha]) (by rw [ha])
    rw [decide_eq_false hmem, cond_false]
    refine cm_ref15_Holes_shares (qshares_ok (more := more) (R.ext f2) (by omega) hg (hs.ext f2) o0 o1) ?_
    rintro r w3 ⟨rfl, f3⟩
    have e3 := f2.trans f3
    cases hany : L.any (sh (off, more, b))
    case true =>
      rw [cond_true]
      have ha : add L (off, more, b) = (9, L) := by unfold add; rw [if_neg (by rw [hm]; simp), if_neg hmem, if_pos hany]
      exact keep 9 w3 e3 (by rw [ha]) (by rw [ha])
    rw [cond_false]
    refine cm_ref15_Holes_end (qend_ok (R.ext e3) (by omega) hg) ?_
    rintro r w4 ⟨rfl, f4⟩
    have e4 := e3.trans f4
    intro J2
    have hbad : ∀ W, Ext w W → fits L (lastE L) (off, more, b) = false → J2 true W := by
      intro W hf hfit
      simp only [J2, cond_true]
      have ha : add L (off, more, b) = (4, L) := by unfold add; rw [if_neg (by rw [hm]; simp), if_neg hmem, if_neg (by rw [hany]; simp), if_pos hfit]
      exact keep 4 W hf (by rw [ha]) (by rw [ha])
    have hgood : ∀ W, Ext w W → fits L (lastE L) (off, more, b) = true → J2 false W := by
      intro W hf hfit
      clear hbad
      simp -zeta only [J2, cond_false]
      have ha : add L (off, more, b) = (0, L ++ [(off, more, b)]) := by unfold add; rw [if_neg (by rw [hm]; simp), if_neg hmem, if_neg (by rw [hany]; simp), if_neg (by rw [hfit]; simp)]
      rw [ha]
      have RW := R.ext hf
      simp -zeta only [ex_some, ex_some, Ld_eq, LdV_some, dec_slice, RW.cell]
      have hyl := R.pcs.len
      refine AppSl_bufN eP_len BufN.nil RW.sl rfl (by omega) eP_one (by simp only [List.length_nil]; omega) (by simp only [List.length_nil]; omega) fun s1 w5 b1 f5 at1 => ?_
      have f5 : Ext W w5 := f5.new (by rintro c hc ⟨o, e⟩; cases e)
      have e5 := hf.trans f5
      have hs1lt : ∀ c, SliceV.at s1 c → c < w5.heap.size := fun c hc => b1.lt hc
      refine AppSl_bytes (l := []) (Buf.nil) ((hs.ext e5)) (by simp only [List.length_nil]; omega) fun s2 w6 b2 f6 at2 _ => ?_
      have f6 : Ext w5 w6 := f6.new (by rintro c hc ⟨o, e⟩; cases e)
      have b2 : Buf w6 s2 (bytesV b) := b2
      refine Al_e fun v w7 rv ev z7 f7 => ?_
      have hd7 : SlB w7 s2 b := (SlB.of_buf b2).ext f7
      have hyl7 : SlN 3 eP w7 ⟨some ⟨v, 0, none⟩, 1, 1⟩ [(off, more, s2, ())] := (BufN.row (xs := [((off, more, s2, ()) : P3)]) (f := eP) (n := 3) rv).sl eP_len (by omega)
      have b1 : BufN 3 eP w7 s1 ys := by simpa using (b1.ext f6).ext f7
      refine AppSl_bufN eP_len b1 hyl7 rfl (by omega) eP_one (by simp only [List.length_singleton]; omega) (by simp only [List.length_singleton]; omega) fun s3 w8 b3 f8 at3 => ?_
      have e7 := (e5.trans f6).trans f7
      have hat1 : ∀ c, SliceV.at s1 c → w.heap.size ≤ c := fun c hc => by
        rcases at1 c hc with ⟨o, e⟩ | h
        · cases e
        · have := hf.size; omega
      have hat3 : ∀ c, SliceV.at s3 c → w.heap.size ≤ c := fun c hc => by
        rcases at3 c hc with h | h
        · exact hat1 c h
        · have := e7.size; omega
      have hs2 : ∀ a, s2.a = some a → w5.heap.size ≤ a.block := fun a ha' => by
        rcases at2 _ (b2.at_eq ha') with ⟨o, e⟩ | h
        · cases e
        · exact h
      have hxlt := R.row.lt
      have e8 : Ext w w8 := e7.new f8 fun c hc hc' => by have := hat1 c hc'; omega
      have hpc : PcsAt w8 (ys ++ [(off, more, s2, ())]) (L ++ [(off, more, b)]) := by
        have h := (R.pcs.ext e8).ins (Nat.le_refl _) (x := (off, more, s2, ())) (p := (off, more, b)) ⟨rfl, rfl, hd7.fr f8 fun a ha' h0 hc => ?_⟩
        · rw [List.take_length, List.drop_length] at h
          rw [hyl, List.take_length, List.drop_length] at h
          exact h
        · -- the new bytes are not where the list is
          have h1 := hs2 a ha'
          have h2 := hs1lt _ hc
          omega
      have hfree : FreeP (ys ++ [(off, more, s2, ())]) fun c => c = x := by
        intro y hy a ha' h0 e
        rcases List.mem_append.1 hy with hy | hy
        · exact R.free y hy a ha' h0 e
        · rw [List.mem_singleton.1 hy] at ha'
          have := hs2 a ha'
          have := e5.size
          omega
      have R8 := R.row.ext e8
      have hovs : o < vs.length := (List.getElem?_eq_some_iff.1 R.ato).1
      refine St_row R8 rfl hovs fun w9 r9 f9 z9 => ?_
      have hs3x : ∀ c, SliceV.at s3 c → c ≠ x := fun c hc e => by have := hat3 c hc; omega
      refine ⟨by trivial, s3, _, ⟨r9, by rw [List.getElem?_set_self hovs], b3.fr (f9 (· = x) rfl) hs3x, hpc.fr (f9 (· = x) rfl) hfree, hs3x, hfree⟩, e8.fr (f9 (· = x) rfl), fun c hc => .inr (hat3 c hc), fun y hy => ?_⟩
      rcases List.mem_append.1 hy with hy | hy
      · exact .inl hy
      · rw [List.mem_singleton.1 hy]
        exact .inr fun a ha' => by have := hs2 a ha'; have := e5.size; omega
    clear_value J2
    have hp : pend (off, more, b) = off + (b.length : Int) := rfl
    rw [hp] at o1
    have w1 : IntKind.i64.wrap (off + (s.len : Int)) = off + (b.length : Int) := by rw [wrap_i64 (by omega) (by omega), hsl]
    have hfit : fits L (lastE L) (off, more, b) = if more = true then decide (lastE L < 0) || decide (off + (b.length : Int) ≤ lastE L) else decide (lastE L < 0) && decide (far L ≤ off + (b.length : Int)) := rfl
    rw [hfit] at hbad hgood
    rw [w1]
    cases hmo : more
    · rw [Bool.not_false, cond_true]
      rw [hmo] at hbad hgood
      simp only [Bool.false_eq_true, if_false] at hbad hgood
      by_cases hl0 : lastE L ≥ 0
      · rw [decide_eq_true hl0, cond_true]
        exact hbad _ e4 (by rw [decide_eq_false (by omega)]; rfl)
      rw [decide_eq_false hl0, cond_false]
      refine cm_ref15_Holes_Far (qfar_ok (R.ext e4) (by omega) hg) ?_
      rintro r w5 ⟨rfl, f5⟩
      by_cases hfa : far L > off + (b.length : Int)
      · rw [decide_eq_true hfa, cond_true]
        exact hbad _ (e4.trans f5) (by rw [decide_eq_false (show ¬ far L ≤ _ by omega), Bool.and_false])
      · rw [decide_eq_false hfa, cond_false, cond_false]
        exact hgood _ (e4.trans f5) (by rw [decide_eq_true (show lastE L < 0 by omega), decide_eq_true (show far L ≤ _ by omega)]; rfl)
    · rw [Bool.not_true, cond_false]
      rw [hmo] at hbad hgood
      simp only [if_true] at hbad hgood
      by_cases hl0 : lastE L ≥ 0
      · rw [decide_eq_true hl0, cond_true]
        by_cases hgt : off + (b.length : Int) > lastE L
        · rw [decide_eq_true hgt]
          exact hbad _ e4 (by rw [decide_eq_false (show ¬ lastE L < 0 by omega), decide_eq_false (show ¬ _ ≤ lastE L by omega)]; rfl)
        · rw [decide_eq_false hgt]
          exact hgood _ e4 (by rw [decide_eq_true (show _ ≤ lastE L by omega), Bool.or_true])
      · rw [decide_eq_false hl0, cond_false]
        exact hgood _ e4 (by rw [decide_eq_true (show lastE L < 0 by omega), Bool.true_or])
  clear_value J
  by_cases h0 : off < 0
  · rw [decide_eq_true h0, cond_true]; exact hT (.inl h0)
  rw [decide_eq_false h0, cond_false]
  cases hmo : more
  · rw [cond_false]; exact hF (by rw [hmo]; simp; omega)
  rw [cond_true]
  by_cases h2 : b.length = 0
  · rw [show ((s.len : Int) == 0) = true by rw [hsl, h2]; rfl, cond_true]; exact hT (.inr ⟨hmo, .inl h2⟩)
  rw [show ((s.len : Int) == 0) = false by simp; omega, cond_false]
  refine ⟨by decide, ?_⟩
  by_cases h3 : b.length % 8 = 0
  · rw [show (Int.tmod (s.len : Int) 8 != 0) = false by rw [Int.tmod_eq_emod_of_nonneg (by omega)]; simp; omega]; exact hF (by omega)
  · rw [show (Int.tmod (s.len : Int) 8 != 0) = true by rw [Int.tmod_eq_emod_of_nonneg (by omega)]; simp; omega]; exact hT (.inr ⟨hmo, .inr h3⟩)

theorem qdone_ok {w : World} {x o : Nat} {vs : List Value} {t : SliceV} {ys : List P3} {L : List Pc} (R : QAt w x o vs t ys L) (G : Gp.Hol.Good L) (hl : L.length ≤ 2 ^ 20) :
    c_ref15_Holes_Done (some ⟨x, o, none⟩) w fun r ok w' => ((ok = true ∧ 0 ≤ lastE L ∧ sum L = lastE L ∧ ∃ out, SlB w' r out ∧ (out.length : Int) = lastE L ∧ ∀ p ∈ L, Set out p p.2.2.length) ∨ (ok = false ∧ (lastE L < 0 ∨ sum L ≠ lastE L) ∧ SlB w' r [])) ∧ Ext w w' := by
  apply ok_ref15_Holes_Done
  unfold s_ref15_Holes_Done
  have hg : ∀ p ∈ L, 0 ≤ p.1 ∧ pend p ≤ 65535 := fun p hp => ⟨(G.ok p hp).1, (G.ok p hp).2.1⟩
  refine cm_ref15_Holes_end (qend_ok R (by omega) hg) ?_
  rintro r w2 ⟨rfl, f2⟩
  have R2 := R.ext f2
  intro J
  by_cases hneg : lastE L < 0
  · rw [decide_eq_true hneg, cond_true]
    simp only [J, cond_true]
    exact ⟨.inr ⟨by trivial, .inl hneg, SlB.nil⟩, f2⟩
  rw [decide_eq_false hneg, cond_false]
  refine cm_ref15_Holes_Bytes (qbytes_ok R2 (by omega) hg) ?_
  rintro r w0 ⟨rfl, hw⟩
  have hw := hw.symm
  subst hw
  by_cases hsum : sum L = lastE L
  case neg =>
    rw [show (sum L != lastE L) = true by simpa using hsum]
    simp only [J, cond_true]
    exact ⟨.inr ⟨by trivial, .inr hsum, SlB.nil⟩, f2⟩
  rw [show (sum L != lastE L) = false by simpa using hsum]
  simp -zeta only [J, cond_false]
  have hlast : ∀ p ∈ L, pend p ≤ lastE L := by
    by_cases hex : ∃ q ∈ L, q.2.1 = false
    · obtain ⟨q, hq, hqm⟩ := hex
      rw [lastE_some G.one hq hqm]
      exact G.last q hq hqm
    · exact absurd ((lastE_neg G).2 fun q hq => by
        cases hb : q.2.1
        · exact absurd ⟨q, hq, hb⟩ hex
        · rfl) hneg
  have hle : lastE L ≤ 65535 ∨ L = [] := by
    by_cases hex : ∃ q ∈ L, q.2.1 = false
    · obtain ⟨q, hq, hqm⟩ := hex
      rw [lastE_some G.one hq hqm]
      exact .inl (hg q hq).2
    · exact absurd ((lastE_neg G).2 fun q hq => by
        cases hb : q.2.1
        · exact absurd ⟨q, hq, hb⟩ hex
        · rfl) hneg
  have hle : lastE L ≤ 65535 := by
    rcases hle with h | h
    · exact h
    · rw [h]; decide
  obtain ⟨n, hn⟩ : ∃ n : Nat, lastE L = (n : Int) := ⟨(lastE L).toNat, by omega⟩
  refine MkSl_row (by omega) (by omega) (by omega) (by omega) fun c w3 rc ec zc fc => ?_
  have fc : Ext w2 w3 := fc
  rw [hn, Int.toNat_natCast] at rc ⊢
  have hlen := R.len
  have hxlt := R2.row.lt
  have hbytes0 : repCells [Value.int .u8 0] n = bytesV (List.replicate n 0) := by
    have : ∀ n, repCells [Value.int .u8 0] n = bytesV (List.replicate n 0) := by
      intro n
      induction n with
      | zero => rfl
      | succ n ih => rw [repCells, ih, List.replicate_succ]; rfl
    exact this n
  rw [hbytes0] at rc
  have QXW : ∀ {W}, Fr8 w3 W (· = c) → QAt W x o vs t ys L := fun {W} hf => by
    refine (R2.ext fc).fr hf (by omega) (fun b hb => by have := R2.buf.lt hb; omega) (fun y hy a ha h0 e => ?_)
    obtain ⟨k, hk⟩ := List.getElem?_of_mem hy
    obtain ⟨p, hp, g1, g2, g3⟩ := R2.pcs.get hk
    have := g3.lt ha (by have := g3.1; omega)
    omega
  have fin : ∀ {W}, Fr8 w3 W (· = c) → Ext w W := fun {W} hf => (f2.trans fc).new hf (by intro y hy e; have := f2.size; omega)
  have hdisj : ∀ (i j : Nat) p q, i < j → L[i]? = some p → L[j]? = some q → sh p q = false := by
    intro i j p q hij hp hq
    obtain ⟨h1, rfl⟩ := List.getElem?_eq_some_iff.1 hp
    obtain ⟨h2, rfl⟩ := List.getElem?_eq_some_iff.1 hq
    exact List.pairwise_iff_getElem.1 G.apart i j h1 h2 hij
  refine LoopP_inv (fun st W => ∃ j : Nat, j ≤ L.length ∧ st.1 = (j : Int) ∧ Fr8 w3 W (· = c) ∧ ∃ out : List UInt8, Row W c (bytesV out) ∧ out.length = n ∧ ∀ (i : Nat) p, i < j → L[i]? = some p → Set out p p.2.2.length) (fun st _ => (L.length - st.1).toNat)
    ⟨0, by omega, rfl, Fr8.refl _ _, _, rc, by simp, fun i p h => by omega⟩ ?_
  rintro ⟨i, ⟨⟩⟩ W ⟨j, hj, hi, hf, out, hr, hol, hset⟩ next hnext
  simp only at hi
  subst hi
  have RW := QXW hf
  simp -zeta only [ex_some, ex_some, Ld_eq, LdV_some, dec_slice, AtIx_some, add_mk, Nat.zero_add, RW.cell]
  by_cases hlt : (j : Int) < (t.len : Int)
  · rw [decide_eq_true hlt, cond_true]
    have hpj := List.getElem?_eq_getElem (show j < L.length by omega)
    generalize L[j] = p at hpj
    have hpm := List.mem_of_getElem? hpj
    have hpl := hlast p hpm
    have hpg := hg p hpm
    refine LoopP_inv (fun st W => ∃ k : Nat, k ≤ p.2.2.length ∧ st.1 = (k : Int) ∧ Fr8 w3 W (· = c) ∧ ∃ out : List UInt8, Row W c (bytesV out) ∧ out.length = n ∧ (∀ (i : Nat) p, i < j → L[i]? = some p → Set out p p.2.2.length) ∧ Set out p k) (fun st _ => (p.2.2.length - st.1).toNat)
      ⟨0, by omega, rfl, hf, out, hr, hol, hset, fun k h => by omega⟩ ?_
    clear hf hr hol hset RW out W
    rintro ⟨i, ⟨⟩⟩ W ⟨k, hk, hi, hf, out, hr, hol, hset, hsk⟩ next2 hnext2
    simp only at hi
    subst hi
    have RW := QXW hf
    have RD := RW.ext (Ext.drew W)
    have hfd : Fr8 w3 W.drew (· = c) := hf.ext (Ext.drew W)
    simp -zeta only [LdV_some, dec_slice, RW.cell]
    refine RW.ix (by omega) fun a y0 y1 y2 p2 hp hy e3 c0 c1 c2 => ?_
    have hpe : p = (y0, y1, p2) := by rw [hpj] at hp; exact Option.some.inj hp
    have hp2 : p2 = p.2.2 := by rw [hpe]
    have hy0 : y0 = p.1 := by rw [hpe]
    simp -zeta only [LdV_some, dec_slice, c2]
    have hl2 := e3.1
    by_cases hklt : (k : Int) < (y2.len : Int)
    · rw [decide_eq_true hklt, cond_true]
      simp -zeta only [LdV_some, dec_slice, RD.cell]
      refine RD.ix (by omega) fun a y0' y1' y2' p2' hp' hy' e3' c0' c1' c2' => ?_
      rw [hp] at hp'
      cases hp'
      simp -zeta only [LdV_some, dec_int, c0']
      refine RD.ix (by omega) fun a y0' y1' y2' p2' hp' hy' e3' c0' c1' c2' => ?_
      rw [hp] at hp'
      cases hp'
      simp -zeta only [LdV_some, dec_slice, c2']
      have hkp : k < p.2.2.length := by rw [← hp2]; omega
      have hkb := List.getElem?_eq_getElem (show k < p2.length by omega)
      generalize p2[k] = bb at hkb
      refine SlB_ix e3' hkb fun a hca => ?_
      simp -zeta only [LdV_some, dec_int, hca]
      unfold pend at hpl hpg
      rw [← hy0, ← hp2] at hpl hpg
      rw [wrap_i64 (n := y0 + (k : Int)) (by omega) (by omega)]
      refine ⟨by omega, by omega, ?_⟩
      rw [Nat.mul_one]
      have hpos : (y0 + (k : Int)).toNat = y0.toNat + k := by omega
      rw [hpos]
      refine St_row hr.drew rfl (by rw [bytesV_len, hol]; omega) fun W2 r2 g2 z2 => ?_
      rw [bytesV_set] at r2
      rw [wrap_i64 (by omega) (by omega)]
      refine hnext2 _ _ ⟨k + 1, by rw [← hp2]; omega, by simp, hfd.trans (g2 (· = c) rfl) fun _ _ e => e, _, r2, by rw [List.length_set]; exact hol, fun i q hij hq m hm => ?_, fun m hm => ?_⟩ (by simp only; omega)
      · have h1 := hset i q hij hq m hm
        have hq0 := (hg q (List.mem_of_getElem? hq)).1
        rw [List.getElem?_set_ne, h1]
        intro e
        have hs := hdisj i j q p hij hq hpj
        unfold sh at hs
        have n1 : q.2.2.isEmpty = false := by cases hh : q.2.2 with
          | nil => rw [hh] at hm; simp at hm
          | cons _ _ => rfl
        have n2 : p.2.2.isEmpty = false := by rw [← hp2]; cases hh : p2 with
          | nil => rw [hh] at hkb; simp at hkb
          | cons _ _ => rfl
        have hk2 := (List.getElem?_eq_some_iff.1 hkb).1
        rw [n1, n2] at hs
        unfold pend at hs
        rw [← hy0, ← hp2] at hs
        simp only [Bool.false_and, Bool.not_false, Bool.true_and, Bool.false_or, Bool.and_eq_false_iff, decide_eq_false_iff_not] at hs
        omega
      · rw [← hy0, ← hp2]
        rcases Nat.lt_or_ge m k with h | h
        · have := hsk m h
          rw [← hy0, ← hp2] at this
          rw [List.getElem?_set_ne (by omega), this]
        · have : m = k := by omega
          subst this
          rw [List.getElem?_set_self (by omega), hkb]
    · rw [decide_eq_false hklt, cond_false]
      have hke : k = p.2.2.length := by rw [← hp2]; rw [hp2] at hl2; rw [← hp2] at hk hl2; omega
      rw [wrap_i64 (by omega) (by omega)]
      refine hnext _ _ ⟨j + 1, by omega, by simp, hf, out, hr, hol, fun i q hij hq => ?_⟩ (by simp only; omega)
      rcases Nat.lt_or_ge i j with h | h
      · exact hset i q h hq
      · have : i = j := by omega
        subst this
        rw [hpj] at hq
        cases hq
        rw [← hke]
        exact hsk
  · rw [decide_eq_false hlt, cond_false]
    have : j = L.length := by omega
    subst this
    refine ⟨.inl ⟨by trivial, by omega, by rw [hsum]; exact hn, out, SlB.of_buf ?_, by omega, fun p hp => ?_⟩, fin hf⟩
    · have := SlB.row hr
      rw [hol] at this
      exact this
    · obtain ⟨i, hi, rfl⟩ := List.mem_iff_getElem.1 hp
      exact hset i _ hi (List.getElem?_eq_getElem hi)

end Go.Proofs
