import Derived.Test.YtgnlnicmgnkliaaSes5
/- The document's sessions. -/
namespace Go.Proofs
open Gp Gp.Hash
open Gp.Ses (Ses Slots live GoodS freeN getS ids)
open Gp.Bind (In64)
set_option maxRecDepth 100000

def rcell (x : Int × Ses) : List Value := [.int .i64 x.1, .int .i64 x.2.bd, .int .i64 x.2.st, .int .i64 x.2.un, .int .i64 x.2.ra, .int .i64 x.2.rp]
theorem rcell_len (x : Int × Ses) : (rcell x).length = 6 := rfl
theorem rcell_one (x : Int × Ses) : ∀ v ∈ rcell x, isOne v = true := by
  intro v hv
  simp only [rcell, List.mem_cons, List.not_mem_nil, or_false] at hv
  rcases hv with rfl | rfl | rfl | rfl | rfl | rfl <;> rfl

/-- The document's sessions in memory. -/
structure RF (w : World) (x : Nat) (s : SliceV) (most : Int) (L : List (Int × Ses)) : Prop where
  hd : Row w x [.slice s.a s.len s.cap, .int .i64 most]
  buf : BufN 6 rcell w s L
  ne : ¬ SliceV.at s x
  len : L.length ≤ 5000

def fpR (x : Nat) (s : SliceV) (b : Nat) : Prop := b = x ∨ SliceV.at s b

section
variable {w w' : World} {x : Nat} {s : SliceV} {most : Int} {L : List (Int × Ses)}

theorem RF.fr {F : Nat → Prop} (h : RF w x s most L) (hf : Fr8 w w' F) (hs : ∀ b, fpR x s b → ¬ F b) : RF w' x s most L :=
  ⟨h.hd.fr hf (hs _ (.inl rfl)), h.buf.fr hf fun b hb => hs b (.inr hb), h.ne, h.len⟩
theorem RF.ext (h : RF w x s most L) (hf : Ext w w') : RF w' x s most L := h.fr (hf fun _ => False) (fun _ _ => by simp)

theorem RF.cells (h : RF w x s most L) {i : Nat} {y : Int × Ses} (hi : L[i]? = some y) : ∃ a, s.a = some a ∧ ∀ j v, (rcell y)[j]? = some v → w.cell? (a.add (i * 6 + j)) = some v :=
  (h.buf.sl rcell_len (by omega)).at_ rcell_len (by omega) hi

theorem find_snoc {α : Type} {p : α → Bool} {L : List α} {i : Nat} (hi : i < L.length) (h : (L.take i).find? p = none) : (p L[i] = true → L.find? p = some L[i]) ∧ (p L[i] = false → (L.take (i + 1)).find? p = none) := by
  have e : L = L.take i ++ L[i] :: L.drop (i + 1) := by
    conv => lhs; rw [← List.take_append_drop i L, List.drop_eq_getElem_cons hi]
  constructor
  · intro hp
    conv => lhs; rw [e]
    rw [List.find?_append, h, List.find?_cons_of_pos hp]; rfl
  · intro hp
    rw [List.take_succ_eq_append_getElem hi, List.find?_append, h, List.find?_cons_of_neg (by simp [hp])]; rfl

theorem ibeq (a b : Int) : (a == b) = decide (a = b) := rfl
theorem tup3 (a b c a' b' c' : Int) : ((a == a') && ((b == b') && ((c == c') && true))) = decide ([a, b, c] = [a', b', c']) := by
  simp [ibeq, Bool.decide_and]

theorem rfind_ok (h : RF w x s most L) (a b c : Int) : c_ref24_Table_Find (some ⟨x, 0, none⟩) a b c w fun n t w' => t = (L.find? fun y => decide (y.2.k = [a, b, c])).isSome ∧ n = ((L.find? fun y => decide (y.2.k = [a, b, c])).map (·.1)).getD 0 ∧ Ext w w' := by
  apply ok_ref24_Table_Find
  unfold s_ref24_Table_Find
  refine Al_e fun p w1 r1 e1 z1 f1 => ?_
  have hlen := h.buf.len
  have hll := h.len
  refine LoopP_inv (fun st W => ∃ i : Nat, i ≤ L.length ∧ st.1 = (i : Int) ∧ Ext w1 W ∧ (L.take i).find? (fun y => decide (y.2.k = [a, b, c])) = none) (fun st _ => L.length - st.1.toNat) ⟨0, by omega, rfl, Ext.refl _, by simp⟩ ?_
  rintro ⟨k, ⟨⟩⟩ W ⟨i, hi, rfl, hx, hp⟩ next hnext
  have hW := (h.ext f1).ext hx
  simp -zeta only [ex_some, Ld_eq, List.getElem?_cons_zero, LdV_some, dec_slice, add_mk, Nat.zero_add, Nat.add_zero, hW.hd.cell]
  by_cases hlt : i < L.length
  · have hlt' : ((i : Int) < (s.len : Int)) := by omega
    have hWd := hW.ext (Ext.drew W)
    have hL : L[i]? = some L[i] := List.getElem?_eq_getElem hlt
    obtain ⟨f1', f2'⟩ := find_snoc hlt hp
    generalize L[i] = y at hL f1' f2'
    obtain ⟨aa, ha, hc⟩ := hWd.cells hL
    have k0 := hc 0 _ rfl
    have k1 := hc 1 _ rfl
    have k4 := hc 4 _ rfl
    have k5 := hc 5 _ rfl
    rw [Nat.add_zero] at k0
    have r1d := (r1.ext hx).drew
    rw [decide_eq_true hlt', cond_true]
    intro J
    have hJ : J (decide (y.2.k = [a, b, c])) W.drew := by
      simp only [J]
      by_cases hq' : y.2.k = [a, b, c]
      · simp only [hq', decide_true, cond_true, ex_some, List.getElem?_cons_zero, LdV_some, dec_slice, dec_int, hWd.hd.cell, AtIx, ha, Int.toNat_natCast, k0]
        refine ⟨by first | trivial | omega, by first | trivial | omega, ?_⟩
        rw [f1' (decide_eq_true hq')]
        exact ⟨rfl, rfl, (f1.trans hx).trans (Ext.drew _)⟩
      · simp only [hq', decide_false, cond_false]
        rw [wrap_i64 (by omega) (by omega)]
        exact hnext _ _ ⟨i + 1, by omega, by simp, hx.trans (Ext.drew _), f2' (decide_eq_false hq')⟩ (by simp only; omega)
    clear_value J
    simp only [ex_some, List.getElem?_cons_zero, LdV_some, dec_slice, dec_int, Nat.add_zero, hWd.hd.cell, AtIx, ha, Int.toNat_natCast, addr_add2, Nat.add_assoc, Nat.reduceAdd, k1]
    refine ⟨by first | trivial | omega, by first | trivial | omega, ?_⟩
    have ek : (y.2.k = [a, b, c]) ↔ (y.2.bd = a ∧ y.2.ra = b ∧ y.2.rp = c) := by simp [Ses.k]
    by_cases h1 : y.2.bd = a
    · have : (y.2.bd == a) = true := by simpa using h1
      simp only [this, cond_true, List.getElem?_cons_zero, List.getElem?_cons_succ, LdV_some, dec_int, k4, k5, r1d.cell]
      refine ⟨by first | trivial | omega, by first | trivial | omega, ?_⟩
      have e2 : ((y.2.ra == b) && ((y.2.rp == c) && true)) = decide (y.2.k = [a, b, c]) := by
        rw [ibeq, ibeq, Bool.and_true, ← Bool.decide_and, decide_eq_decide, ek]
        exact ⟨fun h => ⟨h1, h⟩, fun h => h.2⟩
      rw [e2]; exact hJ
    · have : (y.2.bd == a) = false := by simpa using h1
      simp only [this, cond_false]
      rw [decide_eq_false (fun e => h1 (ek.1 e).1)] at hJ
      exact hJ
  · have hlt' : ¬ ((i : Int) < (s.len : Int)) := by omega
    rw [decide_eq_false hlt', cond_false]
    rw [List.take_of_length_le (by omega)] at hp
    rw [hp]
    exact ⟨rfl, rfl, f1.trans hx⟩

theorem rgetb_ok (h : RF w x s most L) (id : Int) : c_ref24_Table_Get (some ⟨x, 0, none⟩) id w fun a1 a2 a3 a4 a5 r w' => r = (L.find? fun y => y.1 == id).isSome ∧ SesR (((L.find? fun y => y.1 == id).map (·.2)).getD Ses0) a1 a2 a3 a4 a5 ∧ Ext w w' := by
  apply ok_ref24_Table_Get
  unfold s_ref24_Table_Get
  refine Al_e fun p w1 r1 e1 z1 f1 => ?_
  have hlen := h.buf.len
  have hll := h.len
  refine LoopP_inv (fun st W => W = w1 ∧ ∃ i : Nat, i ≤ L.length ∧ st.1 = (i : Int) ∧ (L.take i).find? (fun y => y.1 == id) = none) (fun st _ => L.length - st.1.toNat) ⟨rfl, 0, by omega, rfl, by simp⟩ ?_
  rintro ⟨k, ⟨⟩⟩ W ⟨rfl, i, hi, rfl, hp⟩ next hnext
  have hW := h.ext f1
  simp only [ex_some, Ld_eq, List.getElem?_cons_zero, LdV_some, dec_slice, add_mk, Nat.zero_add, Nat.add_zero, hW.hd.cell]
  by_cases hlt : i < L.length
  · have hlt' : ((i : Int) < (s.len : Int)) := by omega
    have hL : L[i]? = some L[i] := List.getElem?_eq_getElem hlt
    obtain ⟨f1', f2'⟩ := find_snoc hlt hp
    generalize L[i] = y at hL f1' f2'
    obtain ⟨aa, ha, hc⟩ := hW.cells hL
    have k0 := hc 0 _ rfl
    have k1 := hc 1 _ rfl
    have k2 := hc 2 _ rfl
    have k3 := hc 3 _ rfl
    have k4 := hc 4 _ rfl
    have k5 := hc 5 _ rfl
    rw [Nat.add_zero] at k0
    simp only [hlt', decide_true, cond_true, ex_some, LdV_some, dec_int, AtIx, ha, Int.toNat_natCast, k0]
    refine ⟨by first | trivial | omega, by first | trivial | omega, ?_⟩
    cases hq : (y.1 == id) with
    | true =>
      simp only [cond_true, LdV_some, dec_int, Nat.add_zero, addr_add2, Nat.add_assoc, Nat.reduceAdd, k1, k2, k3, k4, k5]
      refine ⟨by first | trivial | omega, by first | trivial | omega, StN_full r1 rfl rfl fun w3 r3 f3 _ => ?_⟩
      simp only [List.getElem?_cons_zero, List.getElem?_cons_succ, LdV_some, dec_int, r3.cell]
      rw [f1' hq]
      exact ⟨rfl, ⟨rfl, rfl, rfl, rfl, rfl⟩, f1.new (f3 (· = p) rfl) fun y hy e => by omega⟩
    | false =>
      simp only [cond_false]
      rw [wrap_i64 (by omega) (by omega)]
      exact hnext _ _ ⟨rfl, i + 1, by omega, by simp, f2' hq⟩ (by simp only; omega)
  · have hlt' : ¬ ((i : Int) < (s.len : Int)) := by omega
    simp only [hlt', decide_false, cond_false]
    rw [List.take_of_length_le (by omega)] at hp
    refine StN_full r1 rfl rfl fun w3 r3 f3 _ => ?_
    simp only [List.getElem?_cons_zero, List.getElem?_cons_succ, LdV_some, dec_int, r3.cell]
    rw [hp]
    exact ⟨rfl, ⟨rfl, rfl, rfl, rfl, rfl⟩, f1.new (f3 (· = p) rfl) fun y hy e => by omega⟩

theorem rnewb_ok (n : Int) (w : World) : c_ref24_New n w fun p e w' => Ext w w' ∧ ((¬ (0 ≤ n ∧ n ≤ 4096) ∧ p = none ∧ e = 1) ∨ (0 ≤ n ∧ n ≤ 4096 ∧ e = 0 ∧ ∃ x, p = some ⟨x, 0, none⟩ ∧ w.heap.size ≤ x ∧ x < w'.heap.size ∧ RF w' x ⟨none, 0, 0⟩ n [])) := by
  apply ok_ref24_New
  unfold s_ref24_New
  by_cases c1 : n < 0
  · simp only [c1, decide_true, cond_true]
    exact ⟨Ext.refl _, .inl ⟨by omega, by trivial, by trivial⟩⟩
  by_cases c2 : n > 4096
  · simp only [c1, c2, decide_true, decide_false, cond_true, cond_false]
    exact ⟨Ext.refl _, .inl ⟨by omega, by trivial, by trivial⟩⟩
  simp only [c1, c2, decide_false, cond_false]
  refine Al_e fun x w1 r1 e1 z1 f1 => ⟨f1, .inr ⟨by omega, by omega, by trivial, x, rfl, by omega, by omega, ⟨r1, BufN.nil, ?_, by simp⟩⟩⟩
  rintro ⟨o, h⟩; cases h

theorem rremove_ok (h : RF w x s most L) (id : Int) :
    c_ref24_Table_Remove (some ⟨x, 0, none⟩) id w fun r w' => r = (L.find? fun y => y.1 == id).isSome ∧ Fr8 w w' (· = x) ∧ ∃ s', RF w' x s' most (L.filter fun y => y.1 != id) ∧ ∀ b, SliceV.at s' b → w.heap.size ≤ b := by
  apply ok_ref24_Table_Remove
  unfold s_ref24_Table_Remove
  have hlen := h.buf.len
  have hll := h.len
  have hxl := h.hd.lt
  refine LoopP_inv (fun st W => ∃ i : Nat, i ≤ L.length ∧ st.2.1 = (i : Int) ∧ Ext w W ∧ BufN 6 rcell W st.1 ((L.take i).filter fun y => y.1 != id) ∧ ∀ b, SliceV.at st.1 b → w.heap.size ≤ b) (fun st _ => L.length - st.2.1.toNat) ⟨0, by omega, rfl, Ext.refl _, BufN.nil, by rintro b ⟨o, h⟩; cases h⟩ ?_
  rintro ⟨t, k, ⟨⟩⟩ W ⟨i, hi, rfl, hx, hb, hn⟩ next hnext
  have hW := h.ext hx
  have hb : BufN 6 rcell W t ((L.take i).filter fun y => y.1 != id) := hb
  have hn : ∀ b, SliceV.at t b → w.heap.size ≤ b := hn
  simp only [ex_some, Ld_eq, List.getElem?_cons_zero, LdV_some, dec_slice, hW.hd.cell]
  by_cases hlt : i < L.length
  · have hlt' : ((i : Int) < (s.len : Int)) := by omega
    have hL : L[i]? = some L[i] := List.getElem?_eq_getElem hlt
    have htk : L.take (i + 1) = L.take i ++ [L[i]] := List.take_succ_eq_append_getElem hlt
    generalize L[i] = y at hL htk
    obtain ⟨aa, ha, hc⟩ := hW.cells hL
    have k0 := hc 0 _ rfl
    have k1 := hc 1 _ rfl
    have k2 := hc 2 _ rfl
    have k3 := hc 3 _ rfl
    have k4 := hc 4 _ rfl
    have k5 := hc 5 _ rfl
    rw [Nat.add_zero] at k0
    simp only [hlt', decide_true, cond_true, ex_some, LdV_some, dec_int, AtIx, ha, Int.toNat_natCast, k0]
    refine ⟨by first | trivial | omega, by first | trivial | omega, ?_⟩
    cases hq : (y.1 != id) with
    | true =>
      simp only [cond_true, LdV_some, dec_int, Nat.add_zero, addr_add2, k0, k1, k2, k3, k4, k5]
      refine ⟨by first | trivial | omega, by first | trivial | omega, Al_e fun p w3 r3 e3 z3 f3 => ?_⟩
      have hel : SlN 6 rcell w3 ⟨some ⟨p, 0, none⟩, 1, 1⟩ [y] := (BufN.row (xs := [y]) (by simpa [rcell] using r3)).sl rcell_len (by omega)
      have hfl : ((L.take i).filter fun y => y.1 != id).length ≤ L.length := by
        refine Nat.le_trans (List.length_filter_le _ _) ?_
        rw [List.length_take]; omega
      refine AppSl_bufN rcell_len (hb.ext f3) hel rfl (by omega) rcell_one (by simp only [List.length_singleton]; omega) (by simp only [List.length_singleton]; omega) fun t4 w4 b4 f4 n4 => ?_
      rw [wrap_i64 (by omega) (by omega)]
      have z1 := hx.size
      refine hnext _ _ ⟨i + 1, by omega, by simp, (hx.trans f3).new f4 fun z hz hzz => by have := hn z hzz; omega, ?_, fun b hb' => ?_⟩ (by simp only; omega)
      · rw [htk, List.filter_append, List.filter_cons_of_pos (p := fun y : Int × Ses => y.1 != id) (a := y) hq]; exact b4
      · rcases n4 b hb' with h4 | h4
        · exact hn b h4
        · omega
    | false =>
      simp only [cond_false]
      rw [wrap_i64 (by omega) (by omega)]
      refine hnext _ _ ⟨i + 1, by omega, by simp, hx, ?_, hn⟩ (by simp only; omega)
      rw [htk, List.filter_append, List.filter_cons_of_neg (p := fun y : Int × Ses => y.1 != id) (a := y) (by rw [hq]; simp)]
      simpa using hb
  · have hlt' : ¬ ((i : Int) < (s.len : Int)) := by omega
    simp only [hlt', decide_false, cond_false]
    rw [List.take_of_length_le (by omega)] at hb
    refine St_row hW.hd rfl (by simp) fun w3 r3 f3 z3 => ?_
    simp only [List.set_cons_zero] at r3
    have f3x := f3 (· = x) rfl
    have hnx : ¬ SliceV.at t x := fun hh => by have := hn x hh; omega
    have hfl := List.length_filter_le (fun y : Int × Ses => y.1 != id) L
    refine ⟨?_, (hx _).trans f3x fun z _ hz => hz, t, ⟨r3, hb.fr f3x fun z hz e => hnx (e ▸ hz), hnx, by omega⟩, hn⟩
    rw [hb.len, hlen]
    cases hf : L.find? fun y => y.1 == id with
    | none =>
      have : (L.filter fun y => y.1 != id) = L := List.filter_eq_self.2 fun y hy => by
        have := List.find?_eq_none.1 hf y hy
        simpa using this
      rw [this]; simp
    | some y =>
      have hm := List.mem_of_find?_eq_some hf
      have hp := List.find?_some hf
      have : (L.filter fun y => y.1 != id).length < L.length := by
        rcases Nat.lt_or_ge (L.filter fun y => y.1 != id).length L.length with h1 | h1
        · exact h1
        · have h2 := List.filter_eq_self.1 ((List.filter_sublist (p := fun y : Int × Ses => y.1 != id) (l := L)).eq_of_length_le h1) y hm
          simp at h2 hp
          exact absurd hp h2
      simp only [Option.isSome_some]
      exact decide_eq_true (by omega)
theorem rof_ok (h : RF w x s most L) (id : Int) :
    c_ref24_Table_Of (some ⟨x, 0, none⟩) id w fun r w' => BufN 6 rcell w' r (L.filter fun y => y.2.bd == id) ∧ Ext w w' ∧ ∀ b, SliceV.at r b → w.heap.size ≤ b := by
  apply ok_ref24_Table_Of
  unfold s_ref24_Table_Of
  have hlen := h.buf.len
  have hll := h.len
  have hxl := h.hd.lt
  refine LoopP_inv (fun st W => ∃ i : Nat, i ≤ L.length ∧ st.2.1 = (i : Int) ∧ Ext w W ∧ BufN 6 rcell W st.1 ((L.take i).filter fun y => y.2.bd == id) ∧ ∀ b, SliceV.at st.1 b → w.heap.size ≤ b) (fun st _ => L.length - st.2.1.toNat) ⟨0, by omega, rfl, Ext.refl _, BufN.nil, by rintro b ⟨o, h⟩; cases h⟩ ?_
  rintro ⟨t, k, ⟨⟩⟩ W ⟨i, hi, rfl, hx, hb, hn⟩ next hnext
  have hW := h.ext hx
  have hb : BufN 6 rcell W t ((L.take i).filter fun y => y.2.bd == id) := hb
  have hn : ∀ b, SliceV.at t b → w.heap.size ≤ b := hn
  simp only [ex_some, Ld_eq, List.getElem?_cons_zero, LdV_some, dec_slice, hW.hd.cell]
  by_cases hlt : i < L.length
  · have hlt' : ((i : Int) < (s.len : Int)) := by omega
    have hL : L[i]? = some L[i] := List.getElem?_eq_getElem hlt
    have htk : L.take (i + 1) = L.take i ++ [L[i]] := List.take_succ_eq_append_getElem hlt
    generalize L[i] = y at hL htk
    obtain ⟨aa, ha, hc⟩ := hW.cells hL
    have k0 := hc 0 _ rfl
    have k1 := hc 1 _ rfl
    have k2 := hc 2 _ rfl
    have k3 := hc 3 _ rfl
    have k4 := hc 4 _ rfl
    have k5 := hc 5 _ rfl
    rw [Nat.add_zero] at k0
    simp only [hlt', decide_true, cond_true, ex_some, LdV_some, dec_int, Nat.add_zero, AtIx, ha, Int.toNat_natCast, addr_add2, k1]
    refine ⟨by first | trivial | omega, by first | trivial | omega, ?_⟩
    cases hq : (y.2.bd == id) with
    | true =>
      simp only [cond_true, LdV_some, dec_int, k0, k2, k3, k4, k5]
      refine ⟨by first | trivial | omega, by first | trivial | omega, Al_e fun p w3 r3 e3 z3 f3 => ?_⟩
      have hel : SlN 6 rcell w3 ⟨some ⟨p, 0, none⟩, 1, 1⟩ [y] := (BufN.row (xs := [y]) (by simpa [rcell] using r3)).sl rcell_len (by omega)
      have hfl : ((L.take i).filter fun y => y.2.bd == id).length ≤ L.length := by
        refine Nat.le_trans (List.length_filter_le _ _) ?_
        rw [List.length_take]; omega
      refine AppSl_bufN rcell_len (hb.ext f3) hel rfl (by omega) rcell_one (by simp only [List.length_singleton]; omega) (by simp only [List.length_singleton]; omega) fun t4 w4 b4 f4 n4 => ?_
      rw [wrap_i64 (by omega) (by omega)]
      have z1 := hx.size
      refine hnext _ _ ⟨i + 1, by omega, by simp, (hx.trans f3).new f4 fun z hz hzz => by have := hn z hzz; omega, ?_, fun b hb' => ?_⟩ (by simp only; omega)
      · rw [htk, List.filter_append, List.filter_cons_of_pos (p := fun y : Int × Ses => y.2.bd == id) (a := y) hq]; exact b4
      · rcases n4 b hb' with h4 | h4
        · exact hn b h4
        · omega
    | false =>
      simp only [cond_false]
      rw [wrap_i64 (by omega) (by omega)]
      refine hnext _ _ ⟨i + 1, by omega, by simp, hx, ?_, hn⟩ (by simp only; omega)
      rw [htk, List.filter_append, List.filter_cons_of_neg (p := fun y : Int × Ses => y.2.bd == id) (a := y) (by rw [hq]; simp)]
      simpa using hb
  · have hlt' : ¬ ((i : Int) < (s.len : Int)) := by omega
    simp only [hlt', decide_false, cond_false]
    rw [List.take_of_length_le (by omega)] at hb
    exact ⟨hb, hx, hn⟩

theorem rset_ok (h : RF w x s most L) (id st un : Int) :
    c_ref24_Table_Set (some ⟨x, 0, none⟩) id st un w fun r w' => Fr8 w w' (SliceV.at s) ∧ ((L.find? (fun y => y.1 == id) = none ∧ r = false ∧ RF w' x s most L) ∨
      ∃ i b, L[i]? = some (id, b) ∧ r = true ∧ RF w' x s most (L.set i (id, { b with st := st, un := un }))) := by
  apply ok_ref24_Table_Set
  unfold s_ref24_Table_Set
  have hlen := h.buf.len
  have hll := h.len
  refine LoopP_inv (fun st W => W = w ∧ ∃ i : Nat, i ≤ L.length ∧ st.1 = (i : Int) ∧ (L.take i).find? (fun y => y.1 == id) = none) (fun st _ => L.length - st.1.toNat) ⟨rfl, 0, by omega, rfl, by simp⟩ ?_
  rintro ⟨k, ⟨⟩⟩ W ⟨rfl, i, hi, rfl, hp⟩ next hnext
  simp only [ex_some, Ld_eq, List.getElem?_cons_zero, LdV_some, dec_slice, h.hd.cell]
  by_cases hlt : i < L.length
  · have hlt' : ((i : Int) < (s.len : Int)) := by omega
    have hL : L[i]? = some L[i] := List.getElem?_eq_getElem hlt
    obtain ⟨f1', f2'⟩ := find_snoc hlt hp
    generalize L[i] = y at hL f1' f2'
    obtain ⟨v, b⟩ := y
    obtain ⟨aa, ha, hc⟩ := h.cells hL
    have k0 := hc 0 _ rfl
    rw [Nat.add_zero] at k0
    simp only [hlt', decide_true, cond_true, ex_some, LdV_some, dec_int, AtIx, ha, Int.toNat_natCast, k0]
    refine ⟨by first | trivial | omega, by first | trivial | omega, ?_⟩
    by_cases hq : v = id
    · subst hq
      have hd := h.ext (Ext.drew W)
      obtain ⟨bb, pad, hb1, hb2, hb3⟩ : ∃ bb pad, s.a = some ⟨bb, 0, none⟩ ∧ s.cap * 6 = L.length * 6 + pad.length ∧ Row W bb (L.flatMap rcell ++ pad) := by
        rcases h.buf.mem with ⟨_, e, _⟩ | e
        · rw [e] at hlt; simp at hlt
        · exact e
      rw [ha] at hb1
      cases hb1
      have hfl := flat_len rcell 6 rcell_len L
      have hdd := h.hd.drew
      simp only [beq_self_eq_true, cond_true, hdd.cell, ha, cond_true, ex_some, List.getElem?_cons_zero, LdV_some, dec_slice, add_mk, Nat.zero_add, Nat.add_assoc, Nat.reduceAdd]
      refine ⟨by first | trivial | omega, by first | trivial | omega, ?_⟩
      refine St_row hb3.drew rfl (by rw [List.length_append]; omega) fun w2 r2 f2 z2 => ?_
      refine ⟨by first | trivial | omega, by first | trivial | omega, ?_⟩
      refine St_row r2 rfl (by rw [List.length_set, List.length_append]; omega) fun w3 r3 f3 z3 => ?_
      have f23 : Fr8 W w3 (· = bb) := ((Ext.drew W) (· = bb)).trans ((f2 (· = bb) rfl).trans (f3 (· = bb) rfl) fun _ _ e => e) fun _ _ e => e
      have e1 : (L.flatMap rcell ++ pad).set (i * 6 + 2) (.int .i64 st) = (L.set i (v, { b with st := st })).flatMap rcell ++ pad := by
        rw [List.set_append_left _ _ (by omega), flat_set rcell 6 rcell_len L i 2 (v, b) (v, { b with st := st }) _ (by omega) hL rfl]
      have hL2 : (L.set i (v, { b with st := st }))[i]? = some (v, { b with st := st }) := by rw [List.getElem?_set_self hlt]
      have e2 : ((L.set i (v, { b with st := st })).flatMap rcell ++ pad).set (i * 6 + 3) (.int .i64 un) = (L.set i (v, { b with st := st, un := un })).flatMap rcell ++ pad := by
        rw [List.set_append_left _ _ (by rw [flat_len rcell 6 rcell_len, List.length_set]; omega), flat_set rcell 6 rcell_len _ i 3 (v, { b with st := st }) (v, { b with st := st, un := un }) _ (by omega) hL2 rfl, List.set_set]
      rw [e1, e2] at r3
      have hat : SliceV.at s bb := ⟨0, ha⟩
      refine ⟨f23.mono fun y hy => by rw [hy]; exact hat, .inr ⟨i, b, hL, by trivial, ?_⟩⟩
      refine ⟨h.hd.fr f23 fun e => h.ne (by rw [e]; exact hat), ⟨by rw [List.length_set]; exact hlen, .inr ⟨bb, pad, ha, by rw [List.length_set]; exact hb2, r3⟩⟩, h.ne, by rw [List.length_set]; exact hll⟩
    · have hq' : (v == id) = false := by simpa using hq
      simp only [hq', cond_false]
      rw [wrap_i64 (by omega) (by omega)]
      exact hnext _ _ ⟨rfl, i + 1, by omega, by simp, f2' hq'⟩ (by simp only; omega)
  · have hlt' : ¬ ((i : Int) < (s.len : Int)) := by omega
    simp only [hlt', decide_false, cond_false]
    rw [List.take_of_length_le (by omega)] at hp
    exact ⟨Fr8.refl _ _, .inl ⟨hp, by trivial, h⟩⟩

def raddR (L : List (Int × Ses)) (most : Int) (b : Ses) (i : Nat) : Int × Int :=
  if (L.find? fun y => decide (y.2.k = b.k)).isSome then (0, 9) else if most ≤ (L.length : Int) then (0, 7) else ((i : Int), 0)

theorem radd_ok (h : RF w x s most L) (b : Ses) (i : Nat) (hm : most ≤ 4096) (hi : ¬ (most ≤ (L.length : Int)) → i ≤ L.length ∧ (∀ j, j < i → ∃ c, L[j]? = some ((j : Int), c)) ∧ ∀ v c, L[i]? = some (v, c) → v ≠ (i : Int)) :
    c_ref24_Table_Add (some ⟨x, 0, none⟩) b.bd b.st b.un b.ra b.rp w fun n e w' => (n, e) = raddR L most b i ∧ Fr8 w w' (· = x) ∧
      ∃ s', RF w' x s' most (if (raddR L most b i).2 = 0 then L.take i ++ ((i : Int), b) :: L.drop i else L) ∧ ∀ z, SliceV.at s' z → SliceV.at s z ∨ w.heap.size ≤ z := by
  apply ok_ref24_Table_Add
  unfold s_ref24_Table_Add
  refine Al_e fun p w1 r1 e1 z1 f1 => ?_
  simp only [cond_false, ex_some, Ld_eq, List.getElem?_cons_zero, List.getElem?_cons_succ, LdV_some, dec_int, add_mk, Nat.zero_add, Nat.add_zero, r1.cell]
  refine cm_ref24_Table_Find (rfind_ok (h.ext f1) _ _ _) ?_
  rintro n2 t2 w2 ⟨ht2, _, f2⟩
  have ht2 : t2 = (L.find? fun y => decide (y.2.k = b.k)).isSome := ht2
  have same : ∀ W e, Ext w W → raddR L most b i = (0, e) → e ≠ 0 → ((0 : Int), e) = raddR L most b i ∧ Fr8 w W (· = x) ∧ ∃ s', RF W x s' most (if (raddR L most b i).2 = 0 then L.take i ++ ((i : Int), b) :: L.drop i else L) ∧ ∀ z, SliceV.at s' z → SliceV.at s z ∨ w.heap.size ≤ z := by
    intro W e hx he hne
    rw [he]
    exact ⟨rfl, hx _, s, by rw [if_neg (by simpa using hne)]; exact h.ext hx, fun z hz => .inl hz⟩
  cases htt : t2 with
  | true =>
    rw [htt] at ht2
    simp only [cond_true]
    exact same _ 9 (f1.trans f2) (by unfold raddR; rw [← ht2]; rfl) (by omega)
  | false =>
  rw [htt] at ht2
  have x3d : Ext w w2.drew := (f1.trans f2).trans (Ext.drew _)
  have h3 := h.ext x3d
  have hlen := h.buf.len
  have hll := h.len
  simp only [cond_false, List.getElem?_cons_zero, List.getElem?_cons_succ, LdV_some, dec_slice, dec_int, h3.hd.cell]
  by_cases hfull : most ≤ (L.length : Int)
  · have : ((s.len : Int) ≥ most) := by omega
    simp only [this, decide_true, cond_true]
    exact same _ 7 x3d (by unfold raddR; rw [← ht2, if_pos hfull]; rfl) (by omega)
  have hnf : ¬ ((s.len : Int) ≥ most) := by omega
  simp only [hnf, decide_false, cond_false]
  obtain ⟨i1, i2, i3⟩ := hi hfull
  have hr : raddR L most b i = ((i : Int), 0) := by unfold raddR; rw [← ht2, if_neg hfull]; rfl
  rw [hr]
  simp only [if_true]
  have rp := (r1.ext f2).drew
  have hxl := h.hd.lt
  have hz3 := x3d.size
  refine LoopP_inv (fun st W => W = w2.drew ∧ ∃ j : Nat, j ≤ i ∧ st.1 = (j : Int)) (fun st _ => i - st.1.toNat) ⟨rfl, 0, by omega, rfl⟩ ?_
  rintro ⟨k, ⟨⟩⟩ W ⟨rfl, j, hj, rfl⟩ next hnext
  by_cases hji : j < i
  · obtain ⟨c, hc⟩ := i2 j hji
    obtain ⟨aa, ha, hcell⟩ := h3.cells hc
    have k0 := hcell 0 _ rfl
    rw [Nat.add_zero] at k0
    have hlt' : ((j : Int) < (s.len : Int)) := by omega
    simp only [cond_true, ex_some, List.getElem?_cons_zero, LdV_some, dec_slice, dec_int, h3.hd.cell, hlt', decide_true, AtIx, ha, Int.toNat_natCast, k0, ibeq]
    refine ⟨by first | trivial | omega, by first | trivial | omega, ?_⟩
    rw [wrap_i64 (by omega) (by omega)]
    exact hnext _ _ ⟨rfl, j + 1, by omega, by simp⟩ (by simp only; omega)
  have : j = i := by omega
  subst this
  have h3d := h3.ext (Ext.drew _)
  have rpd := rp.drew
  -- the end of the loop
  have stop : ∀ (X Y : Prop), Y → (LdV .slice (w2.drew.cell? ⟨x, 0, none⟩) fun x64 => bif decide ((j : Int) < (x64.len : Int)) then (LdV .slice (w2.drew.cell? ⟨x, 0, none⟩) fun x66 => AtIx x66 6 (j : Int) fun a67 => LdV (.int .i64) (w2.drew.cell? a67) fun x68 => bif (x68 == (j : Int)) then X else Y) else Y) := by
    intro X Y hY
    simp only [List.getElem?_cons_zero, LdV_some, dec_slice, h3.hd.cell]
    by_cases hlt : j < L.length
    · have hlt' : ((j : Int) < (s.len : Int)) := by omega
      have hL : L[j]? = some L[j] := List.getElem?_eq_getElem hlt
      generalize L[j] = y at hL
      obtain ⟨v, c⟩ := y
      obtain ⟨aa, ha, hcell⟩ := h3.cells hL
      have k0 := hcell 0 _ rfl
      rw [Nat.add_zero] at k0
      have hne := i3 v c hL
      simp only [hlt', decide_true, cond_true, AtIx, ha, ex_some, Int.toNat_natCast, k0, LdV_some, dec_int, ibeq, hne, decide_false, cond_false]
      exact ⟨by first | trivial | omega, by first | trivial | omega, hY⟩
    · have hlt' : ¬ ((j : Int) < (s.len : Int)) := by omega
      simp only [hlt', decide_false, cond_false]
      exact hY
  simp only []
  refine stop _ _ ?_
  have hsl := h3d.buf.sl rcell_len (by omega)
  simp only [List.getElem?_cons_zero, List.getElem?_cons_succ, LdV_some, dec_slice, dec_int, h3d.hd.cell, rpd.cell]
  refine SubSl_N rcell_len hsl (by omega) (by omega) (by omega) fun sa hsa => ?_
  refine SubSl_N rcell_len hsl (by omega) (by omega) (by omega) fun sb hsb => ?_
  rw [show Int.toNat 0 = 0 from rfl, List.drop_zero, Int.toNat_natCast] at hsa
  rw [Int.toNat_natCast, Int.toNat_natCast, hlen, List.take_of_length_le (Nat.le_refl _)] at hsb
  have tk : (L.take j).length = j := by rw [List.length_take]; omega
  have dk : (L.drop j).length = L.length - j := List.length_drop
  have w2dd : w2.drew.drew.heap.size = w2.drew.heap.size := rfl
  have xdd : Ext w w2.drew.drew := x3d.trans (Ext.drew _)
  -- what is behind
  have fin : ∀ W (t : SliceV), Ext w2.drew.drew W → BufN 6 rcell W t (L.take j ++ ((j : Int), b) :: L.drop j) → (∀ z, SliceV.at t z → w2.drew.heap.size ≤ z) → St W ⟨x, 0, none⟩ (.slice t.a t.len t.cap) fun w12 => Fr8 w w12 (· = x) ∧ ∃ s', RF w12 x s' most (L.take j ++ ((j : Int), b) :: L.drop j) ∧ ∀ z, SliceV.at s' z → SliceV.at s z ∨ w.heap.size ≤ z := by
    intro W t hx hb hn
    have hW := h3d.ext hx
    refine St_row hW.hd rfl (by simp) fun w5 r5 f5 z5 => ?_
    simp only [List.set_cons_zero] at r5
    have f5x := f5 (· = x) rfl
    have hnx : ¬ SliceV.at t x := fun hh => by have := hn x hh; omega
    refine ⟨((xdd.trans hx) _).trans f5x fun z _ hz => hz, t, ⟨r5, hb.fr f5x fun z hz e => hnx (e ▸ hz), hnx, ?_⟩, fun z hz => .inr (by have := hn z hz; omega)⟩
    simp only [List.length_append, List.length_cons, tk, dk]; omega
  have hrc : rcell ((j : Int), b) = [.int .i64 (j : Int), .int .i64 b.bd, .int .i64 b.st, .int .i64 b.un, .int .i64 b.ra, .int .i64 b.rp] := rfl
  have elem : ∀ {W : World} {q : Nat}, Row W q [.int .i64 (j : Int), .int .i64 b.bd, .int .i64 b.st, .int .i64 b.un, .int .i64 b.ra, .int .i64 b.rp] → SlN 6 rcell W ⟨some ⟨q, 0, none⟩, 1, 1⟩ [((j : Int), b)] := by
    intro W q hq
    exact (BufN.row (xs := [((j : Int), b)]) (by simpa [rcell] using hq)).sl rcell_len (by omega)
  refine ⟨?_, ?_⟩
  · refine AppSl_bufN rcell_len BufN.nil hsa rfl (by omega) rcell_one (by simp only [List.length_nil, tk]; omega) (by simp only [List.length_nil, tk]; omega) fun t4 w4 b4 f4 n4 => ?_
    have y4 : Ext w2.drew.drew w4 := f4.new fun z _ ⟨o, hz⟩ => by cases hz
    have n4' : ∀ z, SliceV.at t4 z → w2.drew.heap.size ≤ z := fun z hz => by
      rcases n4 z hz with ⟨o, h4⟩ | h4
      · cases h4
      · exact h4
    rw [List.nil_append] at b4
    simp only [true_and, List.getElem?_cons_zero, List.getElem?_cons_succ, (rpd.ext y4).cell, (h3d.ext y4).hd.cell]
    refine Al_e fun q w5 r5 e5 z5 f5 => ?_
    have y5 := y4.trans f5
    simp only [true_and, List.getElem?_cons_zero, (h3d.ext y5).hd.cell]
    refine AppSl_bufN rcell_len (b4.ext f5) (elem r5) rfl (by omega) rcell_one (by simp only [List.length_singleton, tk]; omega) (by simp only [List.length_singleton, tk]; omega) fun t6 w6 b6 f6 n6 => ?_
    have z4 := y4.size
    have z5' := y5.size
    have y6 : Ext w2.drew.drew w6 := y5.new f6 fun z hz h => by have := n4' z h; omega
    have n6' : ∀ z, SliceV.at t6 z → w2.drew.heap.size ≤ z := fun z hz => by
      rcases n6 z hz with h6 | h6
      · exact n4' z h6
      · omega
    simp only [true_and, List.getElem?_cons_zero, (h3d.ext y6).hd.cell]
    refine AppSl_bufN rcell_len b6 (hsb.ext y6) rfl (by omega) rcell_one (by simp only [List.length_append, List.length_singleton, tk, dk]; omega) (by simp only [List.length_append, List.length_singleton, tk, dk]; omega) fun t8 w8 b8 f8 n8 => ?_
    have z6 := y6.size
    have y8 : Ext w2.drew.drew w8 := y6.new f8 fun z hz h => by have := n6' z h; omega
    refine fin w8 t8 y8 (by simpa using b8) fun z hz => ?_
    rcases n8 z hz with h8 | h8
    · exact n6' z h8
    · omega
  · refine Al_e fun q w5 r5 e5 z5 f5 => ?_
    simp only [true_and, List.getElem?_cons_zero, (h3d.ext f5).hd.cell]
    refine AppSl_bufN rcell_len BufN.nil (hsa.ext f5) rfl (by omega) rcell_one (by simp only [List.length_nil, tk]; omega) (by simp only [List.length_nil, tk]; omega) fun t4 w4 b4 f4 n4 => ?_
    have y4 : Ext w2.drew.drew w4 := f5.new f4 fun z _ ⟨o, hz⟩ => by cases hz
    have y54 : Ext w5 w4 := f4.new fun z _ ⟨o, hz⟩ => by cases hz
    have z5' := f5.size
    have n4' : ∀ z, SliceV.at t4 z → w5.heap.size ≤ z := fun z hz => by
      rcases n4 z hz with ⟨o, h4⟩ | h4
      · cases h4
      · exact h4
    rw [List.nil_append] at b4
    simp only [true_and, List.getElem?_cons_zero, List.getElem?_cons_succ, (rpd.ext y4).cell, (h3d.ext y4).hd.cell]
    refine AppSl_bufN rcell_len b4 (elem (r5.ext y54)) rfl (by omega) rcell_one (by simp only [List.length_singleton, tk]; omega) (by simp only [List.length_singleton, tk]; omega) fun t6 w6 b6 f6 n6 => ?_
    have z4 := y4.size
    have z54 := y54.size
    have y6 : Ext w2.drew.drew w6 := y4.new f6 fun z hz h => by have := n4' z h; omega
    have n6' : ∀ z, SliceV.at t6 z → w2.drew.heap.size ≤ z := fun z hz => by
      rcases n6 z hz with h6 | h6
      · have := n4' z h6; omega
      · omega
    simp only [true_and, List.getElem?_cons_zero, (h3d.ext y6).hd.cell]
    refine AppSl_bufN rcell_len b6 (hsb.ext y6) rfl (by omega) rcell_one (by simp only [List.length_append, List.length_singleton, tk, dk]; omega) (by simp only [List.length_append, List.length_singleton, tk, dk]; omega) fun t8 w8 b8 f8 n8 => ?_
    have z6 := y6.size
    have y8 : Ext w2.drew.drew w8 := y6.new f8 fun z hz h => by have := n6' z h; omega
    refine fin w8 t8 y8 (by simpa using b8) fun z hz => ?_
    rcases n8 z hz with h8 | h8
    · exact n6' z h8
    · omega
end
end Go.Proofs
