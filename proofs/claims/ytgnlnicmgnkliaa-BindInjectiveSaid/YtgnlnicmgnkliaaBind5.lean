import Derived.Test.YtgnlnicmgnkliaaBind4
/- The document's bindings: Add; and that both are the same. -/
namespace Go.Proofs
open Gp Gp.Hash
open Gp.Bind (Bnd Slots live GoodB freeN getS In64)
set_option maxRecDepth 100000

section
variable {w w' : World} {x : Nat} {s : SliceV} {most : Int} {L : List (Int × Bnd)}

def raddR (L : List (Int × Bnd)) (most : Int) (b : Bnd) (i : Nat) : Int × Int :=
  if (L.find? fun y => decide (y.2.i = b.i)).isSome || (L.find? fun y => decide (y.2.o = b.o)).isSome then (0, 9) else if most ≤ (L.length : Int) then (0, 7) else ((i : Int), 0)

theorem radd_ok (h : RF w x s most L) (b : Bnd) (i : Nat) (hm : most ≤ 4096) (hi : ¬ (most ≤ (L.length : Int)) → i ≤ L.length ∧ (∀ j, j < i → ∃ c, L[j]? = some ((j : Int), c)) ∧ ∀ v c, L[i]? = some (v, c) → v ≠ (i : Int)) :
    c_ref22_DB_Add (some ⟨x, 0, none⟩) b.sw b.pr b.ad b.po b.opr b.oad b.opo b.st w fun n e w' => (n, e) = raddR L most b i ∧ Fr8 w w' (· = x) ∧
      ∃ s', RF w' x s' most (if (raddR L most b i).2 = 0 then L.take i ++ ((i : Int), b) :: L.drop i else L) ∧ ∀ z, SliceV.at s' z → SliceV.at s z ∨ w.heap.size ≤ z := by
  apply ok_ref22_DB_Add
  unfold s_ref22_DB_Add
  refine Al_e fun p w1 r1 e1 z1 f1 => ?_
  simp only [cond_false, ex_some, Ld_eq, List.getElem?_cons_zero, List.getElem?_cons_succ, LdV_some, dec_int, add_mk, Nat.zero_add, Nat.add_zero, r1.cell]
  refine cm_ref22_DB_Find (rfind_ok (h.ext f1) _ _ _ _) ?_
  rintro n2 t2 w2 ⟨ht2, _, f2⟩
  have ht2 : t2 = (L.find? fun y => decide (y.2.i = b.i)).isSome := ht2
  have same : ∀ W e, Ext w W → raddR L most b i = (0, e) → e ≠ 0 → ((0 : Int), e) = raddR L most b i ∧ Fr8 w W (· = x) ∧ ∃ s', RF W x s' most (if (raddR L most b i).2 = 0 then L.take i ++ ((i : Int), b) :: L.drop i else L) ∧ ∀ z, SliceV.at s' z → SliceV.at s z ∨ w.heap.size ≤ z := by
    intro W e hx he hne
    rw [he]
    exact ⟨rfl, hx _, s, by rw [if_neg (by simpa using hne)]; exact h.ext hx, fun z hz => .inl hz⟩
  cases htt : t2 with
  | true =>
    rw [htt] at ht2
    simp only [cond_true]
    exact same _ 9 (f1.trans f2) (by unfold raddR; rw [← ht2]; rfl) (by omega)
  | false =>
  rw [htt] at ht2
  simp only [cond_false, List.getElem?_cons_zero, List.getElem?_cons_succ, LdV_some, dec_int, (r1.ext f2).cell]
  refine cm_ref22_DB_Back (rback_ok ((h.ext f1).ext f2) _ _ _) ?_
  rintro n3 t3 w3 ⟨ht3, _, f3⟩
  have ht3 : t3 = (L.find? fun y => decide (y.2.o = b.o)).isSome := ht3
  have x3 : Ext w w3 := f1.trans (f2.trans f3)
  cases htt3 : t3 with
  | true =>
    rw [htt3] at ht3
    simp only [cond_true]
    exact same _ 9 x3 (by unfold raddR; rw [← ht3, ← ht2]; rfl) (by omega)
  | false =>
  rw [htt3] at ht3
  have x3d : Ext w w3.drew := x3.trans (Ext.drew _)
  have h3 := h.ext x3d
  have hlen := h.buf.len
  have hll := h.len
  simp only [cond_false, List.getElem?_cons_zero, List.getElem?_cons_succ, LdV_some, dec_slice, dec_int, h3.hd.cell]
  by_cases hfull : most ≤ (L.length : Int)
  · have : ((s.len : Int) ≥ most) := by omega
    simp only [this, decide_true, cond_true]
    exact same _ 7 x3d (by unfold raddR; rw [← ht2, ← ht3, if_pos hfull]; rfl) (by omega)
  have hnf : ¬ ((s.len : Int) ≥ most) := by omega
  simp only [hnf, decide_false, cond_false]
  obtain ⟨i1, i2, i3⟩ := hi hfull
  have hr : raddR L most b i = ((i : Int), 0) := by unfold raddR; rw [← ht2, ← ht3, if_neg hfull]; rfl
  rw [hr]
  simp only [if_true]
  have rp := ((r1.ext f2).ext f3).drew
  have hxl := h.hd.lt
  have hz3 := x3d.size
  refine LoopP_inv (fun st W => W = w3.drew ∧ ∃ j : Nat, j ≤ i ∧ st.1 = (j : Int)) (fun st _ => i - st.1.toNat) ⟨rfl, 0, by omega, rfl⟩ ?_
  rintro ⟨k, ⟨⟩⟩ W ⟨rfl, j, hj, rfl⟩ next hnext
  by_cases hji : j < i
  · obtain ⟨c, hc⟩ := i2 j hji
    obtain ⟨aa, ha, hcell⟩ := h3.cells hc
    have k0 := hcell 0 _ rfl
    rw [Nat.add_zero] at k0
    have hlt' : ((j : Int) < (s.len : Int)) := by omega
    simp only [cond_true, ex_some, List.getElem?_cons_zero, LdV_some, dec_slice, dec_int, h3.hd.cell, hlt', decide_true, AtIx, ha, Int.toNat_natCast, k0, ibeq]
    refine ⟨by first | trivial | omega, by first | trivial | omega, ?_⟩
    rw [wrap_i64 (by omega) (by omega)]
    exact hnext _ _ ⟨rfl, j + 1, by omega, by simp⟩ (by simp only; omega)
  have : j = i := by omega
  subst this
  have h3d := h3.ext (Ext.drew _)
  have rpd := rp.drew
  -- the end of the loop
  have stop : ∀ (X Y : Prop), Y → (LdV .slice (w3.drew.cell? ⟨x, 0, none⟩) fun x64 => bif decide ((j : Int) < (x64.len : Int)) then (LdV .slice (w3.drew.cell? ⟨x, 0, none⟩) fun x66 => AtIx x66 9 (j : Int) fun a67 => LdV (.int .i64) (w3.drew.cell? a67) fun x68 => bif (x68 == (j : Int)) then X else Y) else Y) := by
    intro X Y hY
    simp only [List.getElem?_cons_zero, LdV_some, dec_slice, h3.hd.cell]
    by_cases hlt : j < L.length
    · have hlt' : ((j : Int) < (s.len : Int)) := by omega
      have hL : L[j]? = some L[j] := List.getElem?_eq_getElem hlt
      generalize L[j] = y at hL
      obtain ⟨v, c⟩ := y
      obtain ⟨aa, ha, hcell⟩ := h3.cells hL
      have k0 := hcell 0 _ rfl
      rw [Nat.add_zero] at k0
      have hne := i3 v c hL
      simp only [hlt', decide_true, cond_true, AtIx, ha, ex_some, Int.toNat_natCast, k0, LdV_some, dec_int, ibeq, hne, decide_false, cond_false]
      exact ⟨by first | trivial | omega, by first | trivial | omega, hY⟩
    · have hlt' : ¬ ((j : Int) < (s.len : Int)) := by omega
      simp only [hlt', decide_false, cond_false]
      exact hY
  simp only []
  refine stop _ _ ?_
  have hsl := h3d.buf.sl rcell_len (by omega)
  simp only [List.getElem?_cons_zero, List.getElem?_cons_succ, LdV_some, dec_slice, dec_int, dec_bool, h3d.hd.cell, rpd.cell]
  refine SubSl_N rcell_len hsl (by omega) (by omega) (by omega) fun sa hsa => ?_
  refine SubSl_N rcell_len hsl (by omega) (by omega) (by omega) fun sb hsb => ?_
  rw [show Int.toNat 0 = 0 from rfl, List.drop_zero, Int.toNat_natCast] at hsa
  rw [Int.toNat_natCast, Int.toNat_natCast, hlen, List.take_of_length_le (Nat.le_refl _)] at hsb
  have tk : (L.take j).length = j := by rw [List.length_take]; omega
  have dk : (L.drop j).length = L.length - j := List.length_drop
  have w3dd : w3.drew.drew.heap.size = w3.drew.heap.size := rfl
  have xdd : Ext w w3.drew.drew := x3d.trans (Ext.drew _)
  -- what is behind
  have fin : ∀ W (t : SliceV), Ext w3.drew.drew W → BufN 9 rcell W t (L.take j ++ ((j : Int), b) :: L.drop j) → (∀ z, SliceV.at t z → w3.drew.heap.size ≤ z) → St W ⟨x, 0, none⟩ (.slice t.a t.len t.cap) fun w12 => Fr8 w w12 (· = x) ∧ ∃ s', RF w12 x s' most (L.take j ++ ((j : Int), b) :: L.drop j) ∧ ∀ z, SliceV.at s' z → SliceV.at s z ∨ w.heap.size ≤ z := by
    intro W t hx hb hn
    have hW := h3d.ext hx
    refine St_row hW.hd rfl (by simp) fun w5 r5 f5 z5 => ?_
    simp only [List.set_cons_zero] at r5
    have f5x := f5 (· = x) rfl
    have hnx : ¬ SliceV.at t x := fun hh => by have := hn x hh; omega
    refine ⟨((xdd.trans hx) _).trans f5x fun z _ hz => hz, t, ⟨r5, hb.fr f5x fun z hz e => hnx (e ▸ hz), hnx, ?_⟩, fun z hz => .inr (by have := hn z hz; omega)⟩
    simp only [List.length_append, List.length_cons, tk, dk]; omega
  have hrc : rcell ((j : Int), b) = [.int .i64 (j : Int), .int .i64 b.sw, .int .i64 b.pr, .int .i64 b.ad, .int .i64 b.po, .int .i64 b.opr, .int .i64 b.oad, .int .i64 b.opo, .bool b.st] := rfl
  have elem : ∀ {W : World} {q : Nat}, Row W q [.int .i64 (j : Int), .int .i64 b.sw, .int .i64 b.pr, .int .i64 b.ad, .int .i64 b.po, .int .i64 b.opr, .int .i64 b.oad, .int .i64 b.opo, .bool b.st] → SlN 9 rcell W ⟨some ⟨q, 0, none⟩, 1, 1⟩ [((j : Int), b)] := by
    intro W q hq
    exact (BufN.row (xs := [((j : Int), b)]) (by simpa [rcell] using hq)).sl rcell_len (by omega)
  refine ⟨?_, ?_⟩
  · refine AppSl_bufN rcell_len BufN.nil hsa rfl (by omega) rcell_one (by simp only [List.length_nil, tk]; omega) (by simp only [List.length_nil, tk]; omega) fun t4 w4 b4 f4 n4 => ?_
    have y4 : Ext w3.drew.drew w4 := f4.new fun z _ ⟨o, hz⟩ => by cases hz
    have n4' : ∀ z, SliceV.at t4 z → w3.drew.heap.size ≤ z := fun z hz => by
      rcases n4 z hz with ⟨o, h4⟩ | h4
      · cases h4
      · exact h4
    rw [List.nil_append] at b4
    simp only [true_and, List.getElem?_cons_zero, List.getElem?_cons_succ, (rpd.ext y4).cell, (h3d.ext y4).hd.cell]
    refine Al_e fun q w5 r5 e5 z5 f5 => ?_
    have y5 := y4.trans f5
    simp only [true_and, List.getElem?_cons_zero, (h3d.ext y5).hd.cell]
    refine AppSl_bufN rcell_len (b4.ext f5) (elem r5) rfl (by omega) rcell_one (by simp only [List.length_singleton, tk]; omega) (by simp only [List.length_singleton, tk]; omega) fun t6 w6 b6 f6 n6 => ?_
    have z4 := y4.size
    have z5' := y5.size
    have y6 : Ext w3.drew.drew w6 := y5.new f6 fun z hz h => by have := n4' z h; omega
    have n6' : ∀ z, SliceV.at t6 z → w3.drew.heap.size ≤ z := fun z hz => by
      rcases n6 z hz with h6 | h6
      · exact n4' z h6
      · omega
    simp only [true_and, List.getElem?_cons_zero, (h3d.ext y6).hd.cell]
    refine AppSl_bufN rcell_len b6 (hsb.ext y6) rfl (by omega) rcell_one (by simp only [List.length_append, List.length_singleton, tk, dk]; omega) (by simp only [List.length_append, List.length_singleton, tk, dk]; omega) fun t8 w8 b8 f8 n8 => ?_
    have z6 := y6.size
    have y8 : Ext w3.drew.drew w8 := y6.new f8 fun z hz h => by have := n6' z h; omega
    refine fin w8 t8 y8 (by simpa using b8) fun z hz => ?_
    rcases n8 z hz with h8 | h8
    · exact n6' z h8
    · omega
  · refine Al_e fun q w5 r5 e5 z5 f5 => ?_
    simp only [true_and, List.getElem?_cons_zero, (h3d.ext f5).hd.cell]
    refine AppSl_bufN rcell_len BufN.nil (hsa.ext f5) rfl (by omega) rcell_one (by simp only [List.length_nil, tk]; omega) (by simp only [List.length_nil, tk]; omega) fun t4 w4 b4 f4 n4 => ?_
    have y4 : Ext w3.drew.drew w4 := f5.new f4 fun z _ ⟨o, hz⟩ => by cases hz
    have y54 : Ext w5 w4 := f4.new fun z _ ⟨o, hz⟩ => by cases hz
    have z5' := f5.size
    have n4' : ∀ z, SliceV.at t4 z → w5.heap.size ≤ z := fun z hz => by
      rcases n4 z hz with ⟨o, h4⟩ | h4
      · cases h4
      · exact h4
    rw [List.nil_append] at b4
    simp only [true_and, List.getElem?_cons_zero, List.getElem?_cons_succ, (rpd.ext y4).cell, (h3d.ext y4).hd.cell]
    refine AppSl_bufN rcell_len b4 (elem (r5.ext y54)) rfl (by omega) rcell_one (by simp only [List.length_singleton, tk]; omega) (by simp only [List.length_singleton, tk]; omega) fun t6 w6 b6 f6 n6 => ?_
    have z4 := y4.size
    have z54 := y54.size
    have y6 : Ext w3.drew.drew w6 := y4.new f6 fun z hz h => by have := n4' z h; omega
    have n6' : ∀ z, SliceV.at t6 z → w3.drew.heap.size ≤ z := fun z hz => by
      rcases n6 z hz with h6 | h6
      · have := n4' z h6; omega
      · omega
    simp only [true_and, List.getElem?_cons_zero, (h3d.ext y6).hd.cell]
    refine AppSl_bufN rcell_len b6 (hsb.ext y6) rfl (by omega) rcell_one (by simp only [List.length_append, List.length_singleton, tk, dk]; omega) (by simp only [List.length_append, List.length_singleton, tk, dk]; omega) fun t8 w8 b8 f8 n8 => ?_
    have z6 := y6.size
    have y8 : Ext w3.drew.drew w8 := y6.new f8 fun z hz h => by have := n6' z h; omega
    refine fin w8 t8 y8 (by simpa using b8) fun z hz => ?_
    rcases n8 z hz with h8 | h8
    · exact n6' z h8
    · omega
end
end Go.Proofs
