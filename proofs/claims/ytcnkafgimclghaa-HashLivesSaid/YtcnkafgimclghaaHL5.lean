import Derived.Test.YtcnkafgimclghaaHL4
/- The document's table is given a key. -/
namespace Go.Proofs
open Gp Gp.Hash
set_option maxRecDepth 100000

section
variable {w w' : World} {x : Nat} {s : SliceV} {most : Int} {L : List KN} {M : ByteArray → Option Int}

theorem del_len (L : List KN) (k : ByteArray) : (del L k).length ≤ L.length := by rw [del_eq]; exact List.length_filter_le _ _

theorem rput18_ok (h : RT w x s most L) (hr : Rep L M) (hl : L.length ≤ 1000) (k : ByteArray) (n : Int) :
    c_ref18_Table_Put (some ⟨x, 0, none⟩) k n w fun e w' =>
      (e = 0 ∧ (M k = none → (L.length : Int) < most) ∧ Fr8 w w' (· = x) ∧ ∃ s', RT w' x s' most (putAt (del L k) k n) ∧ ∀ b, SliceV.at s' b → w.heap.size ≤ b) ∨
      (e = 7 ∧ M k = none ∧ most ≤ (L.length : Int) ∧ Ext w w') := by
  apply ok_ref18_Table_Put
  unfold s_ref18_Table_Put
  have hlen := h.buf.len
  refine cm_ref18_Table_Get (rget18_ok h hr hl k) ?_
  rintro r4 r5 w1 ⟨rfl, rfl, hw⟩
  subst hw
  have hd := h.ext (Ext.drew w1)
  have hxl := h.hd.lt
  have zd : w1.drew.heap.size = w1.heap.size := rfl
  intro J7
  have hJ7 : (M k = none → (L.length : Int) < most) → J7 false w1.drew := by
    intro hroom
    simp -zeta only [J7, cond_false]
    refine cm_ref18_Table_Delete (rdel18_ok hd hr hl k) ?_
    rintro r10 w2 ⟨_, f2, s2, h2, n2⟩
    have hDl := del_len L k
    generalize hDe : del L k = D at h2 hDl ⊢
    have hlen2 := h2.buf.len
    have z2 := f2.size
    refine LoopP_inv (fun st W => W = w2 ∧ ∃ j : Nat, j ≤ D.length ∧ st.1 = (j : Int) ∧ ∀ y ∈ D.take j, strLt y.1 k = true) (fun st _ => D.length - st.1.toNat) ⟨rfl, 0, by omega, rfl, by simp⟩ ?_
    rintro ⟨j', ⟨⟩⟩ W ⟨rfl, j, hj, rfl, hp⟩ next hnext
    intro J15
    have hgo : (∀ y ∈ D.take (j + 1), strLt y.1 k = true) → j < D.length → J15 true := by
      intro hp' hlt
      simp only [J15, cond_true]
      rw [wrap_i64 (by omega) (by omega)]
      exact hnext _ _ ⟨rfl, j + 1, by omega, by simp, hp'⟩ (by simp only; omega)
    have hend : D.takeWhile (fun y => strLt y.1 k) = D.take j → D.dropWhile (fun y => strLt y.1 k) = D.drop j → J15 false := by
      intro e1 e2
      have hput : putAt D k n = D.take j ++ (k, n) :: D.drop j := by unfold putAt; rw [e1, e2]
      simp -zeta only [J15, cond_false]
      intro J17
      have hJ17 : ∀ w', ((M k = none → (L.length : Int) < most) ∧ Fr8 w1 w' (· = x) ∧ ∃ s', RT w' x s' most (D.take j ++ (k, n) :: D.drop j) ∧ ∀ b, SliceV.at s' b → w1.heap.size ≤ b) → J17 w' := by
        intro w' hx
        simp only [J17]
        refine .inl ⟨by trivial, ?_⟩
        rw [hput]
        exact hx
      clear_value J17
      have h2d := h2.ext (Ext.drew W)
      have hsl := h2d.buf.sl eR_len (by omega)
      have zd2 : W.drew.heap.size = W.heap.size := rfl
      simp only [ex_some, Ld_eq, List.getElem?_cons_zero, LdV_some, dec_slice, h2d.hd.cell]
      refine SubSl_N eR_len hsl (by omega) (by omega) (by omega) fun sa hsa => ?_
      refine SubSl_N eR_len hsl (by omega) (by omega) (by omega) fun sb hsb => ?_
      rw [show Int.toNat 0 = 0 from rfl, List.drop_zero, Int.toNat_natCast] at hsa
      rw [Int.toNat_natCast, Int.toNat_natCast, hlen2, List.take_of_length_le (Nat.le_refl _)] at hsb
      have tk : (D.take j).length = j := by rw [List.length_take]; omega
      have dk : (D.drop j).length = D.length - j := List.length_drop
      have fin : ∀ V (t : SliceV), Ext W.drew V → BufN 2 eR V t (D.take j ++ (k, n) :: D.drop j) → (∀ z, SliceV.at t z → W.heap.size ≤ z) → St V ⟨x, 0, none⟩ (.slice t.a t.len t.cap) fun w12 => J17 w12 := by
        intro V t hx hb hn
        have hV := h2d.ext hx
        refine St_row hV.hd rfl (by simp) fun w5 r5 f5 z5 => ?_
        simp only [List.set_cons_zero] at r5
        have f5x := f5 (· = x) rfl
        have hnx : ¬ SliceV.at t x := fun hh => by have := hn x hh; omega
        refine hJ17 w5 ⟨hroom, ?_, t, ⟨r5, hb.fr f5x fun z hz e => hnx (e ▸ hz), hnx⟩, fun z hz => by have := hn z hz; omega⟩
        exact ((((Ext.drew w1) (· = x)).trans f2 fun z _ hz => hz).trans (((Ext.drew W).trans hx) _) fun z _ hz => hz).trans f5x fun z _ hz => hz
      have elem : ∀ {V : World} {q : Nat}, Row V q [.string k, .int .i64 n] → SlN 2 eR V ⟨some ⟨q, 0, none⟩, 1, 1⟩ [(k, n)] := by
        intro V q hq
        exact (BufN.row (xs := [((k, n) : KN)]) (by simpa [eR] using hq)).sl eR_len (by omega)
      refine ⟨?_, ?_⟩
      · refine AppSl_bufN eR_len BufN.nil hsa rfl (by omega) eR_one (by simp only [List.length_nil, tk]; omega) (by simp only [List.length_nil, tk]; omega) fun t4 w4 b4 f4 n4 => ?_
        have y4 : Ext W.drew w4 := f4.new fun z _ ⟨o, hz⟩ => by cases hz
        have n4' : ∀ z, SliceV.at t4 z → W.heap.size ≤ z := fun z hz => by
          rcases n4 z hz with ⟨o, h4⟩ | h4
          · cases h4
          · exact h4
        rw [List.nil_append] at b4
        simp only [true_and, List.getElem?_cons_zero, (h2d.ext y4).hd.cell]
        refine Al_e fun q w5 r5 e5 z5 f5 => ?_
        have y5 := y4.trans f5
        simp only [true_and, List.getElem?_cons_zero, (h2d.ext y5).hd.cell]
        refine AppSl_bufN eR_len (b4.ext f5) (elem r5) rfl (by omega) eR_one (by simp only [List.length_singleton, tk]; omega) (by simp only [List.length_singleton, tk]; omega) fun t6 w6 b6 f6 n6 => ?_
        have z4 := y4.size
        have z5' := y5.size
        have y6 : Ext W.drew w6 := y5.new f6 fun z hz h => by have := n4' z h; omega
        have n6' : ∀ z, SliceV.at t6 z → W.heap.size ≤ z := fun z hz => by
          rcases n6 z hz with h6 | h6
          · exact n4' z h6
          · omega
        simp only [true_and, List.getElem?_cons_zero, (h2d.ext y6).hd.cell]
        refine AppSl_bufN eR_len b6 (hsb.ext y6) rfl (by omega) eR_one (by simp only [List.length_append, List.length_singleton, tk, dk]; omega) (by simp only [List.length_append, List.length_singleton, tk, dk]; omega) fun t8 w8 b8 f8 n8 => ?_
        have z6 := y6.size
        have y8 : Ext W.drew w8 := y6.new f8 fun z hz h => by have := n6' z h; omega
        refine fin w8 t8 y8 (by simpa using b8) fun z hz => ?_
        rcases n8 z hz with h8 | h8
        · exact n6' z h8
        · omega
      · refine Al_e fun q w5 r5 e5 z5 f5 => ?_
        simp only [true_and, List.getElem?_cons_zero, (h2d.ext f5).hd.cell]
        refine AppSl_bufN eR_len BufN.nil (hsa.ext f5) rfl (by omega) eR_one (by simp only [List.length_nil, tk]; omega) (by simp only [List.length_nil, tk]; omega) fun t4 w4 b4 f4 n4 => ?_
        have y4 : Ext W.drew w4 := f5.new f4 fun z _ ⟨o, hz⟩ => by cases hz
        have y54 : Ext w5 w4 := f4.new fun z _ ⟨o, hz⟩ => by cases hz
        have z5' := f5.size
        have n4' : ∀ z, SliceV.at t4 z → w5.heap.size ≤ z := fun z hz => by
          rcases n4 z hz with ⟨o, h4⟩ | h4
          · cases h4
          · exact h4
        rw [List.nil_append] at b4
        simp only [true_and, List.getElem?_cons_zero, (h2d.ext y4).hd.cell]
        refine AppSl_bufN eR_len b4 (elem (r5.ext y54)) rfl (by omega) eR_one (by simp only [List.length_singleton, tk]; omega) (by simp only [List.length_singleton, tk]; omega) fun t6 w6 b6 f6 n6 => ?_
        have z4 := y4.size
        have z54 := y54.size
        have y6 : Ext W.drew w6 := y4.new f6 fun z hz h => by have := n4' z h; omega
        have n6' : ∀ z, SliceV.at t6 z → W.heap.size ≤ z := fun z hz => by
          rcases n6 z hz with h6 | h6
          · have := n4' z h6; omega
          · omega
        simp only [true_and, List.getElem?_cons_zero, (h2d.ext y6).hd.cell]
        refine AppSl_bufN eR_len b6 (hsb.ext y6) rfl (by omega) eR_one (by simp only [List.length_append, List.length_singleton, tk, dk]; omega) (by simp only [List.length_append, List.length_singleton, tk, dk]; omega) fun t8 w8 b8 f8 n8 => ?_
        have z6 := y6.size
        have y8 : Ext W.drew w8 := y6.new f8 fun z hz h => by have := n6' z h; omega
        refine fin w8 t8 y8 (by simpa using b8) fun z hz => ?_
        rcases n8 z hz with h8 | h8
        · exact n6' z h8
        · omega
    clear_value J15
    simp only [ex_some, Ld_eq, List.getElem?_cons_zero, LdV_some, dec_slice, h2.hd.cell]
    by_cases hlt : j < D.length
    · have hlt' : ((j : Int) < (s2.len : Int)) := by omega
      have hL : D[j]? = some D[j] := List.getElem?_eq_getElem hlt
      have htk : D.take (j + 1) = D.take j ++ [D[j]] := List.take_succ_eq_append_getElem hlt
      have hsn := takeWhile_snoc (p := fun y : KN => strLt y.1 k) hlt hp
      generalize D[j] = y at hL htk hsn
      obtain ⟨aa, ha, hc⟩ := h2.cells hL
      have k0 := hc 0 _ rfl
      rw [Nat.add_zero] at k0
      simp only [hlt', decide_true, cond_true, ex_some, LdV_some, dec_str, AtIx, ha, Int.toNat_natCast, k0]
      refine ⟨by first | trivial | omega, by first | trivial | omega, ?_⟩
      cases hq : strLt y.1 k with
      | true =>
        refine hgo (fun z hz => ?_) hlt
        rw [htk] at hz
        rcases List.mem_append.1 hz with hz | hz
        · exact hp z hz
        · have : z = y := by simpa using hz
          rw [this]; exact hq
      | false => exact hend (hsn hq).1 (hsn hq).2
    · have hlt' : ¬ ((j : Int) < (s2.len : Int)) := by omega
      simp only [hlt', decide_false, cond_false]
      have : j = D.length := by omega
      subst this
      rw [List.take_length] at hp
      have := takeWhile_all (p := fun y : KN => strLt y.1 k) hp
      exact hend this.1 this.2
  cases hm : M k with
  | some m =>
    simp only [Option.isSome_some, Bool.not_true, cond_false]
    exact hJ7 fun e => by rw [hm] at e; cases e
  | none =>
    simp -zeta only [Option.isSome_none, Bool.not_false, cond_true, ex_some, Ld_eq, List.getElem?_cons_zero, List.getElem?_cons_succ, LdV_some, dec_slice, dec_int, add_mk, Nat.zero_add, hd.hd.cell]
    by_cases hfull : most ≤ (L.length : Int)
    · have : ((s.len : Int) ≥ most) := by omega
      simp only [this, decide_true]
      simp only [J7, cond_true]
      exact .inr ⟨by trivial, by trivial, hfull, Ext.drew w1⟩
    · have hnf : ¬ ((s.len : Int) ≥ most) := by omega
      simp -zeta only [hnf, decide_false]
      exact hJ7 fun _ => by omega
end
end Go.Proofs
