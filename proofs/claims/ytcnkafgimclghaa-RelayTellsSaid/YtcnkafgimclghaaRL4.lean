import Derived.Test.YtcnkafgimclghaaRL3
/- Fragments; and the document's reading. -/
namespace Go.Proofs
open Gp Gp.V4
set_option maxRecDepth 100000
set_option maxHeartbeats 1000000

theorem andNot7 {n : Nat} (hn : n < 2 ^ 62) : andNotI .i64 (n : Int) 7 = ((n / 8 * 8 : Nat) : Int) := by
  unfold andNotI
  have h1 : (BitVec.ofInt (IntKind.bits .i64) (n : Int)).toNat = n := by rw [bits64, BitVec.toNat_ofInt]; omega
  have h2 : (~~~(BitVec.ofInt (IntKind.bits .i64) 7)).toNat = (2 ^ 61 - 1) <<< 3 := by rw [bits64]; rfl
  rw [BitVec.toNat_and, h1, h2]
  have e : n &&& ((2 ^ 61 - 1) <<< 3) = n / 8 * 8 := by
    rw [show n / 8 * 8 = (n >>> 3) <<< 3 by rw [Nat.shiftLeft_eq, Nat.shiftRight_eq_div_pow]]
    refine Nat.eq_of_testBit_eq fun i => ?_
    rw [Nat.testBit_and, Nat.testBit_shiftLeft, Nat.testBit_shiftLeft, Nat.testBit_two_pow_sub_one, Nat.testBit_shiftRight]
    by_cases h3 : i ≥ 3
    · rw [decide_eq_true h3, Bool.true_and, Bool.true_and, show 3 + (i - 3) = i by omega]
      by_cases h6 : i - 3 < 61
      · rw [decide_eq_true h6, Bool.and_true]
      · have : n.testBit i = false := Nat.testBit_lt_two_pow (Nat.lt_of_lt_of_le hn (Nat.pow_le_pow_right (by omega) (by omega)))
        rw [this]; rfl
    · rw [decide_eq_false h3]; simp
  rw [e, wrap_i64 (by omega) (by omega)]

def fragP (l : List UInt8) (w' : World) (nx off : Int) (r : SliceV) : Prop := nx = (num l 0 1 : Int) ∧ off = ((num l 2 2 / 8 * 8 : Nat) : Int) ∧ SlB w' r (l.drop 8)

theorem frag_ok {w : World} {s : SliceV} {l : List UInt8} (hs : SlB w s l) (hl : l.length ≤ 2 ^ 40) :
    c_v6_ParseFrag s w fun nx off _ _ r e w' => e = (if l.length < 8 then 3 else 0) ∧ (e = 0 → fragP l w' nx off r) ∧ Ext w w' := by
  apply ok_v6_ParseFrag
  unfold s_v6_ParseFrag
  have hlen := hs.1
  refine Al_e fun a w1 r1 e1 z1 f1 => ?_
  by_cases h8 : (s.len : Int) < 8
  · rw [decide_eq_true h8, cond_true]
    refine StN_full r1 rfl rfl fun w5 r5 f5 _ => ?_
    simp only [Ld_eq, List.getElem?_cons_zero, List.getElem?_cons_succ, LdV_some, dec_int, dec_bool, add_mk, Nat.zero_add, Nat.add_zero, r5.cell]
    rw [if_pos (by omega)]
    exact ⟨rfl, fun h0 => by omega, f1.new (f5 (· = a) rfl) fun y hy e => by omega⟩
  rw [decide_eq_false h8, cond_false, if_neg (by omega)]
  refine cm_be_Get (get_ok (hs.ext f1) (by omega) 2 2) ?_
  rintro n2 e2 w2 ⟨hw, hg2⟩
  subst hw
  have hn2 := getR_in (at_ := 2) (k := 2) (by omega) (by omega) hg2
  refine cm_be_Get (get_ok (hs.ext f1) (by omega) 4 4) ?_
  rintro n4 e4 w3 ⟨hw, hg4⟩
  subst hw
  subst hn2
  have l2 : num l 2 2 < 65536 := field_num_lt l 2
  refine byte_at (hs.ext f1) (i := 0) (by omega) fun a0 c0 k0 => ?_
  simp only [Ld_eq, LdV_some, dec_int, add_mk, Nat.zero_add, Nat.add_zero, c0]
  refine Al_e fun d w4 r4 e4 z4 f4 => ?_
  refine StN_full r4 rfl rfl fun w5 r5 f5 z5 => ?_
  have f5d := f5 (· = d) rfl
  have z1' := f1.size
  have x5 : Ext w3 w5.drew := (f4.new f5d fun y hy e => by omega).trans (Ext.drew w5)
  have r5d := r5.drew
  simp only [List.getElem?_cons_zero, List.getElem?_cons_succ, LdV_some, dec_int, dec_bool, add_mk, Nat.zero_add, Nat.add_zero, r5d.cell]
  refine SubSl_bytes ((hs.ext f1).ext x5) (by omega) (by omega) (by omega) fun s6 hs6 _ => ?_
  rw [Int.toNat_natCast, hlen, List.take_of_length_le (Nat.le_refl _)] at hs6
  have hs6 : SlB w5.drew s6 (l.drop 8) := hs6
  refine cm_slices_Clone_byte_byte (clone_ok hs6 (by rw [List.length_drop]; omega)) ?_
  rintro r7 w7 ⟨b7, _, f7, n7⟩
  simp only [true_and, List.getElem?_cons_zero, List.getElem?_cons_succ, (r5d.ext f7).cell]
  have x7 := x5.trans f7
  have z7 := x5.size
  refine StN_full (r1.ext x7) rfl rfl fun w8 r8 f8 z8 => ?_
  have f8a := f8 (· = a) rfl
  simp only [List.getElem?_cons_zero, List.getElem?_cons_succ, LdV_some, dec_int, dec_bool, r8.cell]
  have k1 : IntKind.i64.wrap (l[0].toNat : Int) = (num l 0 1 : Int) := by
    have := l[0].toNat_lt
    rw [wrap_i64 (by omega) (by omega), num_one (by omega)]
  have fin : fragP l w8 (IntKind.i64.wrap (l[0].toNat : Int)) (andNotI .i64 ((num l 2 2 : Nat) : Int) 7) r7 := ⟨k1, andNot7 (by omega), SlB.of_buf (b7.fr f8a fun c hc e => by have := n7 c hc; omega)⟩
  have fx : Ext w w8 := (f1.trans x7).new f8a fun y hy e => by omega
  first | exact ⟨fin, fx⟩ | exact ⟨fun _ => fin, fx⟩ | exact ⟨rfl, fun _ => fin, fx⟩ | exact ⟨by trivial, fun _ => fin, fx⟩

theorem rfrag_ok {w : World} {s : SliceV} {l : List UInt8} (hs : SlB w s l) (hl : l.length ≤ 2 ^ 40) :
    c_ref06_ParseFrag s w fun nx off _ _ r e w' => e = (if l.length < 8 then 3 else 0) ∧ (e = 0 → fragP l w' nx off r ∧ NewS w r) ∧ Ext w w' := by
  apply ok_ref06_ParseFrag
  unfold s_ref06_ParseFrag
  have hlen := hs.1
  refine Al_e fun a w1 r1 e1 z1 f1 => ?_
  by_cases h8 : (s.len : Int) < 8
  · rw [decide_eq_true h8, cond_true]
    refine StN_full r1 rfl rfl fun w5 r5 f5 _ => ?_
    simp only [Ld_eq, List.getElem?_cons_zero, List.getElem?_cons_succ, LdV_some, dec_int, dec_bool, add_mk, Nat.zero_add, Nat.add_zero, r5.cell]
    rw [if_pos (by omega)]
    exact ⟨rfl, fun h0 => by omega, f1.new (f5 (· = a) rfl) fun y hy e => by omega⟩
  rw [decide_eq_false h8, cond_false, if_neg (by omega)]
  refine cm_ref01_Get (rget_ok (hs.ext f1) (by omega) 2 2) ?_
  rintro n2 e2 w2 ⟨hw, hg2⟩
  subst hw
  have hn2 := getR_in (at_ := 2) (k := 2) (by omega) (by omega) hg2
  refine cm_ref01_Get (rget_ok (hs.ext f1) (by omega) 4 4) ?_
  rintro n4 e4 w3 ⟨hw, hg4⟩
  subst hw
  subst hn2
  have l2 : num l 2 2 < 65536 := field_num_lt l 2
  have hs3 := (hs.ext f1).ext (Ext.drew w3)
  refine byte_at hs3 (i := 0) (by omega) fun a0 c0 k0 => ?_
  simp only [Ld_eq, LdV_some, dec_int, add_mk, Nat.zero_add, Nat.add_zero, c0]
  refine ⟨by omega, by omega, ?_⟩
  refine SubSl_bytes hs3 (by omega) (by omega) (by omega) fun s6 hs6 _ => ?_
  rw [Int.toNat_natCast, hlen, List.take_of_length_le (Nat.le_refl _)] at hs6
  have hs6 : SlB w3.drew s6 (l.drop 8) := hs6
  refine AppSl_bytes (l := []) Buf.nil hs6 (by simp; omega) fun s7 w7 b7 f7 n7 _ => ?_
  rw [List.nil_append] at b7
  have x7 : Ext w3.drew w7 := f7.new fun y hy ⟨o, hb⟩ => by cases hb
  have n7' : ∀ b, SliceV.at s7 b → w3.heap.size ≤ b := fun b hb => by
    rcases n7 b hb with ⟨o, g⟩ | g
    · cases g
    · exact g
  refine ⟨cell_ext c0 x7, ?_⟩
  have x37 := (Ext.drew w3).trans x7
  have z1' := f1.size
  refine StN_full (r1.ext x37) rfl rfl fun w8 r8 f8 z8 => ?_
  have f8a := f8 (· = a) rfl
  simp only [List.getElem?_cons_zero, List.getElem?_cons_succ, LdV_some, dec_int, dec_bool, r8.cell]
  have k1 : IntKind.i64.wrap (l[0].toNat : Int) = (num l 0 1 : Int) := by
    have := l[0].toNat_lt
    rw [wrap_i64 (by omega) (by omega), num_one (by omega)]
  have k2 : IntKind.i64.wrap ((IntKind.i64.wrap (Int.tdiv ((num l 2 2 : Nat) : Int) 8)) * 8) = ((num l 2 2 / 8 * 8 : Nat) : Int) := by
    rw [Int.tdiv_eq_ediv_of_nonneg (by omega), wrap_i64 (n := ((num l 2 2 : Nat) : Int) / 8) (by omega) (by omega), wrap_i64 (by omega) (by omega)]
    omega
  have fin : fragP l w8 (IntKind.i64.wrap (l[0].toNat : Int)) (IntKind.i64.wrap ((IntKind.i64.wrap (Int.tdiv ((num l 2 2 : Nat) : Int) 8)) * 8)) s7 := ⟨k1, k2, SlB.of_buf (b7.fr f8a fun c hc e => by have := n7' c hc; omega)⟩
  have fx : Ext w w8 := (f1.trans x37).new f8a fun y hy e => by omega
  have fin := And.intro fin (show NewS w s7 from Buf_new b7 fun c hc => by have := n7' c hc; omega)
  first | exact ⟨fin, fx⟩ | exact ⟨fun _ => fin, fx⟩ | exact ⟨rfl, fun _ => fin, fx⟩ | exact ⟨by trivial, fun _ => fin, fx⟩

theorem inner_ok {w : World} {q : Pk6} {t0 t1 t2 t3 p0 p1 p2 p3 p4 p5 p6 p7 p8 p9 p10 p11 p12 p13 p14 p15 p16 p17 p18 p19 p20 p21 p22 p23 p24 p25 p26 p27 p28 p29 p30 p31 : Int} {s : SliceV} (h : Pk6L w q t0 t1 t2 t3 [p0, p1, p2, p3, p4, p5, p6, p7, p8, p9, p10, p11, p12, p13, p14, p15] [p16, p17, p18, p19, p20, p21, p22, p23, p24, p25, p26, p27, p28, p29, p30, p31] s) (hl : q.data.length ≤ 2 ^ 40) :
    c_relay_inner t0 t1 t2 t3 p0 p1 p2 p3 p4 p5 p6 p7 p8 p9 p10 p11 p12 p13 p14 p15 p16 p17 p18 p19 p20 p21 p22 p23 p24 p25 p26 p27 p28 p29 p30 p31 s w fun r e w' => e = innerE q ∧ (e = 0 → SlB w' r (innerL q)) ∧ Ext w w' := by
  obtain ⟨⟨rfl, rfl, rfl, rfl⟩, hsrc, hdst, hdata⟩ := h
  apply ok_relay_inner
  unfold s_relay_inner
  refine Al_e fun a w1 r1 e1 z1 f1 => ?_
  intro J
  have hJ : ∀ W, Ext w W → innerE q = 4 → J W := fun W hx he => by
    simp only [J]
    exact ⟨he.symm, fun h0 => by omega, hx⟩
  clear_value J
  simp -zeta only [Ld_eq, List.getElem?_cons_zero, List.getElem?_cons_succ, LdV_some, dec_slice, dec_int, add_mk, Nat.zero_add, r1.cell]
  by_cases h4 : q.nx = 4
  · rw [show (q.nx == 4) = true by simpa using h4, cond_true]
    have e4 : innerE q = 0 := by unfold innerE; rw [if_pos h4]
    refine ⟨e4.symm, fun _ => ?_, f1⟩
    unfold innerL; rw [if_pos h4]
    exact hdata.ext f1
  · rw [show (q.nx == 4) = false by simpa using h4, cond_false]
    by_cases h44 : q.nx = 44
    · rw [show (q.nx == 44) = true by simpa using h44, cond_true]
      refine cm_v6_ParseFrag (frag_ok (hdata.ext f1) hl) ?_
      rintro nx off id more r e w2 ⟨he, hp, f2⟩
      refine Al_f rfl rfl fun d w3 r3 e3 z3 f3 => ?_
      have x3 := f1.trans (f2.trans f3)
      by_cases h8 : q.data.length < 8
      · rw [if_pos h8] at he
        subst he
        have e4 : innerE q = 3 := by unfold innerE; rw [if_neg h4, if_pos h44, if_pos h8]
        rw [show ((3 : Int) != 0) = true from rfl, cond_true]
        exact ⟨e4.symm, fun h0 => by omega, x3⟩
      · rw [if_neg h8] at he
        subst he
        obtain ⟨rfl, rfl, hb⟩ := hp rfl
        rw [show ((0 : Int) != 0) = false from rfl, cond_false]
        intro J19
        have j19t : num q.data 2 2 / 8 * 8 = 0 ∧ num q.data 0 1 = 4 → J19 true := fun hx => by
          simp only [J19, cond_true]
          have e4 : innerE q = 0 := by unfold innerE; rw [if_neg h4, if_pos h44, if_neg h8, if_pos hx]
          refine ⟨e4.symm, fun _ => ?_, x3⟩
          unfold innerL; rw [if_neg h4]
          exact hb.ext f3
        have j19f : ¬ (num q.data 2 2 / 8 * 8 = 0 ∧ num q.data 0 1 = 4) → J19 false := fun hx => by
          simp only [J19, cond_false]
          exact hJ _ x3 (by unfold innerE; rw [if_neg h4, if_pos h44, if_neg h8, if_neg hx])
        clear_value J19
        simp only [List.getElem?_cons_zero, List.getElem?_cons_succ, LdV_some, dec_int, add_mk, Nat.zero_add, r3.cell]
        by_cases g1 : num q.data 2 2 / 8 * 8 = 0
        · rw [show ((((num q.data 2 2 / 8 * 8 : Nat)) : Int) == 0) = true by rw [beq_iff_eq]; omega, cond_true]
          by_cases g2 : num q.data 0 1 = 4
          · rw [show (((num q.data 0 1 : Nat) : Int) == 4) = true by rw [beq_iff_eq]; omega]
            exact j19t ⟨g1, g2⟩
          · rw [show (((num q.data 0 1 : Nat) : Int) == 4) = false by rw [beq_eq_false_iff_ne]; omega]
            exact j19f fun hx => g2 hx.2
        · rw [show ((((num q.data 2 2 / 8 * 8 : Nat)) : Int) == 0) = false by rw [beq_eq_false_iff_ne]; omega, cond_false]
          exact j19f fun hx => g1 hx.1
    · rw [show (q.nx == 44) = false by simpa using h44, cond_false]
      exact hJ w1 f1 (by unfold innerE; rw [if_neg h4, if_neg h44])

theorem rinner_ok {w : World} {q : Pk6} {t0 t1 t2 t3 p0 p1 p2 p3 p4 p5 p6 p7 p8 p9 p10 p11 p12 p13 p14 p15 p16 p17 p18 p19 p20 p21 p22 p23 p24 p25 p26 p27 p28 p29 p30 p31 : Int} {s : SliceV} (h : Pk6L w q t0 t1 t2 t3 [p0, p1, p2, p3, p4, p5, p6, p7, p8, p9, p10, p11, p12, p13, p14, p15] [p16, p17, p18, p19, p20, p21, p22, p23, p24, p25, p26, p27, p28, p29, p30, p31] s) (hl : q.data.length ≤ 2 ^ 40) :
    c_ref30_inner t0 t1 t2 t3 p0 p1 p2 p3 p4 p5 p6 p7 p8 p9 p10 p11 p12 p13 p14 p15 p16 p17 p18 p19 p20 p21 p22 p23 p24 p25 p26 p27 p28 p29 p30 p31 s w fun r e w' => e = innerE q ∧ (e = 0 → SlB w' r (innerL q) ∧ ∀ x, r.a = some x → s.a = some x ∨ w.heap.size ≤ x.block) ∧ Ext w w' := by
  obtain ⟨⟨rfl, rfl, rfl, rfl⟩, hsrc, hdst, hdata⟩ := h
  apply ok_ref30_inner
  unfold s_ref30_inner
  refine Al_e fun a w1 r1 e1 z1 f1 => ?_
  simp -zeta only [Ld_eq, List.getElem?_cons_zero, List.getElem?_cons_succ, LdV_some, dec_slice, dec_int, add_mk, Nat.zero_add, r1.cell]
  by_cases h4 : q.nx = 4
  · rw [show (q.nx == 4) = true by simpa using h4, cond_true]
    have e4 : innerE q = 0 := by unfold innerE; rw [if_pos h4]
    refine ⟨e4.symm, fun _ => ?_, f1⟩
    unfold innerL; rw [if_pos h4]
    exact ⟨hdata.ext f1, fun x hx => .inl hx⟩
  · rw [show (q.nx == 4) = false by simpa using h4, cond_false]
    by_cases h44 : q.nx = 44
    · rw [show (q.nx != 44) = false by simpa using h44, cond_false]
      refine cm_ref06_ParseFrag (rfrag_ok (hdata.ext f1) hl) ?_
      rintro nx off id more r e w2 ⟨he, hp, f2⟩
      refine Al_f rfl rfl fun d w3 r3 e3 z3 f3 => ?_
      have x3 := f1.trans (f2.trans f3)
      by_cases h8 : q.data.length < 8
      · rw [if_pos h8] at he
        subst he
        have e4 : innerE q = 3 := by unfold innerE; rw [if_neg h4, if_pos h44, if_pos h8]
        rw [show ((3 : Int) != 0) = true from rfl, cond_true]
        exact ⟨e4.symm, fun h0 => by omega, x3⟩
      · rw [if_neg h8] at he
        subst he
        obtain ⟨⟨rfl, rfl, hb⟩, hnw⟩ := hp rfl
        rw [show ((0 : Int) != 0) = false from rfl, cond_false]
        intro J19
        have j19f : num q.data 2 2 / 8 * 8 = 0 ∧ num q.data 0 1 = 4 → J19 false := fun hx => by
          simp only [J19, cond_false]
          have e4 : innerE q = 0 := by unfold innerE; rw [if_neg h4, if_pos h44, if_neg h8, if_pos hx]
          refine ⟨e4.symm, fun _ => ?_, x3⟩
          unfold innerL; rw [if_neg h4]
          exact ⟨hb.ext f3, fun x hx => .inr (by have := hnw x hx; have := f1.size; omega)⟩
        have j19t : ¬ (num q.data 2 2 / 8 * 8 = 0 ∧ num q.data 0 1 = 4) → J19 true := fun hx => by
          simp only [J19, cond_true]
          have e4 : innerE q = 4 := by unfold innerE; rw [if_neg h4, if_pos h44, if_neg h8, if_neg hx]
          exact ⟨e4.symm, fun h0 => by omega, x3⟩
        clear_value J19
        simp only [List.getElem?_cons_zero, List.getElem?_cons_succ, LdV_some, dec_int, add_mk, Nat.zero_add, r3.cell]
        by_cases g1 : num q.data 2 2 / 8 * 8 = 0
        · rw [show ((((num q.data 2 2 / 8 * 8 : Nat)) : Int) != 0) = false by rw [bne_eq_false_iff_eq]; omega, cond_false]
          by_cases g2 : num q.data 0 1 = 4
          · rw [show (((num q.data 0 1 : Nat) : Int) != 4) = false by rw [bne_eq_false_iff_eq]; omega]
            exact j19f ⟨g1, g2⟩
          · rw [show (((num q.data 0 1 : Nat) : Int) != 4) = true by rw [bne_iff_ne]; omega]
            exact j19t fun hx => g2 hx.2
        · rw [show ((((num q.data 2 2 / 8 * 8 : Nat)) : Int) != 0) = true by rw [bne_iff_ne]; omega, cond_true]
          exact j19t fun hx => g1 hx.1
    · rw [show (q.nx != 44) = true by simpa using h44, cond_true]
      have e4 : innerE q = 4 := by unfold innerE; rw [if_neg h4, if_neg h44]
      exact ⟨e4.symm, fun h0 => by omega, f1⟩
end Go.Proofs
