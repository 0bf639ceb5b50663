import Derived.Test.YtcnkafgimclghaaRL2
/- Packets of version six: read. -/
namespace Go.Proofs
open Gp Gp.V4
set_option maxRecDepth 100000
set_option maxHeartbeats 1000000

theorem SlB_pre {w : World} {s : SliceV} {l : List UInt8} (h : SlB w s l) {n : Nat} (hn : n ≤ l.length) : CellsO w s.a (n * 1) (bytesV (l.take n)) := by
  cases ha : s.a with
  | none =>
    have := h.empty ha
    subst this
    simp only [List.length_nil] at hn
    obtain rfl : n = 0 := by omega
    rfl
  | some a =>
    have hc := h.2.1
    rw [ha] at hc
    refine ⟨by rw [bytesV_len, List.length_take]; omega, fun j hj => ?_⟩
    rw [bytesV_len, List.length_take] at hj
    rw [hc.2 j (by rw [bytesV_len]; omega)]
    unfold bytesV
    rw [List.getElem?_map, List.getElem?_map, List.getElem?_take, if_pos (by omega)]

theorem cut40 (l : List UInt8) (n : Nat) : (l.take (min l.length (40 + n))).drop 40 = (l.drop 40).take n := by
  rw [List.drop_take]
  by_cases h : 40 + n ≤ l.length
  · rw [Nat.min_eq_right h]; congr 1; omega
  · rw [Nat.min_eq_left (by omega), List.take_of_length_le (by rw [List.length_drop]; omega), List.take_of_length_le (by rw [List.length_drop]; omega)]

theorem read6_ok {w : World} {s : SliceV} {l : List UInt8} (hs : SlB w s l) (hl : l.length ≤ 2 ^ 40) (b : Bool) :
    c_v6_read s b w fun t0 t1 t2 t3 r0 r1 r2 r3 r4 r5 r6 r7 r8 r9 r10 r11 r12 r13 r14 r15 r16 r17 r18 r19 r20 r21 r22 r23 r24 r25 r26 r27 r28 r29 r30 r31 s' e w' => e = read6E l b ∧ (e = 0 → Pk6L w' (field6 l) t0 t1 t2 t3 [r0, r1, r2, r3, r4, r5, r6, r7, r8, r9, r10, r11, r12, r13, r14, r15] [r16, r17, r18, r19, r20, r21, r22, r23, r24, r25, r26, r27, r28, r29, r30, r31] s' ∧ NewS w s') ∧ Ext w w' := by
  apply ok_v6_read
  unfold s_v6_read
  have hlen := hs.1
  refine Al_e fun a w1 r1 e1 z1 f1 => ?_
  by_cases h40 : (s.len : Int) < 40
  · have er : read6E l b = 3 := by unfold read6E; rw [if_pos (by omega)]
    rw [decide_eq_true h40, cond_true]
    refine StN_full r1 rfl rfl fun w5 r5 f5 _ => ?_
    simp only [Ld_eq, List.getElem?_cons_zero, List.getElem?_cons_succ, LdV_some, dec_slice, dec_int, add_mk, Nat.zero_add, Nat.add_zero, r5.cell]
    exact ⟨er.symm, fun h0 => by omega, f1.new (f5 (· = a) rfl) fun y hy e => by omega⟩
  rw [decide_eq_false h40, cond_false]
  have e40 : ¬ l.length < 40 := by omega
  refine cm_be_Get (get_ok (hs.ext f1) (by omega) 0 4) ?_
  rintro n0 e0 w2 ⟨hw, hg0⟩
  subst hw
  have hn0 := getR_in (at_ := 0) (k := 4) (by omega) (by omega) hg0
  refine cm_be_Get (get_ok (hs.ext f1) (by omega) 4 2) ?_
  rintro n4 e4 w3 ⟨hw, hg4⟩
  subst hw
  have hn4 := getR_in (at_ := 4) (k := 2) (by omega) (by omega) hg4
  subst hn0 hn4
  have l0 : num l 0 4 < 2 ^ 32 := num_lt (by omega)
  have l4 : num l 4 2 < 65536 := field_num_lt l 4
  refine ⟨by omega, ?_⟩
  rw [show (28 : Int) = ((28 : Nat) : Int) from rfl, shr_i64 (by omega)]
  by_cases hv : num l 0 4 / 268435456 = 6
  · have : ((((num l 0 4 / 2 ^ 28 : Nat)) : Int) != 6) = false := by rw [bne_eq_false_iff_eq]; omega
    rw [this, cond_false]
    intro J
    have jt : read6E l b = 3 → J true := by
      intro er
      simp only [J, cond_true]
      refine StN_full r1 rfl rfl fun w5 r5 f5 _ => ?_
      simp only [Ld_eq, List.getElem?_cons_zero, List.getElem?_cons_succ, LdV_some, dec_slice, dec_int, add_mk, Nat.zero_add, Nat.add_zero, r5.cell]
      exact ⟨er.symm, fun h0 => by omega, f1.new (f5 (· = a) rfl) fun y hy e => by omega⟩
    have jf : read6E l b = 0 → J false := by
      intro er
      simp only [J, cond_false]
      refine ⟨by omega, ?_⟩
      have hs1 := (hs.ext f1).ext (Ext.drew w3)
      refine byte_at hs1 (i := 6) (by omega) fun a6 c6 k6 => ?_
      simp only [Ld_eq, LdV_some, dec_int, add_mk, Nat.zero_add, Nat.add_zero, c6]
      refine byte_at hs1 (i := 7) (by omega) fun a7 c7 k7 => ?_
      simp only [LdV_some, dec_int, c7]
      refine Al_e fun d w4 r4 e4 z4 f4 => ?_
      refine ⟨cell_ext c7 f4, cell_ext c6 f4, ?_⟩
      refine StN_full r4 rfl rfl fun w5 r5 f5 z5 => ?_
      have f5d := f5 (· = d) rfl
      have zd : w3.drew.heap.size = w3.heap.size := rfl
      have z1' := f1.size
      have x5 : Ext w3 w5 := ((Ext.drew w3).trans f4).new f5d fun y hy e => by omega
      have x5d := x5.trans (Ext.drew w5)
      have hs5 := (hs.ext f1).ext x5d
      have r5d := r5.drew
      simp only [add_mk, Nat.zero_add]
      refine SubArr16 ?_
      refine SubSl_bytes hs5 (by omega) (by omega) (by omega) fun s6 hs6 _ => ?_
      rw [Int.toNat_natCast, hlen, List.take_of_length_le (Nat.le_refl _)] at hs6
      have hs6 : SlB w5.drew s6 (l.drop 8) := hs6
      have ls6 := hs6.1
      rw [List.length_drop] at ls6
      have k16 : ((l.drop 8).take 16).length = 16 := by rw [List.length_take, List.length_drop]; omega
      obtain ⟨xa0, xa1, xa2, xa3, xa4, xa5, xa6, xa7, xa8, xa9, xa10, xa11, xa12, xa13, xa14, xa15, hb1, hv1⟩ := ex16 k16
      refine CopySl_row (m := 16) (vs := bytesV ((l.drop 8).take 16)) (by show min (_ : Nat) _ = _; omega) (SlB_pre hs6 (by rw [List.length_drop]; omega)) r5d (by rw [bytesV_len, k16]; simp) (bytesV_one _) fun w6 r6 f6 => ?_
      rw [hv1] at r6
      have r6 : Row w6 d [.int .i64 (andI .i64 (shrI .i64 (num l 0 4 : Int) 20) 255), .int .i64 (andI .i64 (num l 0 4 : Int) 1048575), .int .i64 (IntKind.i64.wrap (l[6].toNat : Int)), .int .i64 (IntKind.i64.wrap (l[7].toNat : Int)), .int .u8 xa0, .int .u8 xa1, .int .u8 xa2, .int .u8 xa3, .int .u8 xa4, .int .u8 xa5, .int .u8 xa6, .int .u8 xa7, .int .u8 xa8, .int .u8 xa9, .int .u8 xa10, .int .u8 xa11, .int .u8 xa12, .int .u8 xa13, .int .u8 xa14, .int .u8 xa15, .int .u8 0, .int .u8 0, .int .u8 0, .int .u8 0, .int .u8 0, .int .u8 0, .int .u8 0, .int .u8 0, .int .u8 0, .int .u8 0, .int .u8 0, .int .u8 0, .int .u8 0, .int .u8 0, .int .u8 0, .int .u8 0, .slice none 0 0] := r6
      have x6 : Ext w3 w6.drew := (x5d.new f6 fun y hy e => by omega).trans (Ext.drew w6)
      have zd6 : w6.drew.heap.size = w6.heap.size := rfl
      refine SubArr16 ?_
      refine SubSl_bytes ((hs.ext f1).ext x6) (by omega) (by omega) (by omega) fun s7 hs7 _ => ?_
      rw [Int.toNat_natCast, hlen, List.take_of_length_le (Nat.le_refl _)] at hs7
      have hs7 : SlB w6.drew s7 (l.drop 24) := hs7
      have ls7 := hs7.1
      rw [List.length_drop] at ls7
      have q16 : ((l.drop 24).take 16).length = 16 := by rw [List.length_take, List.length_drop]; omega
      obtain ⟨ya0, ya1, ya2, ya3, ya4, ya5, ya6, ya7, ya8, ya9, ya10, ya11, ya12, ya13, ya14, ya15, hb2, hv2⟩ := ex16 q16
      refine CopySl_row (m := 16) (vs := bytesV ((l.drop 24).take 16)) (by show min (_ : Nat) _ = _; omega) (SlB_pre hs7 (by rw [List.length_drop]; omega)) r6.drew (by rw [bytesV_len, q16]; simp) (bytesV_one _) fun w7 r7 f7 => ?_
      rw [hv2] at r7
      have r7 : Row w7 d [.int .i64 (andI .i64 (shrI .i64 (num l 0 4 : Int) 20) 255), .int .i64 (andI .i64 (num l 0 4 : Int) 1048575), .int .i64 (IntKind.i64.wrap (l[6].toNat : Int)), .int .i64 (IntKind.i64.wrap (l[7].toNat : Int)), .int .u8 xa0, .int .u8 xa1, .int .u8 xa2, .int .u8 xa3, .int .u8 xa4, .int .u8 xa5, .int .u8 xa6, .int .u8 xa7, .int .u8 xa8, .int .u8 xa9, .int .u8 xa10, .int .u8 xa11, .int .u8 xa12, .int .u8 xa13, .int .u8 xa14, .int .u8 xa15, .int .u8 ya0, .int .u8 ya1, .int .u8 ya2, .int .u8 ya3, .int .u8 ya4, .int .u8 ya5, .int .u8 ya6, .int .u8 ya7, .int .u8 ya8, .int .u8 ya9, .int .u8 ya10, .int .u8 ya11, .int .u8 ya12, .int .u8 ya13, .int .u8 ya14, .int .u8 ya15, .slice none 0 0] := r7
      have x7 : Ext w3 w7 := x6.new f7 fun y hy e => by omega
      have ehi : (if (s.len : Int) < IntKind.i64.wrap (40 + (num l 4 2 : Int)) then (s.len : Int) else IntKind.i64.wrap (40 + (num l 4 2 : Int))) = ((min l.length (40 + num l 4 2) : Nat) : Int) := by
        rw [wrap_i64 (by omega) (by omega)]
        split <;> omega
      rw [ehi]
      refine SubSl_bytes ((hs.ext f1).ext x7) (by omega) (by omega) (by omega) fun s8 hs8 _ => ?_
      rw [Int.toNat_natCast, show Int.toNat 40 = 40 from rfl, cut40] at hs8
      refine cm_slices_Clone_byte_byte (clone_ok hs8 (by rw [List.length_take, List.length_drop]; omega)) ?_
      rintro r9 w9 ⟨b9, _, f9, n9⟩
      have r9r := r7.ext f9
      refine St_row r9r rfl (by simp) fun w10 r10 f10 z10 => ?_
      simp only [List.set_cons_zero, List.set_cons_succ] at r10
      have f10d := f10 (· = d) rfl
      have z7 := x7.size
      have zf6 := f6.size
      have zf7 := f7.size
      have hz5 : w5.drew.heap.size = w5.heap.size := rfl
      have b10 := b9.fr f10d fun c hc e => by have := n9 c hc; omega
      have x10 : Ext w3 w10 := (x7.trans f9).new f10d fun y hy e => by omega
      simp only [List.getElem?_cons_zero, List.getElem?_cons_succ, LdV_some, dec_slice, dec_int, r10.cell]
      refine StN_full (r1.ext x10) rfl rfl fun w11 r11 f11 z11 => ?_
      have f11a := f11 (· = a) rfl
      simp only [List.getElem?_cons_zero, List.getElem?_cons_succ, LdV_some, dec_slice, dec_int, r11.cell]
      have zf9 := f9.size
      refine ⟨er.symm, fun _ => ⟨⟨⟨?_, ?_, ?_, ?_⟩, hb1.symm, hb2.symm, ?_⟩, Buf_new b9 fun c hc => by have := n9 c hc; omega⟩, (f1.trans x10).new f11a fun y hy e => by omega⟩
      · rw [show (20 : Int) = ((20 : Nat) : Int) from rfl, shr_i64 (by omega), show (255 : Int) = ((2 ^ 8 - 1 : Nat) : Int) from rfl, and_i64 (by omega) (by decide), and_low]; rfl
      · rw [show (1048575 : Int) = ((2 ^ 20 - 1 : Nat) : Int) from rfl, and_i64 (by omega) (by decide), and_low]; rfl
      · have := l[6].toNat_lt
        rw [wrap_i64 (by omega) (by omega)]
        show _ = ((num l 6 1 : Nat) : Int)
        rw [num_one (by omega)]
      · have := l[7].toNat_lt
        rw [wrap_i64 (by omega) (by omega)]
        show _ = ((num l 7 1 : Nat) : Int)
        rw [num_one (by omega)]
      · exact SlB.of_buf (b10.fr f11a fun c hc e => by have := n9 c hc; omega)
    clear_value J
    rw [wrap_i64 (by omega) (by omega)]
    by_cases hbig : ((num l 4 2 : Nat) : Int) > (s.len : Int) - 40
    · rw [decide_eq_true hbig, cond_true]
      cases b with
      | true => exact jf (by unfold read6E; rw [if_neg e40, if_neg (by omega), if_neg (by simp)])
      | false => exact jt (by unfold read6E; rw [if_neg e40, if_neg (by omega), if_pos ⟨rfl, by omega⟩])
    · rw [decide_eq_false hbig, cond_false]
      exact jf (by unfold read6E; rw [if_neg e40, if_neg (by omega), if_neg (by omega)])
  · have er : read6E l b = 4 := by unfold read6E; rw [if_neg e40, if_pos hv]
    have : ((((num l 0 4 / 2 ^ 28 : Nat)) : Int) != 6) = true := by
      rw [bne_iff_ne]; omega
    rw [this, cond_true]
    refine StN_full r1 rfl rfl fun w5 r5 f5 _ => ?_
    simp only [Ld_eq, List.getElem?_cons_zero, List.getElem?_cons_succ, LdV_some, dec_slice, dec_int, add_mk, Nat.zero_add, Nat.add_zero, r5.cell]
    exact ⟨er.symm, fun h0 => by omega, f1.new (f5 (· = a) rfl) fun y hy e => by omega⟩

theorem quoted6_ok {w : World} {s : SliceV} {l : List UInt8} (hs : SlB w s l) (hl : l.length ≤ 2 ^ 40) :
    c_v6_Quoted s w fun t0 t1 t2 t3 r0 r1 r2 r3 r4 r5 r6 r7 r8 r9 r10 r11 r12 r13 r14 r15 r16 r17 r18 r19 r20 r21 r22 r23 r24 r25 r26 r27 r28 r29 r30 r31 s' e w' => e = read6E l true ∧ (e = 0 → Pk6L w' (field6 l) t0 t1 t2 t3 [r0, r1, r2, r3, r4, r5, r6, r7, r8, r9, r10, r11, r12, r13, r14, r15] [r16, r17, r18, r19, r20, r21, r22, r23, r24, r25, r26, r27, r28, r29, r30, r31] s' ∧ NewS w s') ∧ Ext w w' := by
  apply ok_v6_Quoted
  unfold s_v6_Quoted
  refine Al_e fun a w1 r1 e1 z1 f1 => ?_
  refine cm_v6_read (read6_ok (hs.ext f1) hl true) ?_
  rintro u0 u1 u2 u3 v0 v1 v2 v3 v4 v5 v6 v7 v8 v9 v10 v11 v12 v13 v14 v15 v16 v17 v18 v19 v20 v21 v22 v23 v24 v25 v26 v27 v28 v29 v30 v31 s' e w2 ⟨he, hp, f2⟩
  refine StN_full (r1.ext f2) rfl rfl fun w3 r3 f3 _ => ?_
  have f3a := f3 (· = a) rfl
  have z1' := f1.size
  have z2 := f2.size
  simp only [Ld_eq, List.getElem?_cons_zero, List.getElem?_cons_succ, LdV_some, dec_slice, dec_int, add_mk, Nat.zero_add, Nat.add_zero, r3.cell]
  refine ⟨he, fun h0 => ?_, (f1.trans f2).new f3a fun y hy e => by omega⟩
  obtain ⟨h, hn⟩ := hp h0
  exact ⟨⟨h.n, h.src, h.dst, h.data.fr f3a fun x hx _ e => by have := hn x hx; omega⟩, fun x hx => by have := hn x hx; omega⟩
end Go.Proofs
