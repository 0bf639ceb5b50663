import Derived.Test.YtcnkafgimclghaaRL4
/- The document's reading of packets of version six. -/
namespace Go.Proofs
open Gp Gp.V4
set_option maxRecDepth 100000
set_option maxHeartbeats 1000000

theorem num_two {l : List UInt8} {i : Nat} (h : i + 1 < l.length) : num l i 2 = l[i].toNat * 256 + l[i + 1].toNat := by
  unfold num
  rw [List.drop_eq_getElem_cons (show i < l.length by omega), List.drop_eq_getElem_cons h, List.take_succ_cons, List.take_succ_cons]
  simp [numBE]

theorem num_four {l : List UInt8} (h : 3 < l.length) : num l 0 4 = ((l[0].toNat * 256 + l[1].toNat) * 256 + l[2].toNat) * 256 + l[3].toNat := by
  unfold num
  rw [List.drop_eq_getElem_cons (show 0 < l.length by omega), List.drop_eq_getElem_cons (show 0 + 1 < l.length by omega), List.drop_eq_getElem_cons (show 0 + 1 + 1 < l.length by omega), List.drop_eq_getElem_cons (show 0 + 1 + 1 + 1 < l.length by omega), List.take_succ_cons, List.take_succ_cons, List.take_succ_cons, List.take_succ_cons]
  simp [numBE]

def zs (n : Nat) : List Value := List.replicate n (.int .u8 0)

theorem byte_old {w W : World} {s : SliceV} {l : List UInt8} (h : SlB w s l) (hx : Ext w W) {i : Nat} (hi : i < l.length) {K : Addr → Prop} (hK : ∀ a, W.cell? (a) = some (.int .u8 (l[i].toNat : Int)) → (a.block < w.heap.size) → K a) : AtIx s 1 (i : Int) K := by
  have hsl := h.1
  obtain ⟨a, ha, hc⟩ := h.at_ (List.getElem?_eq_getElem hi)
  exact ⟨a, ha, by omega, by omega, hK _ (by rw [Int.toNat_natCast, Nat.mul_one]; exact cell_ext hc hx) (by rw [Int.toNat_natCast, Nat.mul_one]; exact cell_lt hc)⟩

theorem efl_num {a b c d : Nat} (hb : b < 256) (hc : c < 256) (hd : d < 256) : IntKind.i64.wrap ((IntKind.i64.wrap ((IntKind.i64.wrap ((IntKind.i64.wrap (Int.tmod (b : Int) 16)) * 65536)) + (IntKind.i64.wrap ((IntKind.i64.wrap (c : Int)) * 256)))) + (IntKind.i64.wrap (d : Int))) = (((((a * 256 + b) * 256 + c) * 256 + d) % 1048576 : Nat) : Int) := by
  rw [Int.tmod_eq_emod_of_nonneg (by omega), wrap_i64 (n := (b : Int) % 16) (by omega) (by omega), wrap_i64 (n := (c : Int)) (by omega) (by omega), wrap_i64 (n := (d : Int)) (by omega) (by omega), wrap_i64 (n := (b : Int) % 16 * 65536) (by omega) (by omega), wrap_i64 (n := (c : Int) * 256) (by omega) (by omega), wrap_i64 (n := (b : Int) % 16 * 65536 + (c : Int) * 256) (by omega) (by omega), wrap_i64 (by omega) (by omega)]
  omega

theorem drop_zs {α : Type} {A B C Y Z R : List α} {x : α} (h : Y = x :: Z) : A ++ B ++ (Y ++ (C ++ R)).drop 1 = (A ++ B ++ Z) ++ C ++ R := by
  subst h; simp

theorem rread6_ok {w : World} {s : SliceV} {l : List UInt8} (hs : SlB w s l) (hl : l.length ≤ 2 ^ 40) (b : Bool) :
    c_ref06_read s b w fun t0 t1 t2 t3 r0 r1 r2 r3 r4 r5 r6 r7 r8 r9 r10 r11 r12 r13 r14 r15 r16 r17 r18 r19 r20 r21 r22 r23 r24 r25 r26 r27 r28 r29 r30 r31 s' e w' => e = read6E l b ∧ (e = 0 → Pk6L w' (field6 l) t0 t1 t2 t3 [r0, r1, r2, r3, r4, r5, r6, r7, r8, r9, r10, r11, r12, r13, r14, r15] [r16, r17, r18, r19, r20, r21, r22, r23, r24, r25, r26, r27, r28, r29, r30, r31] s' ∧ NewS w s') ∧ Ext w w' := by
  apply ok_ref06_read
  unfold s_ref06_read
  have hlen := hs.1
  refine Al_e fun a w1 r1 e1 z1 f1 => ?_
  by_cases h40 : (s.len : Int) < 40
  · have er : read6E l b = 3 := by unfold read6E; rw [if_pos (by omega)]
    rw [decide_eq_true h40, cond_true]
    refine StN_full r1 rfl rfl fun w5 r5 f5 _ => ?_
    simp only [Ld_eq, List.getElem?_cons_zero, List.getElem?_cons_succ, LdV_some, dec_slice, dec_int, add_mk, Nat.zero_add, Nat.add_zero, r5.cell]
    exact ⟨er.symm, fun h0 => by omega, f1.new (f5 (· = a) rfl) fun y hy e => by omega⟩
  rw [decide_eq_false h40, cond_false]
  have e40 : ¬ l.length < 40 := by omega
  have z1' := f1.size
  have fd := f1.trans (Ext.drew w1)
  have hsd := hs.ext fd
  have r1d := r1.drew
  have n2 : num l 4 2 = l[4].toNat * 256 + l[5].toNat := num_two (by omega)
  have n4 := num_four (l := l) (by omega)
  have b0 := l[0].toNat_lt
  have b1 := l[1].toNat_lt
  have b2 := l[2].toNat_lt
  have b3 := l[3].toNat_lt
  have b4 := l[4].toNat_lt
  have b5 := l[5].toNat_lt
  have b6 := l[6].toNat_lt
  have b7 := l[7].toNat_lt
  refine byte_at hsd (i := 4) (by omega) fun a4 c4 k4 => ?_
  simp -zeta only [Ld_eq, LdV_some, dec_int, add_mk, Nat.zero_add, Nat.add_zero, c4]
  refine byte_at hsd (i := 5) (by omega) fun a5 c5 k5 => ?_
  simp -zeta only [LdV_some, dec_int, c5]
  refine byte_at hsd (i := 0) (by omega) fun a0 c0 k0 => ?_
  simp -zeta only [LdV_some, dec_int, c0]
  refine ⟨by omega, ?_⟩
  have e16 : IntKind.u8.wrap (Int.tdiv (l[0].toNat : Int) 16) = ((l[0].toNat / 16 : Nat) : Int) := by
    rw [Int.tdiv_eq_ediv_of_nonneg (by omega), IntKind.wrap_u8]; omega
  have esz : IntKind.i64.wrap ((IntKind.i64.wrap ((IntKind.i64.wrap (l[4].toNat : Int)) * 256)) + (IntKind.i64.wrap (l[5].toNat : Int))) = ((num l 4 2 : Nat) : Int) := by
    rw [wrap_i64 (n := (l[4].toNat : Int)) (by omega) (by omega), wrap_i64 (n := (l[5].toNat : Int)) (by omega) (by omega), wrap_i64 (n := (l[4].toNat : Int) * 256) (by omega) (by omega), wrap_i64 (by omega) (by omega)]
    omega
  simp -zeta only [e16, esz]
  by_cases hv : num l 0 4 / 268435456 = 6
  · rw [show ((((l[0].toNat / 16 : Nat)) : Int) != 6) = false by rw [bne_eq_false_iff_eq]; omega, cond_false]
    intro J
    have jt : read6E l b = 3 → J true := by
      intro er
      simp only [J, cond_true]
      refine StN_full r1d rfl rfl fun w5 r5 f5 _ => ?_
      simp only [List.getElem?_cons_zero, List.getElem?_cons_succ, LdV_some, dec_slice, dec_int, r5.cell]
      exact ⟨er.symm, fun h0 => by omega, fd.new (f5 (· = a) rfl) fun y hy e => by omega⟩
    have jf : read6E l b = 0 → J false := by
      intro er
      simp only [J, cond_false]
      have fdd := fd.trans (Ext.drew w1.drew)
      have hs1 := hs.ext fdd
      refine byte_at hs1 (i := 6) (by omega) fun a6 c6 k6 => ?_
      simp only [LdV_some, dec_int, c6]
      refine byte_at hs1 (i := 7) (by omega) fun a7 c7 k7 => ?_
      simp only [LdV_some, dec_int, c7]
      refine Al_e fun d w4 r4 e4 z4 f4 => ?_
      refine ⟨cell_ext c7 f4, cell_ext c6 f4, ?_⟩
      refine StN_full r4 rfl rfl fun w5 r5 f5 z5 => ?_
      have f5d := f5 (· = d) rfl
      have zd : w1.drew.drew.heap.size = w1.heap.size := rfl
      have x5 : Ext w1 w5.drew := ((((Ext.drew w1).trans (Ext.drew w1.drew)).trans f4).new f5d fun y hy e => by omega).trans (Ext.drew w5)
      have hs5 := (hs.ext f1).ext x5
      have r5d := r5.drew
      refine byte_at hs5 (i := 0) (by omega) fun q0 d0 _ => ?_
      simp only [LdV_some, dec_int, add_mk, Nat.zero_add, Nat.add_zero, d0]
      refine ⟨by omega, ?_⟩
      refine byte_at hs5 (i := 1) (by omega) fun q1 d1 _ => ?_
      simp only [LdV_some, dec_int, d1]
      refine ⟨by omega, ?_⟩
      have etr : IntKind.i64.wrap ((IntKind.i64.wrap ((IntKind.i64.wrap (Int.tmod (l[0].toNat : Int) 16)) * 16)) + (IntKind.i64.wrap (IntKind.u8.wrap (Int.tdiv (l[1].toNat : Int) 16)))) = ((num l 0 4 / 1048576 % 256 : Nat) : Int) := by
        rw [Int.tmod_eq_emod_of_nonneg (by omega), Int.tdiv_eq_ediv_of_nonneg (by omega), IntKind.wrap_u8, wrap_i64 (n := (l[0].toNat : Int) % 16) (by omega) (by omega), wrap_i64 (n := (l[0].toNat : Int) % 16 * 16) (by omega) (by omega), wrap_i64 (n := (l[1].toNat : Int) / 16 % 256) (by omega) (by omega), wrap_i64 (by omega) (by omega)]
        omega
      rw [etr]
      refine St_row r5d rfl (by simp) fun w6 r6 f6 z6 => ?_
      simp only [List.set_cons_zero] at r6
      have f6d := f6 (· = d) rfl
      have zd5 : w5.drew.heap.size = w5.heap.size := rfl
      have x6 : Ext w1 w6.drew := (x5.new f6d fun y hy e => by omega).trans (Ext.drew w6)
      have hs6 := (hs.ext f1).ext x6
      have r6d := r6.drew
      refine byte_at hs6 (i := 1) (by omega) fun q1 d1 _ => ?_
      simp only [LdV_some, dec_int, d1]
      refine ⟨by omega, ?_⟩
      refine byte_at hs6 (i := 2) (by omega) fun q2 d2 _ => ?_
      simp only [LdV_some, dec_int, d2]
      refine byte_at hs6 (i := 3) (by omega) fun q3 d3 _ => ?_
      simp only [LdV_some, dec_int, d3]
      have efl : IntKind.i64.wrap ((IntKind.i64.wrap ((IntKind.i64.wrap ((IntKind.i64.wrap (Int.tmod (l[1].toNat : Int) 16)) * 65536)) + (IntKind.i64.wrap ((IntKind.i64.wrap (l[2].toNat : Int)) * 256)))) + (IntKind.i64.wrap (l[3].toNat : Int))) = ((num l 0 4 % 1048576 : Nat) : Int) := by
        rw [n4]; exact efl_num b1 b2 b3
      rw [efl]
      refine St_row r6d rfl (by simp) fun w7 r7 f7 z7 => ?_
      simp only [List.set_cons_zero, List.set_cons_succ] at r7
      have f7d := f7 (· = d) rfl
      have zd6 : w6.drew.heap.size = w6.heap.size := rfl
      have x7 : Ext w1 w7 := x6.new f7d fun y hy e => by omega
      have e6 : IntKind.i64.wrap (l[6].toNat : Int) = ((num l 6 1 : Nat) : Int) := by rw [wrap_i64 (by omega) (by omega), num_one (by omega)]
      have e7 : IntKind.i64.wrap (l[7].toNat : Int) = ((num l 7 1 : Nat) : Int) := by rw [wrap_i64 (by omega) (by omega), num_one (by omega)]
      rw [e6, e7] at r7
      have k16 : ((l.drop 8).take 16).length = 16 := by rw [List.length_take, List.length_drop]; omega
      have q16 : ((l.drop 24).take 16).length = 16 := by rw [List.length_take, List.length_drop]; omega
      have kV : (bytesV ((l.drop 8).take 16)).length = 16 := by rw [bytesV_len, k16]
      have qV : (bytesV ((l.drop 24).take 16)).length = 16 := by rw [bytesV_len, q16]
      obtain ⟨xa0, xa1, xa2, xa3, xa4, xa5, xa6, xa7, xa8, xa9, xa10, xa11, xa12, xa13, xa14, xa15, hb1, hv1⟩ := ex16 k16
      obtain ⟨ya0, ya1, ya2, ya3, ya4, ya5, ya6, ya7, ya8, ya9, ya10, ya11, ya12, ya13, ya14, ya15, hb2, hv2⟩ := ex16 q16
      generalize hA : ([.int .i64 ((num l 0 4 / 1048576 % 256 : Nat) : Int), .int .i64 ((num l 0 4 % 1048576 : Nat) : Int), .int .i64 ((num l 6 1 : Nat) : Int), .int .i64 ((num l 7 1 : Nat) : Int)] : List Value) = A
      have lA : A.length = 4 := by rw [← hA]; rfl
      have byteAt : ∀ i, i < 16 → (bytesV ((l.drop 8).take 16))[i]? = some (.int .u8 ((l[8 + i]?).getD 0).toNat) ∧ (bytesV ((l.drop 24).take 16))[i]? = some (.int .u8 ((l[24 + i]?).getD 0).toNat) := by
        intro i hi
        unfold bytesV
        rw [List.getElem?_map, List.getElem?_map, List.getElem?_take, List.getElem?_take, if_pos hi, if_pos hi, List.getElem?_drop, List.getElem?_drop, List.getElem?_eq_getElem (show 8 + i < l.length by omega), List.getElem?_eq_getElem (show 24 + i < l.length by omega)]
        exact ⟨rfl, rfl⟩
      refine LoopP_inv (fun st W => ∃ i : Nat, i ≤ 16 ∧ st.1 = (i : Int) ∧ Ext w1 W ∧ Row W d (A ++ (bytesV ((l.drop 8).take 16)).take i ++ (zs (16 - i) ++ ((bytesV ((l.drop 24).take 16)).take i ++ (zs (16 - i) ++ [Value.slice none 0 0]))))) (fun st _ => 16 - st.1.toNat) ⟨0, by omega, rfl, x7, by rw [← hA]; exact r7⟩ ?_
      rintro ⟨x, ⟨⟩⟩ W ⟨i, hi, hxi, hx, hr⟩ next hnext
      simp only at hxi
      subst hxi
      dsimp -zeta only
      by_cases hlt : (i : Int) < 16
      · rw [decide_eq_true hlt, cond_true]
        have hi16 : i < 16 := by omega
        have xd := hx.trans (Ext.drew W)
        have hsW := (hs.ext f1).ext xd
        obtain ⟨g1, g2⟩ := byteAt i hi16
        rw [List.getElem?_eq_getElem (show 8 + i < l.length by omega), Option.getD_some] at g1
        rw [List.getElem?_eq_getElem (show 24 + i < l.length by omega), Option.getD_some] at g2
        rw [wrap_i64 (n := 8 + (i : Int)) (by omega) (by omega), wrap_i64 (n := 24 + (i : Int)) (by omega) (by omega), show (8 + (i : Int)) = ((8 + i : Nat) : Int) by omega, show (24 + (i : Int)) = ((24 + i : Nat) : Int) by omega]
        refine byte_at hsW (i := 8 + i) (by omega) fun u1 v1 _ => ?_
        simp only [LdV_some, dec_int, v1]
        refine byte_old (hs.ext f1) xd (i := 24 + i) (by omega) fun u2 v2 kk2 => ?_
        simp only [LdV_some, dec_int, v2, Int.toNat_natCast, Nat.mul_one]
        refine ⟨by omega, by omega, ?_⟩
        have hrd := hr.drew
        have lz : ∀ n, (zs n).length = n := fun n => by simp [zs]
        have zsd : zs (16 - i) = .int .u8 0 :: zs (16 - (i + 1)) := by
          unfold zs
          rw [show 16 - i = (16 - (i + 1)) + 1 by omega, List.replicate_succ]
        refine St_row hrd rfl (by simp only [List.length_append, List.length_take, lz, kV, qV, lA, List.length_cons, List.length_nil]; omega) fun w8 r8 f8 z8 => ?_
        have h1 := set_mid A (bytesV ((l.drop 8).take 16)) (zs (16 - i) ++ ((bytesV ((l.drop 24).take 16)).take i ++ (zs (16 - i) ++ [Value.slice none 0 0]))) g1 (by rw [List.length_append, lz]; omega)
        rw [lA] at h1
        rw [h1] at r8
        have f8d := f8 (· = d) rfl
        have hzW := hx.size
        have hdW : W.drew.heap.size = W.heap.size := rfl
        have hsz7 : w1.heap.size ≤ d := by omega
        have x8 : Ext w1 w8 := xd.new f8d fun y hy e => by omega
        refine ⟨?_, by omega, by omega, ?_⟩
        · refine cell_fr v2 f8d fun e => by omega
        · have e8 : A ++ (bytesV ((l.drop 8).take 16)).take (i + 1) ++ (zs (16 - i) ++ ((bytesV ((l.drop 24).take 16)).take i ++ (zs (16 - i) ++ [Value.slice none 0 0]))).drop 1 = (A ++ (bytesV ((l.drop 8).take 16)).take (i + 1) ++ zs (16 - (i + 1))) ++ (bytesV ((l.drop 24).take 16)).take i ++ (zs (16 - i) ++ [Value.slice none 0 0]) := by
            exact drop_zs zsd
          rw [e8] at r8
          have lA2 : (A ++ (bytesV ((l.drop 8).take 16)).take (i + 1) ++ zs (16 - (i + 1))).length = 20 := by
            simp only [List.length_append, List.length_take, lz, kV, lA]; omega
          refine St_row r8 rfl (by rw [List.length_append, List.length_append, lA2, List.length_append, lz, List.length_take, qV]; simp only [List.length_cons, List.length_nil]; omega) fun w9 r9 f9 z9 => ?_
          have h2 := set_mid (A ++ (bytesV ((l.drop 8).take 16)).take (i + 1) ++ zs (16 - (i + 1))) (bytesV ((l.drop 24).take 16)) (zs (16 - i) ++ [Value.slice none 0 0]) g2 (by rw [List.length_append, lz]; omega)
          rw [lA2] at h2
          rw [h2] at r9
          rw [wrap_i64 (by omega) (by omega)]
          refine hnext _ _ ⟨i + 1, by omega, by simp, x8.new (f9 (· = d) rfl) fun y hy e => by omega, ?_⟩ (by simp only; omega)
          have e9 : (zs (16 - i) ++ [Value.slice none 0 0]).drop 1 = zs (16 - (i + 1)) ++ [Value.slice none 0 0] := by rw [zsd]; rfl
          rw [e9] at r9
          simpa only [List.append_assoc] using r9
      · rw [decide_eq_false hlt, cond_false]
        obtain rfl : i = 16 := by omega
        have t1 : (bytesV ((l.drop 8).take 16)).take 16 = bytesV ((l.drop 8).take 16) := List.take_of_length_le (by rw [kV]; omega)
        have t2 : (bytesV ((l.drop 24).take 16)).take 16 = bytesV ((l.drop 24).take 16) := List.take_of_length_le (by rw [qV]; omega)
        rw [t1, t2, hv1, hv2, ← hA] at hr
        have hr : Row W d [.int .i64 ((num l 0 4 / 1048576 % 256 : Nat) : Int), .int .i64 ((num l 0 4 % 1048576 : Nat) : Int), .int .i64 ((num l 6 1 : Nat) : Int), .int .i64 ((num l 7 1 : Nat) : Int), .int .u8 xa0, .int .u8 xa1, .int .u8 xa2, .int .u8 xa3, .int .u8 xa4, .int .u8 xa5, .int .u8 xa6, .int .u8 xa7, .int .u8 xa8, .int .u8 xa9, .int .u8 xa10, .int .u8 xa11, .int .u8 xa12, .int .u8 xa13, .int .u8 xa14, .int .u8 xa15, .int .u8 ya0, .int .u8 ya1, .int .u8 ya2, .int .u8 ya3, .int .u8 ya4, .int .u8 ya5, .int .u8 ya6, .int .u8 ya7, .int .u8 ya8, .int .u8 ya9, .int .u8 ya10, .int .u8 ya11, .int .u8 ya12, .int .u8 ya13, .int .u8 ya14, .int .u8 ya15, .slice none 0 0] := hr
        have ehi : IntKind.i64.wrap (40 + (if (IntKind.i64.wrap ((s.len : Int) - 40)) < ((num l 4 2 : Nat) : Int) then (IntKind.i64.wrap ((s.len : Int) - 40)) else ((num l 4 2 : Nat) : Int))) = ((min l.length (40 + num l 4 2) : Nat) : Int) := by
          rw [wrap_i64 (n := (s.len : Int) - 40) (by omega) (by omega)]
          split
          · rw [wrap_i64 (by omega) (by omega)]; omega
          · rw [wrap_i64 (by omega) (by omega)]; omega
        rw [ehi]
        refine SubSl_bytes ((hs.ext f1).ext hx) (by omega) (by omega) (by omega) fun s8 hs8 _ => ?_
        rw [Int.toNat_natCast, show Int.toNat 40 = 40 from rfl, cut40] at hs8
        refine AppSl_bytes (l := []) Buf.nil hs8 (by rw [List.length_take, List.length_drop]; simp; omega) fun s9 w9 b9 f9 n9 _ => ?_
        rw [List.nil_append] at b9
        have xx9 : Ext W w9 := f9.new fun y hy ⟨o, hb⟩ => by cases hb
        have n9' : ∀ c, SliceV.at s9 c → W.heap.size ≤ c := fun c hc => by
          rcases n9 c hc with ⟨o, g⟩ | g
          · cases g
          · exact g
        refine St_row (hr.ext xx9) rfl (by simp) fun w10 r10 f10 z10 => ?_
        simp only [List.set_cons_zero, List.set_cons_succ] at r10
        have f10d := f10 (· = d) rfl
        have hzW := hx.size
        have hdlt := hr.lt
        have b10 := b9.fr f10d fun c hc e => by have := n9' c hc; omega
        have x10 : Ext w1 w10 := (hx.trans xx9).new f10d fun y hy e => by omega
        simp only [List.getElem?_cons_zero, List.getElem?_cons_succ, LdV_some, dec_slice, dec_int, r10.cell]
        refine StN_full (r1.ext x10) rfl rfl fun w11 r11 f11 z11 => ?_
        have f11a := f11 (· = a) rfl
        simp only [List.getElem?_cons_zero, List.getElem?_cons_succ, LdV_some, dec_slice, dec_int, r11.cell]
        exact ⟨er.symm, fun _ => ⟨⟨⟨rfl, rfl, rfl, rfl⟩, hb1.symm, hb2.symm, SlB.of_buf (b10.fr f11a fun c hc e => by have := n9' c hc; omega)⟩, Buf_new b9 fun c hc => by have := n9' c hc; omega⟩, (f1.trans x10).new f11a fun y hy e => by omega⟩
    clear_value J
    cases b with
    | true =>
      rw [Bool.not_true, cond_false]
      exact jf (by unfold read6E; rw [if_neg e40, if_neg (by omega), if_neg (by simp)])
    | false =>
      rw [Bool.not_false, cond_true]
      rw [wrap_i64 (n := (s.len : Int) - 40) (by omega) (by omega)]
      by_cases hbig : ((num l 4 2 : Nat) : Int) > (s.len : Int) - 40
      · rw [decide_eq_true hbig]
        exact jt (by unfold read6E; rw [if_neg e40, if_neg (by omega), if_pos ⟨rfl, by omega⟩])
      · rw [decide_eq_false hbig]
        exact jf (by unfold read6E; rw [if_neg e40, if_neg (by omega), if_neg (by omega)])
  · have er : read6E l b = 4 := by unfold read6E; rw [if_neg e40, if_pos hv]
    rw [show ((((l[0].toNat / 16 : Nat)) : Int) != 6) = true by rw [bne_iff_ne]; omega, cond_true]
    refine StN_full r1d rfl rfl fun w5 r5 f5 _ => ?_
    simp only [List.getElem?_cons_zero, List.getElem?_cons_succ, LdV_some, dec_slice, dec_int, r5.cell]
    exact ⟨er.symm, fun h0 => by omega, fd.new (f5 (· = a) rfl) fun y hy e => by omega⟩

theorem rquoted6_ok {w : World} {s : SliceV} {l : List UInt8} (hs : SlB w s l) (hl : l.length ≤ 2 ^ 40) :
    c_ref06_Quoted s w fun t0 t1 t2 t3 r0 r1 r2 r3 r4 r5 r6 r7 r8 r9 r10 r11 r12 r13 r14 r15 r16 r17 r18 r19 r20 r21 r22 r23 r24 r25 r26 r27 r28 r29 r30 r31 s' e w' => e = read6E l true ∧ (e = 0 → Pk6L w' (field6 l) t0 t1 t2 t3 [r0, r1, r2, r3, r4, r5, r6, r7, r8, r9, r10, r11, r12, r13, r14, r15] [r16, r17, r18, r19, r20, r21, r22, r23, r24, r25, r26, r27, r28, r29, r30, r31] s' ∧ NewS w s') ∧ Ext w w' := by
  apply ok_ref06_Quoted
  unfold s_ref06_Quoted
  refine Al_e fun a w1 r1 e1 z1 f1 => ?_
  refine cm_ref06_read (rread6_ok (hs.ext f1) hl true) ?_
  rintro u0 u1 u2 u3 v0 v1 v2 v3 v4 v5 v6 v7 v8 v9 v10 v11 v12 v13 v14 v15 v16 v17 v18 v19 v20 v21 v22 v23 v24 v25 v26 v27 v28 v29 v30 v31 s' e w2 ⟨he, hp, f2⟩
  refine StN_full (r1.ext f2) rfl rfl fun w3 r3 f3 _ => ?_
  have f3a := f3 (· = a) rfl
  have z1' := f1.size
  have z2 := f2.size
  simp only [Ld_eq, List.getElem?_cons_zero, List.getElem?_cons_succ, LdV_some, dec_slice, dec_int, add_mk, Nat.zero_add, Nat.add_zero, r3.cell]
  refine ⟨he, fun h0 => ?_, (f1.trans f2).new f3a fun y hy e => by omega⟩
  obtain ⟨h, hn⟩ := hp h0
  exact ⟨⟨h.n, h.src, h.dst, h.data.fr f3a fun x hx _ e => by have := hn x hx; omega⟩, fun x hx => by have := hn x hx; omega⟩
end Go.Proofs
