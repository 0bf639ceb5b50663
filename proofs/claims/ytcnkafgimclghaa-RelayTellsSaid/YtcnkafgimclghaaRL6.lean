import Derived.Test.YtcnkafgimclghaaRL5
/- What a message tells of what was sent. -/
namespace Go.Proofs
open Gp Gp.V4
set_option maxRecDepth 100000
set_option maxHeartbeats 1000000

def sentE (own l : List UInt8) : Int :=
  if read6E l true ≠ 0 then read6E l true
  else if (field6 l).src ≠ own then 8
  else if innerE (field6 l) ≠ 0 then innerE (field6 l)
  else if readE (innerL (field6 l)) true ≠ 0 then readE (innerL (field6 l)) true
  else if (field (innerL (field6 l))).data.length < 8 then 3
  else 0
theorem ofE_sent (own l : List UInt8) (k r : Int) : ofE own k r l = if (tableR k r).2.2.2 = false then 8 else sentE own l := rfl

theorem eq16 {x0 x1 x2 x3 x4 x5 x6 x7 x8 x9 x10 x11 x12 x13 x14 x15 : Int} {y0 y1 y2 y3 y4 y5 y6 y7 y8 y9 y10 y11 y12 y13 y14 y15 : Int} : (((x0 == y0) && ((x1 == y1) && ((x2 == y2) && ((x3 == y3) && ((x4 == y4) && ((x5 == y5) && ((x6 == y6) && ((x7 == y7) && ((x8 == y8) && ((x9 == y9) && ((x10 == y10) && ((x11 == y11) && ((x12 == y12) && ((x13 == y13) && ((x14 == y14) && ((x15 == y15) && true))))))))))))))))) = decide ([x0, x1, x2, x3, x4, x5, x6, x7, x8, x9, x10, x11, x12, x13, x14, x15] = [y0, y1, y2, y3, y4, y5, y6, y7, y8, y9, y10, y11, y12, y13, y14, y15]) := by
  rw [Bool.eq_iff_iff]
  simp only [Bool.and_eq_true, beq_iff_eq, decide_eq_true_eq, List.cons.injEq]

theorem field6_len (l : List UInt8) : (field6 l).data.length ≤ l.length := by simp only [field6, List.length_take, List.length_drop]; omega
theorem innerL_len (q : Pk6) : (innerL q).length ≤ q.data.length := by
  unfold innerL
  split
  · omega
  · rw [List.length_drop]; omega

theorem SlB_apart {w : World} {s : SliceV} {l : List UInt8} {d : Nat} {L : List Value} (h : SlB w s l) (hr : Row w d L) (hL : ∀ v ∈ L, ∀ n, v ≠ .int .u8 n) : ∀ a, s.a = some a → 0 < l.length → ¬ a.block = d := by
  rintro a ha hl rfl
  obtain ⟨a', ha', hc⟩ := h.at_ (List.getElem?_eq_getElem hl)
  rw [ha] at ha'; cases ha'
  obtain ⟨T, ht⟩ := hr
  have e : a.add 0 = a := by simp [Addr.add]
  rw [e] at hc
  unfold World.cell? at hc
  rw [ht] at hc
  simp only at hc
  split at hc
  · cases hc
  · rw [List.getElem?_toArray] at hc
    exact hL _ (List.mem_of_getElem? hc) _ rfl

theorem sent_ok {w : World} {s : SliceV} {own l : List UInt8} {a0 a1 a2 a3 a4 a5 a6 a7 a8 a9 a10 a11 a12 a13 a14 a15 : Int} (hown : [a0, a1, a2, a3, a4, a5, a6, a7, a8, a9, a10, a11, a12, a13, a14, a15] = bi own) (hs : SlB w s l) (hl : l.length ≤ 2 ^ 40) :
    c_relay_sent a0 a1 a2 a3 a4 a5 a6 a7 a8 a9 a10 a11 a12 a13 a14 a15 s w fun r0 r1 r2 r3 r4 r5 r6 r7 r8 r9 r10 r11 r12 r13 r14 r15 b e w' => e = sentE own l ∧ (e = 0 → [r0, r1, r2, r3, r4, r5, r6, r7, r8, r9, r10, r11, r12, r13, r14, r15] = bi (field6 l).dst ∧ SlB w' b (innerL (field6 l)) ∧ NewS w b) ∧ Ext w w' := by
  apply ok_relay_sent
  unfold s_relay_sent
  refine Al_e fun a w1 r1 e1 z1 f1 => Al_e fun d w2 r2 e2 z2 f2 => ?_
  refine cm_v6_Quoted (quoted6_ok ((hs.ext f1).ext f2) hl) ?_
  rintro t0 t1 t2 t3 v0 v1 v2 v3 v4 v5 v6 v7 v8 v9 v10 v11 v12 v13 v14 v15 v16 v17 v18 v19 v20 v21 v22 v23 v24 v25 v26 v27 v28 v29 v30 v31 s' e w3 ⟨he, hp, f3⟩
  refine Al_e fun q w4 r4 e4 z4 f4 => ?_
  refine StN_full r4 rfl rfl fun w5 r5 f5 z5 => ?_
  have f5q := f5 (· = q) rfl
  have z1' := f1.size
  have z2' := f2.size
  have z3' := f3.size
  have x5 : Ext w2 w5 := (f3.trans f4).new f5q fun y hy e => by omega
  have x35 : Ext w3 w5 := f4.new f5q fun y hy e => by omega
  have x05 : Ext w w5 := (f1.trans f2).trans x5
  have z5' := x5.size
  have fld := Nat.le_trans (field6_len l) hl
  have fli := Nat.le_trans (innerL_len (field6 l)) fld
  by_cases h0 : e = 0
  case neg =>
    rw [show (e != 0) = true by simpa using h0, cond_true]
    refine StN_full (r2.ext x5) rfl rfl fun w6 r6 f6 _ => ?_
    simp only [Ld_eq, List.getElem?_cons_zero, List.getElem?_cons_succ, LdV_some, dec_int, add_mk, Nat.zero_add, Nat.add_zero, r6.cell]
    refine ⟨?_, fun h => absurd h h0, x05.new (f6 (· = d) rfl) fun y hy e => by omega⟩
    rw [he]; unfold sentE; rw [if_pos (by rw [← he]; exact h0)]
  obtain ⟨hq, _⟩ := hp h0
  rw [show (e != 0) = false by simpa using h0, cond_false]
  have he0 : read6E l true = 0 := he.symm.trans h0
  have ra5 := (r1.ext f2).ext x5
  simp only [Ld_eq, List.getElem?_cons_zero, List.getElem?_cons_succ, LdV_some, dec_slice, dec_int, add_mk, Nat.zero_add, Nat.add_zero, r5.cell, ra5.cell]
  rw [eq16]
  have hsrc : [v0, v1, v2, v3, v4, v5, v6, v7, v8, v9, v10, v11, v12, v13, v14, v15] = bi (field6 l).src := hq.src
  by_cases c1 : (field6 l).src = own
  case neg =>
    rw [show decide ([v0, v1, v2, v3, v4, v5, v6, v7, v8, v9, v10, v11, v12, v13, v14, v15] = [a0, a1, a2, a3, a4, a5, a6, a7, a8, a9, a10, a11, a12, a13, a14, a15]) = false by rw [decide_eq_false_iff_not, hsrc, hown]; exact fun h => c1 (bi_inj h), Bool.not_false, cond_true]
    refine StN_full (r2.ext x5) rfl rfl fun w6 r6 f6 _ => ?_
    simp only [List.getElem?_cons_zero, List.getElem?_cons_succ, LdV_some, dec_int, r6.cell]
    refine ⟨?_, fun h => by omega, x05.new (f6 (· = d) rfl) fun y hy e => by omega⟩
    unfold sentE; rw [if_neg (by rw [he0]; simp), if_pos c1]
  rw [show decide ([v0, v1, v2, v3, v4, v5, v6, v7, v8, v9, v10, v11, v12, v13, v14, v15] = [a0, a1, a2, a3, a4, a5, a6, a7, a8, a9, a10, a11, a12, a13, a14, a15]) = true by rw [decide_eq_true_iff, hsrc, hown, c1], Bool.not_true, cond_false]
  refine cm_relay_inner (inner_ok (hq.ext x35) fld) ?_
  rintro b e6 w6 ⟨he6, hi, f6⟩
  have x06 := x05.trans f6
  have x26 := x5.trans f6
  have z6' := f6.size
  by_cases c2 : e6 = 0
  case neg =>
    rw [show (e6 != 0) = true by simpa using c2, cond_true]
    refine StN_full (r2.ext x26) rfl rfl fun w7 r7 f7 _ => ?_
    simp only [List.getElem?_cons_zero, List.getElem?_cons_succ, LdV_some, dec_int, r7.cell]
    refine ⟨?_, fun h => absurd h c2, x06.new (f7 (· = d) rfl) fun y hy e => by omega⟩
    unfold sentE; rw [if_neg (by rw [he0]; simp), if_neg (by simpa using c1), if_pos (by rw [← he6]; exact c2)]; exact he6
  rw [show (e6 != 0) = false by simpa using c2, cond_false]
  have hi0 : innerE (field6 l) = 0 := he6.symm.trans c2
  have hb := hi c2
  refine cm_v4_Quoted (quoted_ok hb fli) ?_
  rintro i0 i1 i2 i3 i4 i5 i6 g0 g1 op da e7 w7 ⟨he7, hk, f7⟩
  refine Al_e fun p w8 r8 e8 z8 f8 => ?_
  refine StN_full r8 rfl rfl fun w9 r9 f9 z9 => ?_
  have f9p := f9 (· = p) rfl
  have z7' := f7.size
  have x69 : Ext w6 w9 := (f7.trans f8).new f9p fun y hy e => by omega
  have x79 : Ext w7 w9 := f8.new f9p fun y hy e => by omega
  have x29 := x26.trans x69
  have x09 := x06.trans x69
  have x59 := f6.trans x69
  have z9' := x69.size
  by_cases c3 : e7 = 0
  case neg =>
    rw [show (e7 != 0) = true by simpa using c3, cond_true]
    refine StN_full (r2.ext x29) rfl rfl fun wa ra fa _ => ?_
    simp only [List.getElem?_cons_zero, List.getElem?_cons_succ, LdV_some, dec_int, ra.cell]
    refine ⟨?_, fun h => absurd h c3, x09.new (fa (· = d) rfl) fun y hy e => by omega⟩
    unfold sentE; rw [if_neg (by rw [he0]; simp), if_neg (by simpa using c1), if_neg (by rw [hi0]; simp), if_pos (by rw [← he7]; exact c3)]; exact he7
  rw [show (e7 != 0) = false by simpa using c3, cond_false]
  have hr0 : readE (innerL (field6 l)) true = 0 := he7.symm.trans c3
  obtain ⟨_, _, _, _, _, _, _, _, _, _, hda⟩ := hk
  have erd : V4.read (innerL (field6 l)) true = field (innerL (field6 l)) := by unfold V4.read; rw [if_pos hr0]
  rw [erd] at hda
  have hdl := hda.1
  simp only [List.getElem?_cons_zero, List.getElem?_cons_succ, LdV_some, dec_slice, add_mk, Nat.zero_add, r9.cell]
  by_cases c4 : (da.len : Int) < 8
  · rw [decide_eq_true c4, cond_true]
    refine StN_full (r2.ext x29) rfl rfl fun wa ra fa _ => ?_
    simp only [List.getElem?_cons_zero, List.getElem?_cons_succ, LdV_some, dec_int, ra.cell]
    refine ⟨?_, fun h => by omega, x09.new (fa (· = d) rfl) fun y hy e => by omega⟩
    unfold sentE; rw [if_neg (by rw [he0]; simp), if_neg (by simpa using c1), if_neg (by rw [hi0]; simp), if_neg (by rw [hr0]; simp), if_pos (by omega)]
  rw [decide_eq_false c4, cond_false]
  have rq := (r5.ext x59).drew
  simp only [List.getElem?_cons_zero, List.getElem?_cons_succ, LdV_some, dec_int, rq.cell]
  refine cm_slices_Clone_byte_byte (clone_ok ((hb.ext x69).ext (Ext.drew w9)) (by omega)) ?_
  rintro s7 wa ⟨ba, _, fa, na⟩
  have rqa := rq.ext fa
  simp only [true_and, List.getElem?_cons_zero, List.getElem?_cons_succ, rqa.cell]
  have x9a := (Ext.drew w9).trans fa
  have zda : w9.drew.heap.size = w9.heap.size := rfl
  refine StN_full (r2.ext (x29.trans x9a)) rfl rfl fun wb rb fb _ => ?_
  have fbd := fb (· = d) rfl
  simp only [List.getElem?_cons_zero, List.getElem?_cons_succ, LdV_some, dec_int, rb.cell]
  refine ⟨?_, fun _ => ⟨hq.dst, SlB.of_buf (ba.fr fbd fun c hc e => by have := na c hc; omega), Buf_new ba fun c hc => by have := na c hc; omega⟩, (x09.trans x9a).new fbd fun y hy e => by omega⟩
  unfold sentE; rw [if_neg (by rw [he0]; simp), if_neg (by simpa using c1), if_neg (by rw [hi0]; simp), if_neg (by rw [hr0]; simp), if_neg (by omega)]

structure ToldL (w : World) (t : V4.Told) (ps : List Int) (k c r : Int) (s : SliceV) : Prop where
  peer : ps = bi t.peer
  n : k = t.kind ∧ c = t.code ∧ r = t.rest
  inner : SlB w s t.inner
theorem ToldL.ext {w w' : World} {t : V4.Told} {ps : List Int} {k c r : Int} {s : SliceV} (h : ToldL w t ps k c r s) (hx : Ext w w') : ToldL w' t ps k c r s := ⟨h.peer, h.n, h.inner.ext hx⟩
theorem ToldL.zero {w : World} {t : V4.Told} (h : t = V4.Told.zero) : ToldL w t [0, 0, 0, 0, 0, 0, 0, 0, 0, 0, 0, 0, 0, 0, 0, 0] 0 0 0 ⟨none, 0, 0⟩ := by
  subst h
  exact ⟨rfl, ⟨rfl, rfl, rfl⟩, SlB.nil⟩

theorem told_ok {w : World} {s : SliceV} {own l : List UInt8} {a0 a1 a2 a3 a4 a5 a6 a7 a8 a9 a10 a11 a12 a13 a14 a15 : Int} (hown : [a0, a1, a2, a3, a4, a5, a6, a7, a8, a9, a10, a11, a12, a13, a14, a15] = bi own) (hs : SlB w s l) (hl : l.length ≤ 2 ^ 40) (k c r : Int) (hr : -9223372036854775808 ≤ r ∧ r ≤ 9223372036854775807) :
    c_relay_Of a0 a1 a2 a3 a4 a5 a6 a7 a8 a9 a10 a11 a12 a13 a14 a15 k c r s w fun r0 r1 r2 r3 r4 r5 r6 r7 r8 r9 r10 r11 r12 r13 r14 r15 k' c' r' b e w' => e = ofE own k r l ∧ ToldL w' (ofR own k r l) [r0, r1, r2, r3, r4, r5, r6, r7, r8, r9, r10, r11, r12, r13, r14, r15] k' c' r' b ∧ Ext w w' := by
  apply ok_relay_Of
  unfold s_relay_Of
  refine Al_e fun a w1 r1 e1 z1 f1 => Al_e fun m w2 r2 e2 z2 f2 => Al_e fun d w3 r3 e3 z3 f3 => ?_
  have r1' := (r1.ext f2).ext f3
  have r2' := r2.ext f3
  have x3 := (f1.trans f2).trans f3
  have z1' := f1.size
  have z2' := f2.size
  simp only [Ld_eq, List.getElem?_cons_zero, List.getElem?_cons_succ, LdV_some, dec_int, add_mk, Nat.zero_add, Nat.add_zero, r2'.cell]
  refine cm_relay_Table (table_ok k c r hr w3) ?_
  rintro t0 t1 t2 t3 w4 ⟨ht, hw⟩
  subst hw
  have g0 : (tableR k r).1 = t0 := by rw [← ht]
  have g1 : (tableR k r).2.1 = t1 := by rw [← ht]
  have g2 : (tableR k r).2.2.1 = t2 := by rw [← ht]
  have g3 : (tableR k r).2.2.2 = t3 := by rw [← ht]
  cases t3 with
  | false =>
    rw [Bool.not_false, cond_true]
    have eo : ofE own k r l = 8 := by rw [ofE_sent, if_pos g3]
    refine StN_full r3 rfl rfl fun w6 r6 f6 _ => ?_
    simp only [List.getElem?_cons_zero, List.getElem?_cons_succ, LdV_some, dec_slice, dec_int, r6.cell]
    exact ⟨eo.symm, ToldL.zero (by unfold ofR; rw [if_neg (by rw [eo]; omega)]), x3.new (f6 (· = d) rfl) fun y hy e => by omega⟩
  | true =>
    rw [Bool.not_true, cond_false]
    have eo : ofE own k r l = sentE own l := by rw [ofE_sent, if_neg (by rw [g3]; simp)]
    simp only [List.getElem?_cons_zero, List.getElem?_cons_succ, LdV_some, dec_slice, dec_int, r1'.cell, r2'.cell]
    refine cm_relay_sent (sent_ok hown (hs.ext x3) hl) ?_
    rintro v0 v1 v2 v3 v4 v5 v6 v7 v8 v9 v10 v11 v12 v13 v14 v15 b e w5 ⟨he, hp, f5⟩
    refine Al_e fun q w6 r6 e6 z6 f6 => ?_
    refine StN_full r6 rfl rfl fun w7 r7 f7 z7 => ?_
    have f7q := f7 (· = q) rfl
    have z5' := f5.size
    have x7 : Ext w4 w7 := (f5.trans f6).new f7q fun y hy e => by omega
    have x57 : Ext w5 w7 := f6.new f7q fun y hy e => by omega
    by_cases c0 : e = 0
    · rw [show (e != 0) = false by simpa using c0, cond_false]
      obtain ⟨h1, h2, h3⟩ := hp c0
      have eo0 : ofE own k r l = 0 := by rw [eo, ← he]; exact c0
      simp only [List.getElem?_cons_zero, List.getElem?_cons_succ, LdV_some, dec_int, add_mk, Nat.zero_add, Nat.add_zero, r7.cell]
      refine StN_full (r3.ext x7) rfl rfl fun w8 r8 f8 _ => ?_
      have f8d := f8 (· = d) rfl
      have x8 : Ext w w8 := (x3.trans x7).new f8d fun y hy e => by omega
      simp only [List.getElem?_cons_zero, List.getElem?_cons_succ, LdV_some, dec_slice, dec_int, r8.cell]
      refine ⟨eo0.symm, ?_, x8⟩
      unfold ofR
      rw [if_pos eo0]
      exact ⟨h1, ⟨g0.symm, g1.symm, g2.symm⟩, (h2.ext x57).fr f8d fun x hx _ e => by have := h3 x hx; omega⟩
    · rw [show (e != 0) = true by simpa using c0, cond_true]
      have eo0 : ¬ ofE own k r l = 0 := by rw [eo, ← he]; exact c0
      refine StN_full (r3.ext x7) rfl rfl fun w8 r8 f8 _ => ?_
      simp only [List.getElem?_cons_zero, List.getElem?_cons_succ, LdV_some, dec_slice, dec_int, r8.cell]
      exact ⟨he.trans eo.symm, ToldL.zero (by unfold ofR; rw [if_neg eo0]), (x3.trans x7).new (f8 (· = d) rfl) fun y hy e => by omega⟩

theorem rtold_ok {w : World} {s : SliceV} {own l : List UInt8} {a0 a1 a2 a3 a4 a5 a6 a7 a8 a9 a10 a11 a12 a13 a14 a15 : Int} (hown : [a0, a1, a2, a3, a4, a5, a6, a7, a8, a9, a10, a11, a12, a13, a14, a15] = bi own) (hs : SlB w s l) (hl : l.length ≤ 2 ^ 40) (k c r : Int) (hr : -9223372036854775808 ≤ r ∧ r ≤ 9223372036854775807) :
    c_ref30_Of a0 a1 a2 a3 a4 a5 a6 a7 a8 a9 a10 a11 a12 a13 a14 a15 k c r s w fun r0 r1 r2 r3 r4 r5 r6 r7 r8 r9 r10 r11 r12 r13 r14 r15 k' c' r' b e w' => e = ofE own k r l ∧ ToldL w' (ofR own k r l) [r0, r1, r2, r3, r4, r5, r6, r7, r8, r9, r10, r11, r12, r13, r14, r15] k' c' r' b ∧ Ext w w' := by
  apply ok_ref30_Of
  unfold s_ref30_Of
  refine Al_e fun a w1 r1 e1 z1 f1 => Al_e fun m w2 r2 e2 z2 f2 => Al_e fun d w3 r3 e3 z3 f3 => ?_
  have r1' := (r1.ext f2).ext f3
  have r2' := r2.ext f3
  have x3 := (f1.trans f2).trans f3
  have z1' := f1.size
  have z2' := f2.size
  have z3' := f3.size
  simp only [Ld_eq, List.getElem?_cons_zero, List.getElem?_cons_succ, LdV_some, dec_int, add_mk, Nat.zero_add, Nat.add_zero, r2'.cell]
  refine cm_ref30_Table (rtable_ok k c r hr w3) ?_
  rintro t0 t1 t2 t3 w4 ⟨ht, hw⟩
  subst hw
  have g0 : (tableR k r).1 = t0 := by rw [← ht]
  have g1 : (tableR k r).2.1 = t1 := by rw [← ht]
  have g2 : (tableR k r).2.2.1 = t2 := by rw [← ht]
  have g3 : (tableR k r).2.2.2 = t3 := by rw [← ht]
  cases t3 with
  | false =>
    rw [Bool.not_false, cond_true]
    have eo : ofE own k r l = 8 := by rw [ofE_sent, if_pos g3]
    refine StN_full r3 rfl rfl fun w6 r6 f6 _ => ?_
    simp only [List.getElem?_cons_zero, List.getElem?_cons_succ, LdV_some, dec_slice, dec_int, r6.cell]
    exact ⟨eo.symm, ToldL.zero (by unfold ofR; rw [if_neg (by rw [eo]; omega)]), x3.new (f6 (· = d) rfl) fun y hy e => by omega⟩
  | true =>
  rw [Bool.not_true, cond_false]
  have eo : ofE own k r l = sentE own l := by rw [ofE_sent, if_neg (by rw [g3]; simp)]
  simp only [List.getElem?_cons_zero, List.getElem?_cons_succ, LdV_some, dec_slice, r2'.cell]
  refine cm_ref06_Quoted (rquoted6_ok (hs.ext x3) hl) ?_
  rintro t0 t1 t2 t3 v0 v1 v2 v3 v4 v5 v6 v7 v8 v9 v10 v11 v12 v13 v14 v15 v16 v17 v18 v19 v20 v21 v22 v23 v24 v25 v26 v27 v28 v29 v30 v31 s' e w3 ⟨he, hp, f3⟩
  refine Al_e fun q w4' r4 e4 z4 f4 => ?_
  refine StN_full r4 rfl rfl fun w5 r5 f5 z5 => ?_
  have f5q := f5 (· = q) rfl
  have z3'' := f3.size
  have x5 : Ext w4 w5 := (f3.trans f4).new f5q fun y hy e => by omega
  have x35 : Ext w3 w5 := f4.new f5q fun y hy e => by omega
  have x05 : Ext w w5 := x3.trans x5
  have z5' := x5.size
  have fld := Nat.le_trans (field6_len l) hl
  have fli := Nat.le_trans (innerL_len (field6 l)) fld
  by_cases h0 : e = 0
  case neg =>
    rw [show (e != 0) = true by simpa using h0, cond_true]
    have se : sentE own l = e := by rw [he]; unfold sentE; rw [if_pos (by rw [← he]; exact h0)]
    refine StN_full (r3.ext x5) rfl rfl fun wf rf ff _ => ?_
    simp only [List.getElem?_cons_zero, List.getElem?_cons_succ, LdV_some, dec_slice, dec_int, rf.cell]
    exact ⟨(eo.trans se).symm, ToldL.zero (by unfold ofR; rw [if_neg (by rw [eo, se]; exact fun h => absurd h h0)]), x05.new (ff (· = d) rfl) fun y hy e => by omega⟩
  obtain ⟨hq, hnq⟩ := hp h0
  rw [show (e != 0) = false by simpa using h0, cond_false]
  have he0 : read6E l true = 0 := he.symm.trans h0
  have ra5 := r1'.ext x5
  simp only [List.getElem?_cons_zero, List.getElem?_cons_succ, LdV_some, dec_slice, dec_int, add_mk, Nat.zero_add, Nat.add_zero, r5.cell, ra5.cell]
  rw [eq16]
  have hsrc : [v0, v1, v2, v3, v4, v5, v6, v7, v8, v9, v10, v11, v12, v13, v14, v15] = bi (field6 l).src := hq.src
  by_cases c1 : (field6 l).src = own
  case neg =>
    rw [show decide ([v0, v1, v2, v3, v4, v5, v6, v7, v8, v9, v10, v11, v12, v13, v14, v15] = [a0, a1, a2, a3, a4, a5, a6, a7, a8, a9, a10, a11, a12, a13, a14, a15]) = false by rw [decide_eq_false_iff_not, hsrc, hown]; exact fun h => c1 (bi_inj h), Bool.not_false, cond_true]
    have se : sentE own l = 8 := by unfold sentE; rw [if_neg (by rw [he0]; simp), if_pos c1]
    refine StN_full (r3.ext x5) rfl rfl fun wf rf ff _ => ?_
    simp only [List.getElem?_cons_zero, List.getElem?_cons_succ, LdV_some, dec_slice, dec_int, rf.cell]
    exact ⟨(eo.trans se).symm, ToldL.zero (by unfold ofR; rw [if_neg (by rw [eo, se]; exact fun h => absurd h (by omega))]), x05.new (ff (· = d) rfl) fun y hy e => by omega⟩
  rw [show decide ([v0, v1, v2, v3, v4, v5, v6, v7, v8, v9, v10, v11, v12, v13, v14, v15] = [a0, a1, a2, a3, a4, a5, a6, a7, a8, a9, a10, a11, a12, a13, a14, a15]) = true by rw [decide_eq_true_iff, hsrc, hown, c1], Bool.not_true, cond_false]
  refine cm_ref30_inner (rinner_ok (hq.ext x35) fld) ?_
  rintro b e6 w6 ⟨he6, hi, f6⟩
  have x06 := x05.trans f6
  have x26 := x5.trans f6
  have z6' := f6.size
  by_cases c2 : e6 = 0
  case neg =>
    rw [show (e6 != 0) = true by simpa using c2, cond_true]
    have se : sentE own l = e6 := by unfold sentE; rw [if_neg (by rw [he0]; simp), if_neg (by simpa using c1), if_pos (by rw [← he6]; exact c2)]; exact he6.symm
    refine StN_full (r3.ext x26) rfl rfl fun wf rf ff _ => ?_
    simp only [List.getElem?_cons_zero, List.getElem?_cons_succ, LdV_some, dec_slice, dec_int, rf.cell]
    exact ⟨(eo.trans se).symm, ToldL.zero (by unfold ofR; rw [if_neg (by rw [eo, se]; exact fun h => absurd h c2)]), x06.new (ff (· = d) rfl) fun y hy e => by omega⟩
  rw [show (e6 != 0) = false by simpa using c2, cond_false]
  have hi0 : innerE (field6 l) = 0 := he6.symm.trans c2
  obtain ⟨hb, hnb⟩ := hi c2
  refine cm_ref05_Quoted (rquoted_ok hb fli) ?_
  rintro i0 i1 i2 i3 i4 i5 i6 g0' g1' op da e7 w7 ⟨he7, hk, f7⟩
  refine Al_e fun p w8 r8 e8 z8 f8 => ?_
  refine StN_full r8 rfl rfl fun w9 r9 f9 z9 => ?_
  have f9p := f9 (· = p) rfl
  have z7' := f7.size
  have x69 : Ext w6 w9 := (f7.trans f8).new f9p fun y hy e => by omega
  have x29 := x26.trans x69
  have x09 := x06.trans x69
  have x59 := f6.trans x69
  have z9' := x69.size
  by_cases c3 : e7 = 0
  case neg =>
    rw [show (e7 != 0) = true by simpa using c3, cond_true]
    have se : sentE own l = e7 := by unfold sentE; rw [if_neg (by rw [he0]; simp), if_neg (by simpa using c1), if_neg (by rw [hi0]; simp), if_pos (by rw [← he7]; exact c3)]; exact he7.symm
    refine StN_full (r3.ext x29) rfl rfl fun wf rf ff _ => ?_
    simp only [List.getElem?_cons_zero, List.getElem?_cons_succ, LdV_some, dec_slice, dec_int, rf.cell]
    exact ⟨(eo.trans se).symm, ToldL.zero (by unfold ofR; rw [if_neg (by rw [eo, se]; exact fun h => absurd h c3)]), x09.new (ff (· = d) rfl) fun y hy e => by omega⟩
  rw [show (e7 != 0) = false by simpa using c3, cond_false]
  have hr0 : readE (innerL (field6 l)) true = 0 := he7.symm.trans c3
  obtain ⟨_, _, _, _, _, _, _, _, _, _, hda⟩ := hk
  have erd : V4.read (innerL (field6 l)) true = field (innerL (field6 l)) := by unfold V4.read; rw [if_pos hr0]
  rw [erd] at hda
  have hdl := hda.1
  simp only [List.getElem?_cons_zero, List.getElem?_cons_succ, LdV_some, dec_slice, add_mk, Nat.zero_add, r9.cell]
  by_cases c4 : (da.len : Int) < 8
  · rw [decide_eq_true c4, cond_true]
    have se : sentE own l = 3 := by unfold sentE; rw [if_neg (by rw [he0]; simp), if_neg (by simpa using c1), if_neg (by rw [hi0]; simp), if_neg (by rw [hr0]; simp), if_pos (by omega)]
    refine StN_full (r3.ext x29) rfl rfl fun wf rf ff _ => ?_
    simp only [List.getElem?_cons_zero, List.getElem?_cons_succ, LdV_some, dec_slice, dec_int, rf.cell]
    exact ⟨(eo.trans se).symm, ToldL.zero (by unfold ofR; rw [if_neg (by rw [eo, se]; exact fun h => absurd h (by omega))]), x09.new (ff (· = d) rfl) fun y hy e => by omega⟩
  rw [decide_eq_false c4, cond_false]
  have se : sentE own l = 0 := by unfold sentE; rw [if_neg (by rw [he0]; simp), if_neg (by simpa using c1), if_neg (by rw [hi0]; simp), if_neg (by rw [hr0]; simp), if_neg (by omega)]
  have rq := r5.ext x59
  simp only [List.getElem?_cons_zero, List.getElem?_cons_succ, LdV_some, dec_int, rq.cell]
  refine StN_full (r3.ext x29) rfl rfl fun wb rb fb _ => ?_
  have fbd := fb (· = d) rfl
  simp only [List.getElem?_cons_zero, List.getElem?_cons_succ, LdV_some, dec_slice, dec_int, rb.cell]
  refine ⟨(eo.trans se).symm, ?_, x09.new fbd fun y hy e => by omega⟩
  unfold ofR
  rw [if_pos (eo.trans se)]
  exact ⟨hq.dst, ⟨g0.symm, g1.symm, g2.symm⟩, (hb.ext x69).fr fbd fun x hx _ e => by
    rcases hnb x hx with g | g
    · have := hnq x g; omega
    · omega⟩

theorem relpkt_ok {w : World} {s : SliceV} {l : List UInt8} (a0 a1 a2 a3 a4 a5 a6 a7 a8 a9 a10 a11 a12 a13 a14 a15 : Int) (hs : SlB w s l) (hl : l.length ≤ 2 ^ 40) (from_ kind code rest : Int) :
    c_relay_Packet from_ a0 a1 a2 a3 a4 a5 a6 a7 a8 a9 a10 a11 a12 a13 a14 a15 kind code rest s w fun t i o l' p s' d df mf op da e w' => e = makeE from_ kind code rest l ∧ PktR w' (makeR from_ kind code rest l) t i o l' p s' d df mf op da ∧ Ext w w' := by
  apply ok_relay_Packet
  unfold s_relay_Packet
  refine Al_e fun a w1 r1 e1 z1 f1 => Al_e fun d w2 r2 e2 z2 f2 => ?_
  have r1' := r1.ext f2
  have z1' := f1.size
  simp only [Ld_eq, List.getElem?_cons_zero, List.getElem?_cons_succ, LdV_some, dec_slice, dec_int, add_mk, Nat.zero_add, Nat.add_zero, r1'.cell]
  refine cm_errs_Make (make_ok ((hs.ext f1).ext f2) hl from_ kind code rest) ?_
  rintro i0 i1 i2 i3 i4 i5 i6 g0 g1 op da e w3 ⟨he, hk, f3⟩
  refine StN_full (r2.ext f3) rfl rfl fun w4 r4 f4 _ => ?_
  have f4d := f4 (· = d) rfl
  simp only [List.getElem?_cons_zero, List.getElem?_cons_succ, LdV_some, dec_slice, dec_int, dec_bool, r4.cell]
  have hk4 : PktR w4 (makeR from_ kind code rest l) i0 i1 i2 i3 i4 i5 i6 g0 g1 op da := by
    obtain ⟨h0, h1, h2, h3, h4, h5, h6, h7, h8, h9, h10⟩ := hk
    have hz : ∀ v ∈ ([.int .i64 0, .int .i64 0, .int .i64 0, .int .i64 0, .int .i64 0, .int .i64 0, .int .i64 0, .bool false, .bool false, .slice none 0 0, .slice none 0 0] : List Value), ∀ n, v ≠ .int .u8 n := by
      intro v hv n e
      subst e
      simp at hv
    exact ⟨h0, h1, h2, h3, h4, h5, h6, h7, h8, h9.fr f4d (SlB_apart h9 (r2.ext f3) hz), h10.fr f4d (SlB_apart h10 (r2.ext f3) hz)⟩
  refine ⟨he, hk4, ((f1.trans f2).trans f3).new f4d fun y hy e => by omega⟩

theorem rrelpkt_ok {w : World} {s : SliceV} {l : List UInt8} (a0 a1 a2 a3 a4 a5 a6 a7 a8 a9 a10 a11 a12 a13 a14 a15 : Int) (hs : SlB w s l) (hl : l.length ≤ 2 ^ 40) (from_ kind code rest : Int) :
    c_ref30_Packet from_ a0 a1 a2 a3 a4 a5 a6 a7 a8 a9 a10 a11 a12 a13 a14 a15 kind code rest s w fun t i o l' p s' d df mf op da e w' => e = makeE from_ kind code rest l ∧ PktR w' (makeR from_ kind code rest l) t i o l' p s' d df mf op da ∧ Ext w w' := by
  apply ok_ref30_Packet
  unfold s_ref30_Packet
  refine Al_e fun a w1 r1 e1 z1 f1 => Al_e fun d w2 r2 e2 z2 f2 => ?_
  have r1' := r1.ext f2
  have z1' := f1.size
  simp only [Ld_eq, List.getElem?_cons_zero, List.getElem?_cons_succ, LdV_some, dec_slice, dec_int, add_mk, Nat.zero_add, Nat.add_zero, r1'.cell]
  refine cm_ref28_Make (rmake_ok ((hs.ext f1).ext f2) hl from_ kind code rest) ?_
  rintro i0 i1 i2 i3 i4 i5 i6 g0 g1 op da e w3 ⟨he, hk, f3⟩
  refine StN_full (r2.ext f3) rfl rfl fun w4 r4 f4 _ => ?_
  have f4d := f4 (· = d) rfl
  simp only [List.getElem?_cons_zero, List.getElem?_cons_succ, LdV_some, dec_slice, dec_int, dec_bool, r4.cell]
  have hk4 : PktR w4 (makeR from_ kind code rest l) i0 i1 i2 i3 i4 i5 i6 g0 g1 op da := by
    obtain ⟨h0, h1, h2, h3, h4, h5, h6, h7, h8, h9, h10⟩ := hk
    have hz : ∀ v ∈ ([.int .i64 0, .int .i64 0, .int .i64 0, .int .i64 0, .int .i64 0, .int .i64 0, .int .i64 0, .bool false, .bool false, .slice none 0 0, .slice none 0 0] : List Value), ∀ n, v ≠ .int .u8 n := by
      intro v hv n e
      subst e
      simp at hv
    exact ⟨h0, h1, h2, h3, h4, h5, h6, h7, h8, h9.fr f4d (SlB_apart h9 (r2.ext f3) hz), h10.fr f4d (SlB_apart h10 (r2.ext f3) hz)⟩
  refine ⟨he, hk4, ((f1.trans f2).trans f3).new f4d fun y hy e => by omega⟩
end Go.Proofs
