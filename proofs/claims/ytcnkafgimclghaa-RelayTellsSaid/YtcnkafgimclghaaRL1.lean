import Derived.Test.YtcnkafgimclghaaRB3
import Derived.Test.YtcnkafgimclghaaRelPure
/- Packets of version six: built. -/
namespace Go.Proofs
open Gp Gp.V4
set_option maxRecDepth 100000
set_option maxHeartbeats 1000000

def bi (l : List UInt8) : List Int := l.map fun b => (b.toNat : Int)
theorem bytesV_bi (l : List UInt8) : bytesV l = (bi l).map fun n => Value.int .u8 n := by unfold bytesV bi; rw [List.map_map]; rfl
theorem bi_inj {l m : List UInt8} (h : bi l = bi m) : l = m := by
  unfold bi at h
  refine (List.map_inj_right ?_).1 h
  intro a b hab
  exact UInt8.toNat_inj.1 (by omega)

theorem ex16 {l : List UInt8} (h : l.length = 16) : ∃ x0 x1 x2 x3 x4 x5 x6 x7 x8 x9 x10 x11 x12 x13 x14 x15 : Int, bi l = [x0, x1, x2, x3, x4, x5, x6, x7, x8, x9, x10, x11, x12, x13, x14, x15] ∧ bytesV l = [.int .u8 x0, .int .u8 x1, .int .u8 x2, .int .u8 x3, .int .u8 x4, .int .u8 x5, .int .u8 x6, .int .u8 x7, .int .u8 x8, .int .u8 x9, .int .u8 x10, .int .u8 x11, .int .u8 x12, .int .u8 x13, .int .u8 x14, .int .u8 x15] := by
  obtain ⟨b0, l0, rfl⟩ := List.exists_cons_of_length_eq_add_one h
  have h0 := Nat.succ.inj h
  obtain ⟨b1, l1, rfl⟩ := List.exists_cons_of_length_eq_add_one h0
  have h1 := Nat.succ.inj h0
  obtain ⟨b2, l2, rfl⟩ := List.exists_cons_of_length_eq_add_one h1
  have h2 := Nat.succ.inj h1
  obtain ⟨b3, l3, rfl⟩ := List.exists_cons_of_length_eq_add_one h2
  have h3 := Nat.succ.inj h2
  obtain ⟨b4, l4, rfl⟩ := List.exists_cons_of_length_eq_add_one h3
  have h4 := Nat.succ.inj h3
  obtain ⟨b5, l5, rfl⟩ := List.exists_cons_of_length_eq_add_one h4
  have h5 := Nat.succ.inj h4
  obtain ⟨b6, l6, rfl⟩ := List.exists_cons_of_length_eq_add_one h5
  have h6 := Nat.succ.inj h5
  obtain ⟨b7, l7, rfl⟩ := List.exists_cons_of_length_eq_add_one h6
  have h7 := Nat.succ.inj h6
  obtain ⟨b8, l8, rfl⟩ := List.exists_cons_of_length_eq_add_one h7
  have h8 := Nat.succ.inj h7
  obtain ⟨b9, l9, rfl⟩ := List.exists_cons_of_length_eq_add_one h8
  have h9 := Nat.succ.inj h8
  obtain ⟨b10, l10, rfl⟩ := List.exists_cons_of_length_eq_add_one h9
  have h10 := Nat.succ.inj h9
  obtain ⟨b11, l11, rfl⟩ := List.exists_cons_of_length_eq_add_one h10
  have h11 := Nat.succ.inj h10
  obtain ⟨b12, l12, rfl⟩ := List.exists_cons_of_length_eq_add_one h11
  have h12 := Nat.succ.inj h11
  obtain ⟨b13, l13, rfl⟩ := List.exists_cons_of_length_eq_add_one h12
  have h13 := Nat.succ.inj h12
  obtain ⟨b14, l14, rfl⟩ := List.exists_cons_of_length_eq_add_one h13
  have h14 := Nat.succ.inj h13
  obtain ⟨b15, l15, rfl⟩ := List.exists_cons_of_length_eq_add_one h14
  have h15 := Nat.succ.inj h14
  obtain rfl := List.length_eq_zero_iff.1 h15
  exact ⟨b0.toNat, b1.toNat, b2.toNat, b3.toNat, b4.toNat, b5.toNat, b6.toNat, b7.toNat, b8.toNat, b9.toNat, b10.toNat, b11.toNat, b12.toNat, b13.toNat, b14.toNat, b15.toNat, rfl, rfl⟩

theorem SubArr16 {b o : Nat} {K : SliceV → Prop} (h : K ⟨some ⟨b, o, none⟩, 16, 16⟩) : SubArr ⟨b, o, none⟩ 16 1 0 (16 : Int) K := by
  refine ⟨by omega, by omega, by omega, ?_⟩
  have e : (if 16 = (0 : Int).toNat then (⟨b, o, none⟩ : Addr) else (⟨b, o, none⟩ : Addr).add ((0 : Int).toNat * 1)) = ⟨b, o, none⟩ := by
    rw [if_neg (by decide)]; rfl
  rw [e]
  exact h

theorem table_ok (a b c : Int) (h : -9223372036854775808 ≤ c ∧ c ≤ 9223372036854775807) (w : World) : c_relay_Table a b c w fun r0 r1 r2 r3 w' => (r0, r1, r2, r3) = tableR a c ∧ w' = w := by
  apply ok_relay_Table
  unfold s_relay_Table tableR
  by_cases h2 : a = 2
  · rw [if_pos h2, show (a == 2) = true by simpa using h2, cond_true]
    intro J
    by_cases hc : c > 108
    · rw [decide_eq_true hc, cond_true]
      rw [wrap_i64 (by omega) (by omega)]
      refine ⟨?_, rfl⟩
      have : (if (65535 : Int) < c - 40 then 65535 else c - 40) = min (max (max c 0 - 40) 68) 65535 := by split <;> omega
      rw [this]
    · rw [decide_eq_false hc, cond_false]
      refine ⟨?_, rfl⟩
      have : (68 : Int) = min (max (max c 0 - 40) 68) 65535 := by omega
      rw [← this]
  · rw [if_neg h2, show (a == 2) = false by simpa using h2, cond_false]
    intro J
    have jt : (a = 1 ∨ a = 3 ∨ a = 4) → J true := fun hx => by
      simp only [J, cond_true]
      rw [if_pos hx]
      exact ⟨by trivial, by trivial⟩
    have jf : ¬ (a = 1 ∨ a = 3 ∨ a = 4) → J false := fun hx => by
      simp only [J, cond_false]
      rw [if_neg hx]
      exact ⟨by trivial, by trivial⟩
    clear_value J
    by_cases h1 : a = 1
    · rw [show (a == 1) = true by simpa using h1, cond_true]
      exact jt (.inl h1)
    · rw [show (a == 1) = false by simpa using h1, cond_false]
      by_cases h3 : a = 3
      · rw [show (a == 3) = true by simpa using h3, cond_true]
        exact jt (.inr (.inl h3))
      · rw [show (a == 3) = false by simpa using h3, cond_false]
        by_cases h4 : a = 4
        · rw [show (a == 4) = true by simpa using h4]
          exact jt (.inr (.inr h4))
        · rw [show (a == 4) = false by simpa using h4]
          exact jf (by omega)

theorem rtable_ok (a b c : Int) (h : -9223372036854775808 ≤ c ∧ c ≤ 9223372036854775807) (w : World) : c_ref30_Table a b c w fun r0 r1 r2 r3 w' => (r0, r1, r2, r3) = tableR a c ∧ w' = w := by
  apply ok_ref30_Table
  unfold s_ref30_Table tableR
  by_cases h2 : a = 2
  · rw [if_pos h2, show (a == 2) = true by simpa using h2, cond_true]
    have e0 : (if (0 : Int) > c then 0 else c) = max c 0 := by split <;> omega
    rw [e0, wrap_i64 (by omega) (by omega)]
    refine ⟨?_, rfl⟩
    have : (if (65535 : Int) < (if (68 : Int) > max c 0 - 40 then 68 else max c 0 - 40) then 65535 else (if (68 : Int) > max c 0 - 40 then 68 else max c 0 - 40)) = min (max (max c 0 - 40) 68) 65535 := by split <;> split at * <;> omega
    rw [this]
  · rw [if_neg h2, show (a == 2) = false by simpa using h2, cond_false]
    intro J
    have jt : (a = 1 ∨ a = 3 ∨ a = 4) → J true := fun hx => by
      simp only [J, cond_true]
      rw [if_pos hx]
      exact ⟨by trivial, by trivial⟩
    have jf : ¬ (a = 1 ∨ a = 3 ∨ a = 4) → J false := fun hx => by
      simp only [J, cond_false]
      rw [if_neg hx]
      exact ⟨by trivial, by trivial⟩
    clear_value J
    by_cases h1 : a = 1
    · rw [show (a == 1) = true by simpa using h1, cond_true]
      exact jt (.inl h1)
    · rw [show (a == 1) = false by simpa using h1, cond_false]
      by_cases h3 : a = 3
      · rw [show (a == 3) = true by simpa using h3, cond_true]
        exact jt (.inr (.inl h3))
      · rw [show (a == 3) = false by simpa using h3, cond_false]
        by_cases h4 : a = 4
        · rw [show (a == 4) = true by simpa using h4]
          exact jt (.inr (.inr h4))
        · rw [show (a == 4) = false by simpa using h4]
          exact jf (by omega)

theorem check6_ok (q : Pk6) {p0 p1 p2 p3 p4 p5 p6 p7 p8 p9 p10 p11 p12 p13 p14 p15 p16 p17 p18 p19 p20 p21 p22 p23 p24 p25 p26 p27 p28 p29 p30 p31 : Int} {s : SliceV} (hs : s.len = q.data.length) (w : World) : c_v6_Check q.tr q.fl q.nx q.hp p0 p1 p2 p3 p4 p5 p6 p7 p8 p9 p10 p11 p12 p13 p14 p15 p16 p17 p18 p19 p20 p21 p22 p23 p24 p25 p26 p27 p28 p29 p30 p31 s w fun r w' => r = q.check ∧ Ext w w' := by
  apply ok_v6_Check
  unfold s_v6_Check
  refine Al_e fun a w1 r1 e1 z1 f1 => ?_
  intro J4
  have h4t : ∀ W, Ext w W → ¬ q.fine → J4 true W := by
    intro W hx hn
    simp only [J4, cond_true]
    refine ⟨?_, hx⟩
    unfold Pk6.check; rw [if_neg hn]
  have h4f : ∀ W, Ext w1 W → (fitsP q.tr 1 ∧ fitsP q.nx 1 ∧ fitsP q.hp 1) → J4 false W := by
    intro W hx hfit
    have r := r1.ext hx
    simp -zeta only [J4, cond_false]
    intro J7
    have h7t : ¬ q.fine → J7 true := by
      intro hn
      simp only [J7, cond_true]
      refine ⟨?_, f1.trans hx⟩
      unfold Pk6.check; rw [if_neg hn]
    have h7f : 0 ≤ q.fl ∧ q.fl < 1048576 → J7 false := by
      intro hfl
      have hfine : q.fine := ⟨hfit, hfl⟩
      simp only [J7, cond_false, cond_false, Ld_eq, List.getElem?_cons_zero, List.getElem?_cons_succ, LdV_some, dec_slice, add_mk, Nat.zero_add, r.cell]
      by_cases hl : q.data.length ≤ 65535
      · rw [decide_eq_false (by omega), cond_false]
        refine ⟨?_, f1.trans hx⟩
        unfold Pk6.check; rw [if_pos hfine, if_pos hl]
      · rw [decide_eq_true (by omega), cond_true]
        refine ⟨?_, f1.trans hx⟩
        unfold Pk6.check; rw [if_pos hfine, if_neg hl]
    clear_value J7
    simp only [Ld_eq, List.getElem?_cons_zero, List.getElem?_cons_succ, LdV_some, dec_int, add_mk, Nat.zero_add, r.cell]
    by_cases c1 : q.fl < 0
    · rw [decide_eq_true c1, cond_true]; exact h7t fun hf => by have := hf.2.1; omega
    · rw [decide_eq_false c1, cond_false]
      by_cases c2 : q.fl ≥ 1048576
      · rw [decide_eq_true c2]; exact h7t fun hf => by have := hf.2.2; omega
      · rw [decide_eq_false c2]; exact h7f (by omega)
  clear_value J4
  simp only [Ld_eq, List.getElem?_cons_zero, LdV_some, dec_int, add_mk, Nat.zero_add, r1.cell]
  refine cm_be_Fits (fits_ok q.tr 1 w1) ?_
  rintro _ _ ⟨rfl, rfl⟩
  by_cases g1 : fitsP q.tr 1
  · rw [decide_eq_true g1, Bool.not_true, cond_false]
    simp only [List.getElem?_cons_zero, List.getElem?_cons_succ, LdV_some, dec_int, r1.cell]
    refine cm_be_Fits (fits_ok q.nx 1 _) ?_
    rintro _ _ ⟨rfl, rfl⟩
    by_cases g2 : fitsP q.nx 1
    · rw [decide_eq_true g2, Bool.not_true, cond_false]
      simp only [List.getElem?_cons_zero, List.getElem?_cons_succ, LdV_some, dec_int, r1.cell]
      refine cm_be_Fits (fits_ok q.hp 1 _) ?_
      rintro _ _ ⟨rfl, rfl⟩
      by_cases g3 : fitsP q.hp 1
      · rw [decide_eq_true g3, Bool.not_true]; exact h4f _ (Ext.refl _) ⟨g1, g2, g3⟩
      · rw [decide_eq_false g3, Bool.not_false]; exact h4t _ f1 fun hf => g3 hf.1.2.2
    · rw [decide_eq_false g2, Bool.not_false, cond_true]; exact h4t _ f1 fun hf => g2 hf.1.2.1
  · rw [decide_eq_false g1, Bool.not_false, cond_true]; exact h4t _ f1 fun hf => g1 hf.1.1

/-- These are a packet. -/
structure Pk6L (w : World) (q : Pk6) (t0 t1 t2 t3 : Int) (ps qs : List Int) (s : SliceV) : Prop where
  n : t0 = q.tr ∧ t1 = q.fl ∧ t2 = q.nx ∧ t3 = q.hp
  src : ps = bi q.src
  dst : qs = bi q.dst
  data : SlB w s q.data

theorem Pk6L.ext {w w' : World} {q : Pk6} {t0 t1 t2 t3 : Int} {ps qs : List Int} {s : SliceV} (h : Pk6L w q t0 t1 t2 t3 ps qs s) (hx : Ext w w') : Pk6L w' q t0 t1 t2 t3 ps qs s := ⟨h.n, h.src, h.dst, h.data.ext hx⟩

theorem Buf_new {w : World} {s : SliceV} {vs : List Value} {k : Nat} (h : Buf w s vs) (hk : ∀ b, SliceV.at s b → k ≤ b) (x : Addr) (hx : s.a = some x) : k ≤ x.block := by
  obtain ⟨_, ⟨h2, _⟩ | ⟨b, pad, h2, _⟩⟩ := h
  · rw [hx] at h2; cases h2
  · rw [hx] at h2; cases h2
    exact hk b ⟨0, hx⟩

theorem wrap_ok {w : World} {p0 p1 p2 p3 p4 p5 p6 p7 p8 p9 p10 p11 p12 p13 p14 p15 q0 q1 q2 q3 q4 q5 q6 q7 q8 q9 q10 q11 q12 q13 q14 q15 hop : Int} {s : SliceV} {l src dst : List UInt8} (hs : SlB w s l) (hl : l.length ≤ 2 ^ 46) (hp : [p0, p1, p2, p3, p4, p5, p6, p7, p8, p9, p10, p11, p12, p13, p14, p15] = bi src) (hq : [q0, q1, q2, q3, q4, q5, q6, q7, q8, q9, q10, q11, q12, q13, q14, q15] = bi dst) :
    c_wrap_Wrap p0 p1 p2 p3 p4 p5 p6 p7 p8 p9 p10 p11 p12 p13 p14 p15 q0 q1 q2 q3 q4 q5 q6 q7 q8 q9 q10 q11 q12 q13 q14 q15 hop s w fun t0 t1 t2 t3 r0 r1 r2 r3 r4 r5 r6 r7 r8 r9 r10 r11 r12 r13 r14 r15 r16 r17 r18 r19 r20 r21 r22 r23 r24 r25 r26 r27 r28 r29 r30 r31 s' e w' => e = (⟨0, 0, 4, hop, src, dst, l⟩ : Pk6).check ∧ (e = 0 → Pk6L w' ⟨0, 0, 4, hop, src, dst, l⟩ t0 t1 t2 t3 [r0, r1, r2, r3, r4, r5, r6, r7, r8, r9, r10, r11, r12, r13, r14, r15] [r16, r17, r18, r19, r20, r21, r22, r23, r24, r25, r26, r27, r28, r29, r30, r31] s' ∧ NewS w s') ∧ Ext w w' := by
  apply ok_wrap_Wrap
  unfold s_wrap_Wrap
  refine Al_e fun a w1 r1 e1 z1 f1 => Al_e fun b w2 r2 e2 z2 f2 => Al_e fun c w3 r3 e3 z3 f3 => ?_
  have ra := (r1.ext f2).ext f3
  have rb := r2.ext f3
  simp only [Ld_eq, List.getElem?_cons_zero, List.getElem?_cons_succ, LdV_some, dec_int, add_mk, Nat.zero_add, Nat.add_zero, ra.cell, rb.cell]
  refine Al_f rfl rfl fun d w4 r4 e4 z4 f4 => ?_
  have x4 := (f1.trans f2).trans (f3.trans f4)
  refine cm_slices_Clone_byte_byte (clone_ok (hs.ext x4) hl) ?_
  rintro r w5 ⟨b5, _, f5, n5⟩
  refine St_row (r4.ext f5) rfl (by simp) fun w6 r6 f6 z6 => ?_
  simp only [List.set_cons_zero, List.set_cons_succ] at r6
  have f6d := f6 (· = d) rfl
  have hz4 := f4.size
  have hz3 := f3.size
  have hz2 := f2.size
  have hz1 := f1.size
  have hz5 := f5.size
  have x6 : Ext w w6 := (x4.trans f5).new f6d fun y hy e => by omega
  have b6 := b5.fr f6d fun c hc e => by have := n5 c hc; omega
  simp only [List.getElem?_cons_zero, List.getElem?_cons_succ, LdV_some, dec_slice, dec_int, add_mk, Nat.zero_add, Nat.add_zero, r6.cell]
  refine cm_v6_Check (check6_ok ⟨0, 0, 4, hop, src, dst, l⟩ (SlB.of_buf b6).1 w6) ?_
  rintro _ w7 ⟨rfl, f7⟩
  have r3' := ((((r3.ext f4).ext f5).fr f6d (by omega)).ext f7)
  have x7 := x6.trans f7
  by_cases hc : (⟨0, 0, 4, hop, src, dst, l⟩ : Pk6).check = 0
  · rw [hc]
    simp only [show ((0 : Int) != 0) = false from rfl, cond_false, List.getElem?_cons_zero, List.getElem?_cons_succ, LdV_some, dec_slice, dec_int, (r6.ext f7).cell]
    refine StN_full r3' rfl rfl fun w8 r8 f8 z8 => ?_
    have f8c := f8 (· = c) rfl
    simp only [List.getElem?_cons_zero, List.getElem?_cons_succ, LdV_some, dec_slice, dec_int, r8.cell]
    refine ⟨by trivial, fun _ => ⟨⟨⟨rfl, rfl, rfl, rfl⟩, hp, hq, (SlB.of_buf ((b6.ext f7).fr f8c fun y hy e => by have := n5 y hy; omega))⟩, Buf_new b5 fun y hy => by have := n5 y hy; omega⟩, x7.new f8c fun y hy e => by omega⟩
  · have hc' : ((⟨0, 0, 4, hop, src, dst, l⟩ : Pk6).check != 0) = true := by simpa using hc
    rw [hc', cond_true]
    refine StN_full r3' rfl rfl fun w8 r8 f8 z8 => ?_
    have f8c := f8 (· = c) rfl
    simp only [List.getElem?_cons_zero, List.getElem?_cons_succ, LdV_some, dec_slice, dec_int, r8.cell]
    exact ⟨by trivial, fun h0 => absurd h0 hc, x7.new f8c fun y hy e => by omega⟩
end Go.Proofs
