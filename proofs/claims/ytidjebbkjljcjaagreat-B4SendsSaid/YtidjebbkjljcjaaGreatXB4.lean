import Derived.Test.YtidjebbkjljcjaaGreatXB3
import Derived.Test.YtidjebbkjljcjaaGreatRelPure2
import Derived.Test.YtidjebbkjljcjaaGreatCutPure
import Derived.Test.YtidjebbkjljcjaaGreatIns
import Derived.Test.YtidjebbkjljcjaaGreatExt2
/- Packets of version six -/
namespace Go.Proofs
open Gp Gp.V4
set_option maxRecDepth 100000
set_option maxHeartbeats 1000000



def bi (l : List UInt8) : List Int := l.map fun b => (b.toNat : Int)

theorem bytesV_bi (l : List UInt8) : bytesV l = (bi l).map fun n => Value.int .u8 n := by unfold bytesV bi; rw [List.map_map]; rfl

theorem bi_inj {l m : List UInt8} (h : bi l = bi m) : l = m := by
  unfold bi at h
  refine (List.map_inj_right ?_).1 h
  intro a b hab
  exact UInt8.toNat_inj.1 (by omega)

theorem ex16 {l : List UInt8} (h : l.length = 16) : ∃ x0 x1 x2 x3 x4 x5 x6 x7 x8 x9 x10 x11 x12 x13 x14 x15 : Int, bi l = [x0, x1, x2, x3, x4, x5, x6, x7, x8, x9, x10, x11, x12, x13, x14, x15] ∧ bytesV l = [.int .u8 x0, .int .u8 x1, .int .u8 x2, .int .u8 x3, .int .u8 x4, .int .u8 x5, .int .u8 x6, .int .u8 x7, .int .u8 x8, .int .u8 x9, .int .u8 x10, .int .u8 x11, .int .u8 x12, .int .u8 x13, .int .u8 x14, .int .u8 x15] := by
  obtain ⟨b0, l0, rfl⟩ := List.exists_cons_of_length_eq_add_one h
  have h0 := Nat.succ.inj h
  obtain ⟨b1, l1, rfl⟩ := List.exists_cons_of_length_eq_add_one h0
  have h1 := Nat.succ.inj h0
  obtain ⟨b2, l2, rfl⟩ := List.exists_cons_of_length_eq_add_one h1
  have h2 := Nat.succ.inj h1
  obtain ⟨b3, l3, rfl⟩ := List.exists_cons_of_length_eq_add_one h2
  have h3 := Nat.succ.inj h2
  obtain ⟨b4, l4, rfl⟩ := List.exists_cons_of_length_eq_add_one h3
  have h4 := Nat.succ.inj h3
  obtain ⟨b5, l5, rfl⟩ := List.exists_cons_of_length_eq_add_one h4
  have h5 := Nat.succ.inj h4
  obtain ⟨b6, l6, rfl⟩ := List.exists_cons_of_length_eq_add_one h5
  have h6 := Nat.succ.inj h5
  obtain ⟨b7, l7, rfl⟩ := List.exists_cons_of_length_eq_add_one h6
  have h7 := Nat.succ.inj h6
  obtain ⟨b8, l8, rfl⟩ := List.exists_cons_of_length_eq_add_one h7
  have h8 := Nat.succ.inj h7
  obtain ⟨b9, l9, rfl⟩ := List.exists_cons_of_length_eq_add_one h8
  have h9 := Nat.succ.inj h8
  obtain ⟨b10, l10, rfl⟩ := List.exists_cons_of_length_eq_add_one h9
  have h10 := Nat.succ.inj h9
  obtain ⟨b11, l11, rfl⟩ := List.exists_cons_of_length_eq_add_one h10
  have h11 := Nat.succ.inj h10
  obtain ⟨b12, l12, rfl⟩ := List.exists_cons_of_length_eq_add_one h11
  have h12 := Nat.succ.inj h11
  obtain ⟨b13, l13, rfl⟩ := List.exists_cons_of_length_eq_add_one h12
  have h13 := Nat.succ.inj h12
  obtain ⟨b14, l14, rfl⟩ := List.exists_cons_of_length_eq_add_one h13
  have h14 := Nat.succ.inj h13
  obtain ⟨b15, l15, rfl⟩ := List.exists_cons_of_length_eq_add_one h14
  have h15 := Nat.succ.inj h14
  obtain rfl := List.length_eq_zero_iff.1 h15
  exact ⟨b0.toNat, b1.toNat, b2.toNat, b3.toNat, b4.toNat, b5.toNat, b6.toNat, b7.toNat, b8.toNat, b9.toNat, b10.toNat, b11.toNat, b12.toNat, b13.toNat, b14.toNat, b15.toNat, rfl, rfl⟩

theorem SubArr16 {b o : Nat} {K : SliceV → Prop} (h : K ⟨some ⟨b, o, none⟩, 16, 16⟩) : SubArr ⟨b, o, none⟩ 16 1 0 (16 : Int) K := by
  refine ⟨by omega, by omega, by omega, ?_⟩
  have e : (if 16 = (0 : Int).toNat then (⟨b, o, none⟩ : Addr) else (⟨b, o, none⟩ : Addr).add ((0 : Int).toNat * 1)) = ⟨b, o, none⟩ := by
    rw [if_neg (by decide)]; rfl
  rw [e]
  exact h

theorem check6_ok (q : Pk6) {p0 p1 p2 p3 p4 p5 p6 p7 p8 p9 p10 p11 p12 p13 p14 p15 p16 p17 p18 p19 p20 p21 p22 p23 p24 p25 p26 p27 p28 p29 p30 p31 : Int} {s : SliceV} (hs : s.len = q.data.length) (w : World) : c_v6_Check q.tr q.fl q.nx q.hp p0 p1 p2 p3 p4 p5 p6 p7 p8 p9 p10 p11 p12 p13 p14 p15 p16 p17 p18 p19 p20 p21 p22 p23 p24 p25 p26 p27 p28 p29 p30 p31 s w fun r w' => r = q.check ∧ Ext w w' := by
  apply ok_v6_Check
  unfold s_v6_Check
  refine Al_e fun a w1 r1 e1 z1 f1 => ?_
  intro J4
  have h4t : ∀ W, Ext w W → ¬ q.fine → J4 true W := by
    intro W hx hn
    simp only [J4, cond_true]
    refine ⟨?_, hx⟩
    unfold Pk6.check; rw [if_neg hn]
  have h4f : ∀ W, Ext w1 W → (fitsP q.tr 1 ∧ fitsP q.nx 1 ∧ fitsP q.hp 1) → J4 false W := by
    intro W hx hfit
    have r := r1.ext hx
    simp -zeta only [J4, cond_false]
    intro J7
    have h7t : ¬ q.fine → J7 true := by
      intro hn
      simp only [J7, cond_true]
      refine ⟨?_, f1.trans hx⟩
      unfold Pk6.check; rw [if_neg hn]
    have h7f : 0 ≤ q.fl ∧ q.fl < 1048576 → J7 false := by
      intro hfl
      have hfine : q.fine := ⟨hfit, hfl⟩
      simp only [J7, cond_false, cond_false, Ld_eq, List.getElem?_cons_zero, List.getElem?_cons_succ, LdV_some, dec_slice, add_mk, Nat.zero_add, r.cell]
      by_cases hl : q.data.length ≤ 65535
      · rw [decide_eq_false (by omega), cond_false]
        refine ⟨?_, f1.trans hx⟩
        unfold Pk6.check; rw [if_pos hfine, if_pos hl]
      · rw [decide_eq_true (by omega), cond_true]
        refine ⟨?_, f1.trans hx⟩
        unfold Pk6.check; rw [if_pos hfine, if_neg hl]
    clear_value J7
    simp only [Ld_eq, List.getElem?_cons_zero, List.getElem?_cons_succ, LdV_some, dec_int, add_mk, Nat.zero_add, r.cell]
    by_cases c1 : q.fl < 0
    · rw [decide_eq_true c1, cond_true]; exact h7t fun hf => by have := hf.2.1; omega
    · rw [decide_eq_false c1, cond_false]
      by_cases c2 : q.fl ≥ 1048576
      · rw [decide_eq_true c2]; exact h7t fun hf => by have := hf.2.2; omega
      · rw [decide_eq_false c2]; exact h7f (by omega)
  clear_value J4
  simp only [Ld_eq, List.getElem?_cons_zero, LdV_some, dec_int, add_mk, Nat.zero_add, r1.cell]
  refine cm_be_Fits (fits_ok q.tr 1 w1) ?_
  rintro _ _ ⟨rfl, rfl⟩
  by_cases g1 : fitsP q.tr 1
  · rw [decide_eq_true g1, Bool.not_true, cond_false]
    simp only [List.getElem?_cons_zero, List.getElem?_cons_succ, LdV_some, dec_int, r1.cell]
    refine cm_be_Fits (fits_ok q.nx 1 _) ?_
    rintro _ _ ⟨rfl, rfl⟩
    by_cases g2 : fitsP q.nx 1
    · rw [decide_eq_true g2, Bool.not_true, cond_false]
      simp only [List.getElem?_cons_zero, List.getElem?_cons_succ, LdV_some, dec_int, r1.cell]
      refine cm_be_Fits (fits_ok q.hp 1 _) ?_
      rintro _ _ ⟨rfl, rfl⟩
      by_cases g3 : fitsP q.hp 1
      · rw [decide_eq_true g3, Bool.not_true]; exact h4f _ (Ext.refl _) ⟨g1, g2, g3⟩
      · rw [decide_eq_false g3, Bool.not_false]; exact h4t _ f1 fun hf => g3 hf.1.2.2
    · rw [decide_eq_false g2, Bool.not_false, cond_true]; exact h4t _ f1 fun hf => g2 hf.1.2.1
  · rw [decide_eq_false g1, Bool.not_false, cond_true]; exact h4t _ f1 fun hf => g1 hf.1.1

/-- These are a packet. -/
structure Pk6L (w : World) (q : Pk6) (t0 t1 t2 t3 : Int) (ps qs : List Int) (s : SliceV) : Prop where
  n : t0 = q.tr ∧ t1 = q.fl ∧ t2 = q.nx ∧ t3 = q.hp
  src : ps = bi q.src
  dst : qs = bi q.dst
  data : SlB w s q.data

theorem Pk6L.ext {w w' : World} {q : Pk6} {t0 t1 t2 t3 : Int} {ps qs : List Int} {s : SliceV} (h : Pk6L w q t0 t1 t2 t3 ps qs s) (hx : Ext w w') : Pk6L w' q t0 t1 t2 t3 ps qs s := ⟨h.n, h.src, h.dst, h.data.ext hx⟩

theorem Buf_new {w : World} {s : SliceV} {vs : List Value} {k : Nat} (h : Buf w s vs) (hk : ∀ b, SliceV.at s b → k ≤ b) (x : Addr) (hx : s.a = some x) : k ≤ x.block := by
  obtain ⟨_, ⟨h2, _⟩ | ⟨b, pad, h2, _⟩⟩ := h
  · rw [hx] at h2; cases h2
  · rw [hx] at h2; cases h2
    exact hk b ⟨0, hx⟩

theorem wrap_ok {w : World} {p0 p1 p2 p3 p4 p5 p6 p7 p8 p9 p10 p11 p12 p13 p14 p15 q0 q1 q2 q3 q4 q5 q6 q7 q8 q9 q10 q11 q12 q13 q14 q15 hop : Int} {s : SliceV} {l src dst : List UInt8} (hs : SlB w s l) (hl : l.length ≤ 2 ^ 46) (hp : [p0, p1, p2, p3, p4, p5, p6, p7, p8, p9, p10, p11, p12, p13, p14, p15] = bi src) (hq : [q0, q1, q2, q3, q4, q5, q6, q7, q8, q9, q10, q11, q12, q13, q14, q15] = bi dst) :
    c_wrap_Wrap p0 p1 p2 p3 p4 p5 p6 p7 p8 p9 p10 p11 p12 p13 p14 p15 q0 q1 q2 q3 q4 q5 q6 q7 q8 q9 q10 q11 q12 q13 q14 q15 hop s w fun t0 t1 t2 t3 r0 r1 r2 r3 r4 r5 r6 r7 r8 r9 r10 r11 r12 r13 r14 r15 r16 r17 r18 r19 r20 r21 r22 r23 r24 r25 r26 r27 r28 r29 r30 r31 s' e w' => e = (⟨0, 0, 4, hop, src, dst, l⟩ : Pk6).check ∧ (e = 0 → Pk6L w' ⟨0, 0, 4, hop, src, dst, l⟩ t0 t1 t2 t3 [r0, r1, r2, r3, r4, r5, r6, r7, r8, r9, r10, r11, r12, r13, r14, r15] [r16, r17, r18, r19, r20, r21, r22, r23, r24, r25, r26, r27, r28, r29, r30, r31] s' ∧ NewS w s') ∧ Ext w w' := by
  apply ok_wrap_Wrap
  unfold s_wrap_Wrap
  refine Al_e fun a w1 r1 e1 z1 f1 => Al_e fun b w2 r2 e2 z2 f2 => Al_e fun c w3 r3 e3 z3 f3 => ?_
  have ra := (r1.ext f2).ext f3
  have rb := r2.ext f3
  simp only [Ld_eq, List.getElem?_cons_zero, List.getElem?_cons_succ, LdV_some, dec_int, add_mk, Nat.zero_add, Nat.add_zero, ra.cell, rb.cell]
  refine Al_f rfl rfl fun d w4 r4 e4 z4 f4 => ?_
  have x4 := (f1.trans f2).trans (f3.trans f4)
  refine cm_slices_Clone_byte_byte (clone_ok (hs.ext x4) hl) ?_
  rintro r w5 ⟨b5, _, f5, n5⟩
  refine St_row (r4.ext f5) rfl (by simp) fun w6 r6 f6 z6 => ?_
  simp only [List.set_cons_zero, List.set_cons_succ] at r6
  have f6d := f6 (· = d) rfl
  have hz4 := f4.size
  have hz3 := f3.size
  have hz2 := f2.size
  have hz1 := f1.size
  have hz5 := f5.size
  have x6 : Ext w w6 := (x4.trans f5).new f6d fun y hy e => by omega
  have b6 := b5.fr f6d fun c hc e => by have := n5 c hc; omega
  simp only [List.getElem?_cons_zero, List.getElem?_cons_succ, LdV_some, dec_slice, dec_int, add_mk, Nat.zero_add, Nat.add_zero, r6.cell]
  refine cm_v6_Check (check6_ok ⟨0, 0, 4, hop, src, dst, l⟩ (SlB.of_buf b6).1 w6) ?_
  rintro _ w7 ⟨rfl, f7⟩
  have r3' := ((((r3.ext f4).ext f5).fr f6d (by omega)).ext f7)
  have x7 := x6.trans f7
  by_cases hc : (⟨0, 0, 4, hop, src, dst, l⟩ : Pk6).check = 0
  · rw [hc]
    simp only [show ((0 : Int) != 0) = false from rfl, cond_false, List.getElem?_cons_zero, List.getElem?_cons_succ, LdV_some, dec_slice, dec_int, (r6.ext f7).cell]
    refine StN_full r3' rfl rfl fun w8 r8 f8 z8 => ?_
    have f8c := f8 (· = c) rfl
    simp only [List.getElem?_cons_zero, List.getElem?_cons_succ, LdV_some, dec_slice, dec_int, r8.cell]
    refine ⟨by trivial, fun _ => ⟨⟨⟨rfl, rfl, rfl, rfl⟩, hp, hq, (SlB.of_buf ((b6.ext f7).fr f8c fun y hy e => by have := n5 y hy; omega))⟩, Buf_new b5 fun y hy => by have := n5 y hy; omega⟩, x7.new f8c fun y hy e => by omega⟩
  · have hc' : ((⟨0, 0, 4, hop, src, dst, l⟩ : Pk6).check != 0) = true := by simpa using hc
    rw [hc', cond_true]
    refine StN_full r3' rfl rfl fun w8 r8 f8 z8 => ?_
    have f8c := f8 (· = c) rfl
    simp only [List.getElem?_cons_zero, List.getElem?_cons_succ, LdV_some, dec_slice, dec_int, r8.cell]
    exact ⟨by trivial, fun h0 => absurd h0 hc, x7.new f8c fun y hy e => by omega⟩



theorem SlB_row {w : World} {b o : Nat} {L A C : List Value} {l : List UInt8} (hr : Row w b L) (hL : L = A ++ (bytesV l ++ C)) (ho : A.length = o) {n : Nat} (hn : n = l.length) : SlB w ⟨some ⟨b, o, none⟩, n, n⟩ l := by
  subst hn
  refine ⟨rfl, ⟨by rw [bytesV_len], fun j hj => ?_⟩, Nat.le_refl _⟩
  rw [add_mk, hr.cell, hL, ← ho, List.getElem?_append_right (by omega), Nat.add_sub_cancel_left, List.getElem?_append_left hj]

theorem grow_ok {n : Nat} (hn : n ≤ 2 ^ 46) (w : World) : c_slices_Grow_byte_byte ⟨none, 0, 0⟩ (n : Int) w fun r w' => Buf w' r (bytesV []) ∧ Ext w w' ∧ ∀ b, SliceV.at r b → w.heap.size ≤ b := by
  apply ok_slices_Grow_byte_byte
  unfold s_slices_Grow_byte_byte
  rw [decide_eq_false (by omega), cond_false]
  have e0 : IntKind.i64.wrap (((0 : Nat) : Int) - ((0 : Nat) : Int)) = 0 := rfl
  simp -zeta only [e0]
  rw [show ((n : Int) - 0) = (n : Int) by omega, wrap_i64 (by omega) (by omega)]
  intro J
  by_cases hz : (n : Int) > 0
  · rw [decide_eq_true hz, cond_true]
    refine ⟨by omega, by omega, by simp, ?_⟩
    show AppMk 5 1 1 [.int .u8 0] (⟨none, 0, 0⟩ : SliceV) (n : Int) w _
    refine AppMk_grow (old := []) (by show 0 < 0 + n; omega) (by show (0 + n) * 1 ≤ _; omega) (by show 0 + n ≤ _; omega) rfl fun c w1 hc r1 f1 z1 => ?_
    have hc : 0 + n ≤ c := hc
    refine ⟨by omega, by omega, by simp, ?_⟩
    have hsub : subA (some (⟨w.heap.size, 0, none⟩ : Addr)) c (0 : Int).toNat 1 = some ⟨w.heap.size, 0, none⟩ := by
      unfold subA
      split <;> simp [Addr.add]
    show J ⟨subA (some (⟨w.heap.size, 0, none⟩ : Addr)) c (0 : Int).toNat 1, 0, c - 0⟩ w1
    rw [hsub]
    refine ⟨⟨rfl, .inr ⟨w.heap.size, repCells [.int .u8 0] n ++ repCells [.int .u8 0] (c - (0 + n)), rfl, ?_, by simpa [bytesV] using r1⟩⟩, f1, fun b ⟨o, hb⟩ => by cases hb; exact Nat.le_refl _⟩
    simp only [List.length_append, repCells_len, List.length_cons, List.length_nil, bytesV, List.map_nil]
    omega
  · rw [decide_eq_false hz, cond_false]
    exact ⟨Buf.nil, Ext.refl _, fun b ⟨o, hb⟩ => by cases hb⟩

/-- What stands in the parts. -/
def allP (ps : List (SliceV × List UInt8)) : List UInt8 := ps.flatMap (·.2)

theorem allP_le {ps : List (SliceV × List UInt8)} {n : Nat} (h : ∀ p ∈ ps, p.2.length ≤ n) : (allP ps).length ≤ ps.length * n := by
  induction ps with
  | nil => simp [allP]
  | cons p ps ih =>
    have h1 := h p (by simp)
    have h2 := ih fun q hq => h q (by simp [hq])
    unfold allP at h2 ⊢
    rw [List.flatMap_cons, List.length_append, List.length_cons, Nat.add_mul]; omega

theorem allP_take {ps : List (SliceV × List UInt8)} {i : Nat} {p : SliceV × List UInt8} (h : ps[i]? = some p) : allP (ps.take (i + 1)) = allP (ps.take i) ++ p.2 := by
  unfold allP
  rw [List.take_add_one, h, List.flatMap_append]; simp

theorem part_at {w : World} {s : SliceV} {ps : List (SliceV × List UInt8)} (hs : Parts w s ps) {i : Nat} {p : SliceV × List UInt8} (hp : ps[i]? = some p) {K : Addr → Prop} (hK : ∀ a, w.cell? a = some (.slice p.1.a p.1.len p.1.cap) → SlB w p.1 p.2 → K a) : AtIx s 1 (i : Int) K := by
  have hlt := (List.getElem?_eq_some_iff.1 hp).1
  have hl := hs.1
  obtain ⟨b, o, ha, hc, hb⟩ := hs.2 i p hp
  refine ⟨_, ha, by omega, by omega, ?_⟩
  rw [Int.toNat_natCast, Nat.mul_one, add_mk]
  exact hK _ hc hb

theorem concat_ok {w : World} {s : SliceV} {ps : List (SliceV × List UInt8)} (hs : Parts w s ps) (hn : ps.length ≤ 8) (hl : ∀ p ∈ ps, p.2.length ≤ 2 ^ 40) :
    c_slices_Concat_byte_byte s w fun r w' => Buf w' r (bytesV (allP ps)) ∧ Ext w w' ∧ ∀ b, SliceV.at r b → w.heap.size ≤ b := by
  apply ok_slices_Concat_byte_byte
  unfold s_slices_Concat_byte_byte
  have hsl := hs.1
  have bnd : ∀ i, (allP (ps.take i)).length ≤ 2 ^ 43 := fun i => by
    have h1 := allP_le (ps := ps.take i) (n := 2 ^ 40) fun p hp => hl p (List.mem_of_mem_take hp)
    have h2 : (ps.take i).length ≤ 8 := by simp; omega
    have h3 : (ps.take i).length * 2 ^ 40 ≤ 8 * 2 ^ 40 := Nat.mul_le_mul_right _ h2
    omega
  refine LoopP_inv (fun st W => W = w ∧ ∃ i : Nat, i ≤ ps.length ∧ st.2.1 = (i : Int) ∧ st.1 = ((allP (ps.take i)).length : Int)) (fun st _ => ps.length - st.2.1.toNat) ⟨rfl, 0, by omega, rfl, by simp [allP]⟩ ?_
  rintro ⟨t, x, ⟨⟩⟩ W ⟨rfl, i, hi, hx, ht⟩ next hnext
  simp only at hx ht
  subst hx ht
  by_cases hlt : (i : Int) < (s.len : Int)
  · rw [decide_eq_true hlt, cond_true]
    have hp := List.getElem?_eq_getElem (show i < ps.length by omega)
    generalize ps[i]'(by omega) = p at hp
    refine part_at hs hp fun a hc hb => ?_
    simp only [Ld_eq, hc, LdV_some, dec_slice]
    have b1 := bnd (i + 1)
    have e1 := allP_take hp
    have hpl := hb.1
    rw [e1, List.length_append] at b1
    rw [wrap_i64 (n := ((allP (ps.take i)).length : Int) + (p.1.len : Int)) (by omega) (by omega), decide_eq_false (by omega), cond_false, wrap_i64 (by omega) (by omega)]
    exact hnext _ _ ⟨rfl, i + 1, by omega, by simp, by rw [e1, List.length_append]; simp only; omega⟩ (by simp only; omega)
  · rw [decide_eq_false hlt, cond_false]
    have b1 := bnd i
    refine cm_slices_Grow_byte_byte (grow_ok (by omega) W) ?_
    rintro r w1 ⟨g1, g2, g3⟩
    refine LoopP_inv (fun st W' => ∃ j : Nat, j ≤ ps.length ∧ st.2.1 = (j : Int) ∧ Buf W' st.1 (bytesV (allP (ps.take j))) ∧ (∀ b, SliceV.at st.1 b → W.heap.size ≤ b) ∧ Ext W W') (fun st _ => ps.length - st.2.1.toNat) ⟨0, by omega, rfl, by simpa [allP] using g1, g3, g2⟩ ?_
    rintro ⟨u, x, ⟨⟩⟩ W' ⟨j, hj, hx, hb, hnw, hxx⟩ next' hnext'
    simp only at hx hb hnw
    subst hx
    by_cases hlj : (j : Int) < (s.len : Int)
    · rw [decide_eq_true hlj, cond_true]
      have hp := List.getElem?_eq_getElem (show j < ps.length by omega)
      generalize ps[j]'(by omega) = p at hp
      refine part_at (hs.fr hxx) hp fun a hc hbp => ?_
      simp only [Ld_eq, hc, LdV_some, dec_slice]
      have b2 := bnd (j + 1)
      have e1 := allP_take hp
      rw [e1, List.length_append] at b2
      refine AppSl_bytes hb hbp (by omega) fun s' w' h1 h2 h3 _ => ?_
      rw [wrap_i64 (by omega) (by omega)]
      have z1 := hxx.size
      refine hnext' _ _ ⟨j + 1, by omega, by simp, by rw [e1]; exact h1, fun b hb' => ?_, hxx.new h2 fun y hy hb' => by have := hnw y hb'; omega⟩ (by simp only; omega)
      rcases h3 b hb' with g | g
      · exact hnw b g
      · omega
    · rw [decide_eq_false hlj, cond_false]
      rw [List.take_of_length_le (by omega)] at hb
      exact ⟨hb, hxx, hnw⟩

theorem putL_fit {l : List UInt8} {n k : Nat} (hk : 1 ≤ k ∧ k ≤ 4) (hn : n < 256 ^ k) : putL l (n : Int) (k : Int) = l ++ beN k n := by
  have : fitsP (n : Int) (k : Int) := ⟨⟨by omega, by omega⟩, by omega, by
    rw [Int.toNat_natCast]
    have : ((256 ^ k : Nat) : Int) = (256 : Int) ^ k := by simp
    omega⟩
  unfold putL
  rw [if_pos this]; rfl

theorem first_ok {q : Pk6} (h : q.fine) : orI .i64 (orI .i64 1610612736 (shlI .i64 q.tr 20)) q.fl = (q.first : Int) ∧ q.first < 4294967296 := by
  obtain ⟨⟨f1, f2, f3⟩, f4, f5⟩ := h
  have g1 := fits1 f1
  obtain ⟨a, ha⟩ : ∃ a : Nat, q.tr = (a : Int) := ⟨q.tr.toNat, by omega⟩
  obtain ⟨b, hb⟩ : ∃ b : Nat, q.fl = (b : Int) := ⟨q.fl.toNat, by omega⟩
  have hfirst : q.first = 1610612736 + a * 1048576 + b := by unfold Pk6.first; rw [ha, hb]; simp
  rw [hfirst, ha, hb]
  refine ⟨?_, by omega⟩
  rw [show (20 : Int) = ((20 : Nat) : Int) from rfl, shl_i64 (by omega) (by omega), show (1610612736 : Int) = ((1610612736 : Nat) : Int) from rfl, or_i64 (by omega) (by omega)]
  have e1 : 1610612736 ||| a * 2 ^ 20 = 1610612736 + a * 2 ^ 20 := by
    rw [show (1610612736 : Nat) = 6 * 2 ^ 28 from rfl]
    exact or_add (by omega)
  rw [e1, or_i64 (by omega) (by omega)]
  have e2 : (1610612736 + a * 2 ^ 20) ||| b = 1610612736 + a * 2 ^ 20 + b := by
    rw [show (1610612736 : Nat) + a * 2 ^ 20 = (1536 + a) * 2 ^ 20 by omega]
    exact or_add (by omega)
  rw [e2]

theorem u8_wrap {n : Int} (h : fitsP n 1) : IntKind.u8.wrap n = ((UInt8.ofNat n.toNat).toNat : Int) := by
  have := fits1 h
  rw [IntKind.wrap_u8]; simp; omega

theorem build6_ok {w : World} {q : Pk6} {t0 t1 t2 t3 p0 p1 p2 p3 p4 p5 p6 p7 p8 p9 p10 p11 p12 p13 p14 p15 p16 p17 p18 p19 p20 p21 p22 p23 p24 p25 p26 p27 p28 p29 p30 p31 : Int} {s : SliceV} (h : Pk6L w q t0 t1 t2 t3 [p0, p1, p2, p3, p4, p5, p6, p7, p8, p9, p10, p11, p12, p13, p14, p15] [p16, p17, p18, p19, p20, p21, p22, p23, p24, p25, p26, p27, p28, p29, p30, p31] s) (hl : q.data.length ≤ 2 ^ 40) :
    c_v6_Build t0 t1 t2 t3 p0 p1 p2 p3 p4 p5 p6 p7 p8 p9 p10 p11 p12 p13 p14 p15 p16 p17 p18 p19 p20 p21 p22 p23 p24 p25 p26 p27 p28 p29 p30 p31 s w fun r e w' => e = q.check ∧ (e = 0 → SlB w' r q.bytes ∧ NewS w r) ∧ Ext w w' := by
  obtain ⟨⟨rfl, rfl, rfl, rfl⟩, hsrc, hdst, hdata⟩ := h
  apply ok_v6_Build
  unfold s_v6_Build
  refine Al_e fun a w1 r1 e1 z1 f1 => ?_
  simp only [Ld_eq, List.getElem?_cons_zero, List.getElem?_cons_succ, LdV_some, dec_slice, dec_int, add_mk, Nat.zero_add, Nat.add_zero, r1.cell]
  refine cm_v6_Check (check6_ok q hdata.1 w1) ?_
  rintro _ w2 ⟨rfl, f2⟩
  by_cases hc : q.check = 0
  · rw [hc]
    obtain ⟨hf, hdl⟩ := check6_zero hc
    obtain ⟨o1, o2⟩ := first_ok hf
    obtain ⟨⟨g1, g2, g3⟩, _⟩ := id hf
    have hlen := hdata.1
    simp only [show ((0 : Int) != 0) = false from rfl, cond_false, List.getElem?_cons_zero, List.getElem?_cons_succ, LdV_some, dec_int, (r1.ext f2).cell, o1]
    refine ⟨by omega, ?_⟩
    refine cm_be_Put (put_ok SlB.nil (by simp) _ 4) ?_
    rintro t3 w3 ⟨b3, f3, n3⟩
    rw [show (4 : Int) = ((4 : Nat) : Int) from rfl, putL_fit (by omega) (by omega), List.nil_append] at b3
    simp only [List.getElem?_cons_zero, List.getElem?_cons_succ, LdV_some, dec_slice, ((r1.ext f2).ext f3).cell]
    refine cm_be_Put (put_ok (SlB.of_buf b3) (by rw [beN_len]; omega) _ 2) ?_
    rintro t4 w4 ⟨b4, f4, n4⟩
    rw [hlen, show (2 : Int) = ((2 : Nat) : Int) from rfl, putL_fit (by omega) (by omega)] at b4
    have x4 := (f2.trans f3).trans f4
    simp only [List.getElem?_cons_zero, List.getElem?_cons_succ, LdV_some, dec_int, (r1.ext x4).cell]
    refine Al_e fun c w5 r5 e5 z5 f5 => ?_
    have r5' : Row w5 c (bytesV [UInt8.ofNat q.nx.toNat, UInt8.ofNat q.hp.toNat]) := by
      rw [u8_wrap g2, u8_wrap g3] at r5; exact r5
    have hx5 : SlB w5 ⟨some ⟨c, 0, none⟩, 2, 2⟩ [UInt8.ofNat q.nx.toNat, UInt8.ofNat q.hp.toNat] := .of_buf (SlB.row (l := [UInt8.ofNat q.nx.toNat, UInt8.ofNat q.hp.toNat]) r5')
    refine AppSl_bytes (b4.ext f5) hx5 (by simp [beN_len]) fun t6 w6 b6 f6 n6 _ => ?_
    have z4 := x4.size
    have z3 := (f2.trans f3).size
    have z5' := f5.size
    have x6 : Ext w1 w6 := (x4.trans f5).new f6 fun y hy hb => by have := n4 y hb; omega
    have x6d := x6.trans (Ext.drew w6)
    have r6 := r1.ext x6d
    refine SubArr16 (SubArr16 ?_)
    simp only [List.getElem?_cons_zero, List.getElem?_cons_succ, LdV_some, dec_slice, r6.cell]
    refine Al_e fun g w7 r7 e7 z7 f7 => ?_
    have x7 := x6d.trans f7
    have hsl : bytesV q.src = [.int .u8 p0, .int .u8 p1, .int .u8 p2, .int .u8 p3, .int .u8 p4, .int .u8 p5, .int .u8 p6, .int .u8 p7, .int .u8 p8, .int .u8 p9, .int .u8 p10, .int .u8 p11, .int .u8 p12, .int .u8 p13, .int .u8 p14, .int .u8 p15] := by rw [bytesV_bi, ← hsrc]; rfl
    have hdl' : bytesV q.dst = [.int .u8 p16, .int .u8 p17, .int .u8 p18, .int .u8 p19, .int .u8 p20, .int .u8 p21, .int .u8 p22, .int .u8 p23, .int .u8 p24, .int .u8 p25, .int .u8 p26, .int .u8 p27, .int .u8 p28, .int .u8 p29, .int .u8 p30, .int .u8 p31] := by rw [bytesV_bi, ← hdst]; rfl
    have ls : q.src.length = 16 := by have := congrArg List.length hsrc; simp [bi] at this; exact this.symm
    have ld : q.dst.length = 16 := by have := congrArg List.length hdst; simp [bi] at this; exact this.symm
    have r17 := r1.ext x7
    have hs7 : SlB w7 ⟨some ⟨a, 4, none⟩, 16, 16⟩ q.src := SlB_row (o := 4) r17 (A := [.int .i64 q.tr, .int .i64 q.fl, .int .i64 q.nx, .int .i64 q.hp]) (C := [.int .u8 p16, .int .u8 p17, .int .u8 p18, .int .u8 p19, .int .u8 p20, .int .u8 p21, .int .u8 p22, .int .u8 p23, .int .u8 p24, .int .u8 p25, .int .u8 p26, .int .u8 p27, .int .u8 p28, .int .u8 p29, .int .u8 p30, .int .u8 p31] ++ [.slice s.a s.len s.cap]) (by rw [hsl]; rfl) rfl ls.symm
    have hd7 : SlB w7 ⟨some ⟨a, 20, none⟩, 16, 16⟩ q.dst := SlB_row (o := 20) r17 (A := [.int .i64 q.tr, .int .i64 q.fl, .int .i64 q.nx, .int .i64 q.hp] ++ [.int .u8 p0, .int .u8 p1, .int .u8 p2, .int .u8 p3, .int .u8 p4, .int .u8 p5, .int .u8 p6, .int .u8 p7, .int .u8 p8, .int .u8 p9, .int .u8 p10, .int .u8 p11, .int .u8 p12, .int .u8 p13, .int .u8 p14, .int .u8 p15]) (C := [.slice s.a s.len s.cap]) (by rw [hdl']; rfl) (by simp) ld.symm
    have hb7 : SlB w7 t6 q.head := by
      have := SlB.of_buf ((b6.ext (Ext.drew w6)).ext f7)
      exact this
    have hda7 : SlB w7 s q.data := hdata.ext (f1.trans x7)
    have hparts : Parts w7 ⟨some ⟨g, 0, none⟩, 4, 4⟩ [(t6, q.head), (⟨some ⟨a, 4, none⟩, 16, 16⟩, q.src), (⟨some ⟨a, 20, none⟩, 16, 16⟩, q.dst), (s, q.data)] := by
      refine ⟨rfl, fun i p hp => ?_⟩
      refine ⟨g, 0, rfl, ?_⟩
      rw [Nat.zero_add, r7.cell]
      match i, hp with
      | 0, hp => cases hp; exact ⟨rfl, hb7⟩
      | 1, hp => cases hp; exact ⟨rfl, hs7⟩
      | 2, hp => cases hp; exact ⟨rfl, hd7⟩
      | 3, hp => cases hp; exact ⟨rfl, hda7⟩
      | n + 4, hp => simp at hp
    refine cm_slices_Concat_byte_byte (concat_ok hparts (by simp) fun p hp => ?_) ?_
    · have hh := head6_len q
      simp only [List.mem_cons, List.not_mem_nil, or_false] at hp
      rcases hp with rfl | rfl | rfl | rfl <;> simp only <;> omega
    · rintro r8 w8 ⟨b8, f8, n8⟩
      have zx7 := x7.size
      have zf1 := f1.size
      refine ⟨by trivial, fun _ => ?_, f1.trans (x7.trans f8)⟩
      have e8 : allP [(t6, q.head), (⟨some ⟨a, 4, none⟩, 16, 16⟩, q.src), (⟨some ⟨a, 20, none⟩, 16, 16⟩, q.dst), (s, q.data)] = q.bytes := by
        unfold allP Pk6.bytes; simp
      rw [e8] at b8
      exact ⟨SlB.of_buf b8, Buf_new b8 fun y hy => by have := n8 y hy; omega⟩
  · have hc' : (q.check != 0) = true := by simpa using hc
    rw [hc', cond_true]
    exact ⟨rfl, fun h0 => absurd h0 hc, f1.trans f2⟩



theorem SlB_pre {w : World} {s : SliceV} {l : List UInt8} (h : SlB w s l) {n : Nat} (hn : n ≤ l.length) : CellsO w s.a (n * 1) (bytesV (l.take n)) := by
  cases ha : s.a with
  | none =>
    have := h.empty ha
    subst this
    simp only [List.length_nil] at hn
    obtain rfl : n = 0 := by omega
    rfl
  | some a =>
    have hc := h.2.1
    rw [ha] at hc
    refine ⟨by rw [bytesV_len, List.length_take]; omega, fun j hj => ?_⟩
    rw [bytesV_len, List.length_take] at hj
    rw [hc.2 j (by rw [bytesV_len]; omega)]
    unfold bytesV
    rw [List.getElem?_map, List.getElem?_map, List.getElem?_take, if_pos (by omega)]

theorem cut40 (l : List UInt8) (n : Nat) : (l.take (min l.length (40 + n))).drop 40 = (l.drop 40).take n := by
  rw [List.drop_take]
  by_cases h : 40 + n ≤ l.length
  · rw [Nat.min_eq_right h]; congr 1; omega
  · rw [Nat.min_eq_left (by omega), List.take_of_length_le (by rw [List.length_drop]; omega), List.take_of_length_le (by rw [List.length_drop]; omega)]

theorem read6_ok {w : World} {s : SliceV} {l : List UInt8} (hs : SlB w s l) (hl : l.length ≤ 2 ^ 40) (b : Bool) :
    c_v6_read s b w fun t0 t1 t2 t3 r0 r1 r2 r3 r4 r5 r6 r7 r8 r9 r10 r11 r12 r13 r14 r15 r16 r17 r18 r19 r20 r21 r22 r23 r24 r25 r26 r27 r28 r29 r30 r31 s' e w' => e = read6E l b ∧ (e = 0 → Pk6L w' (field6 l) t0 t1 t2 t3 [r0, r1, r2, r3, r4, r5, r6, r7, r8, r9, r10, r11, r12, r13, r14, r15] [r16, r17, r18, r19, r20, r21, r22, r23, r24, r25, r26, r27, r28, r29, r30, r31] s' ∧ NewS w s') ∧ Ext w w' := by
  apply ok_v6_read
  unfold s_v6_read
  have hlen := hs.1
  refine Al_e fun a w1 r1 e1 z1 f1 => ?_
  by_cases h40 : (s.len : Int) < 40
  · have er : read6E l b = 3 := by unfold read6E; rw [if_pos (by omega)]
    rw [decide_eq_true h40, cond_true]
    refine StN_full r1 rfl rfl fun w5 r5 f5 _ => ?_
    simp only [Ld_eq, List.getElem?_cons_zero, List.getElem?_cons_succ, LdV_some, dec_slice, dec_int, add_mk, Nat.zero_add, Nat.add_zero, r5.cell]
    exact ⟨er.symm, fun h0 => by omega, f1.new (f5 (· = a) rfl) fun y hy e => by omega⟩
  rw [decide_eq_false h40, cond_false]
  have e40 : ¬ l.length < 40 := by omega
  refine cm_be_Get (get_ok (hs.ext f1) (by omega) 0 4) ?_
  rintro n0 e0 w2 ⟨hw, hg0⟩
  subst hw
  have hn0 := getR_in (at_ := 0) (k := 4) (by omega) (by omega) hg0
  refine cm_be_Get (get_ok (hs.ext f1) (by omega) 4 2) ?_
  rintro n4 e4 w3 ⟨hw, hg4⟩
  subst hw
  have hn4 := getR_in (at_ := 4) (k := 2) (by omega) (by omega) hg4
  subst hn0 hn4
  have l0 : num l 0 4 < 2 ^ 32 := num_lt (by omega)
  have l4 : num l 4 2 < 65536 := field_num_lt l 4
  refine ⟨by omega, ?_⟩
  rw [show (28 : Int) = ((28 : Nat) : Int) from rfl, shr_i64 (by omega)]
  by_cases hv : num l 0 4 / 268435456 = 6
  · have : ((((num l 0 4 / 2 ^ 28 : Nat)) : Int) != 6) = false := by rw [bne_eq_false_iff_eq]; omega
    rw [this, cond_false]
    intro J
    have jt : read6E l b = 3 → J true := by
      intro er
      simp only [J, cond_true]
      refine StN_full r1 rfl rfl fun w5 r5 f5 _ => ?_
      simp only [Ld_eq, List.getElem?_cons_zero, List.getElem?_cons_succ, LdV_some, dec_slice, dec_int, add_mk, Nat.zero_add, Nat.add_zero, r5.cell]
      exact ⟨er.symm, fun h0 => by omega, f1.new (f5 (· = a) rfl) fun y hy e => by omega⟩
    have jf : read6E l b = 0 → J false := by
      intro er
      simp only [J, cond_false]
      refine ⟨by omega, ?_⟩
      have hs1 := (hs.ext f1).ext (Ext.drew w3)
      refine byte_at hs1 (i := 6) (by omega) fun a6 c6 k6 => ?_
      simp only [Ld_eq, LdV_some, dec_int, add_mk, Nat.zero_add, Nat.add_zero, c6]
      refine byte_at hs1 (i := 7) (by omega) fun a7 c7 k7 => ?_
      simp only [LdV_some, dec_int, c7]
      refine Al_e fun d w4 r4 e4 z4 f4 => ?_
      refine ⟨cell_ext c7 f4, cell_ext c6 f4, ?_⟩
      refine StN_full r4 rfl rfl fun w5 r5 f5 z5 => ?_
      have f5d := f5 (· = d) rfl
      have zd : w3.drew.heap.size = w3.heap.size := rfl
      have z1' := f1.size
      have x5 : Ext w3 w5 := ((Ext.drew w3).trans f4).new f5d fun y hy e => by omega
      have x5d := x5.trans (Ext.drew w5)
      have hs5 := (hs.ext f1).ext x5d
      have r5d := r5.drew
      simp only [add_mk, Nat.zero_add]
      refine SubArr16 ?_
      refine SubSl_bytes hs5 (by omega) (by omega) (by omega) fun s6 hs6 _ => ?_
      rw [Int.toNat_natCast, hlen, List.take_of_length_le (Nat.le_refl _)] at hs6
      have hs6 : SlB w5.drew s6 (l.drop 8) := hs6
      have ls6 := hs6.1
      rw [List.length_drop] at ls6
      have k16 : ((l.drop 8).take 16).length = 16 := by rw [List.length_take, List.length_drop]; omega
      obtain ⟨xa0, xa1, xa2, xa3, xa4, xa5, xa6, xa7, xa8, xa9, xa10, xa11, xa12, xa13, xa14, xa15, hb1, hv1⟩ := ex16 k16
      refine CopySl_row (m := 16) (vs := bytesV ((l.drop 8).take 16)) (by show min (_ : Nat) _ = _; omega) (SlB_pre hs6 (by rw [List.length_drop]; omega)) r5d (by rw [bytesV_len, k16]; simp) (bytesV_one _) fun w6 r6 f6 => ?_
      rw [hv1] at r6
      have r6 : Row w6 d [.int .i64 (andI .i64 (shrI .i64 (num l 0 4 : Int) 20) 255), .int .i64 (andI .i64 (num l 0 4 : Int) 1048575), .int .i64 (IntKind.i64.wrap (l[6].toNat : Int)), .int .i64 (IntKind.i64.wrap (l[7].toNat : Int)), .int .u8 xa0, .int .u8 xa1, .int .u8 xa2, .int .u8 xa3, .int .u8 xa4, .int .u8 xa5, .int .u8 xa6, .int .u8 xa7, .int .u8 xa8, .int .u8 xa9, .int .u8 xa10, .int .u8 xa11, .int .u8 xa12, .int .u8 xa13, .int .u8 xa14, .int .u8 xa15, .int .u8 0, .int .u8 0, .int .u8 0, .int .u8 0, .int .u8 0, .int .u8 0, .int .u8 0, .int .u8 0, .int .u8 0, .int .u8 0, .int .u8 0, .int .u8 0, .int .u8 0, .int .u8 0, .int .u8 0, .int .u8 0, .slice none 0 0] := r6
      have x6 : Ext w3 w6.drew := (x5d.new f6 fun y hy e => by omega).trans (Ext.drew w6)
      have zd6 : w6.drew.heap.size = w6.heap.size := rfl
      refine SubArr16 ?_
      refine SubSl_bytes ((hs.ext f1).ext x6) (by omega) (by omega) (by omega) fun s7 hs7 _ => ?_
      rw [Int.toNat_natCast, hlen, List.take_of_length_le (Nat.le_refl _)] at hs7
      have hs7 : SlB w6.drew s7 (l.drop 24) := hs7
      have ls7 := hs7.1
      rw [List.length_drop] at ls7
      have q16 : ((l.drop 24).take 16).length = 16 := by rw [List.length_take, List.length_drop]; omega
      obtain ⟨ya0, ya1, ya2, ya3, ya4, ya5, ya6, ya7, ya8, ya9, ya10, ya11, ya12, ya13, ya14, ya15, hb2, hv2⟩ := ex16 q16
      refine CopySl_row (m := 16) (vs := bytesV ((l.drop 24).take 16)) (by show min (_ : Nat) _ = _; omega) (SlB_pre hs7 (by rw [List.length_drop]; omega)) r6.drew (by rw [bytesV_len, q16]; simp) (bytesV_one _) fun w7 r7 f7 => ?_
      rw [hv2] at r7
      have r7 : Row w7 d [.int .i64 (andI .i64 (shrI .i64 (num l 0 4 : Int) 20) 255), .int .i64 (andI .i64 (num l 0 4 : Int) 1048575), .int .i64 (IntKind.i64.wrap (l[6].toNat : Int)), .int .i64 (IntKind.i64.wrap (l[7].toNat : Int)), .int .u8 xa0, .int .u8 xa1, .int .u8 xa2, .int .u8 xa3, .int .u8 xa4, .int .u8 xa5, .int .u8 xa6, .int .u8 xa7, .int .u8 xa8, .int .u8 xa9, .int .u8 xa10, .int .u8 xa11, .int .u8 xa12, .int .u8 xa13, .int .u8 xa14, .int .u8 xa15, .int .u8 ya0, .int .u8 ya1, .int .u8 ya2, .int .u8 ya3, .int .u8 ya4, .int .u8 ya5, .int .u8 ya6, .int .u8 ya7, .int .u8 ya8, .int .u8 ya9, .int .u8 ya10, .int .u8 ya11, .int .u8 ya12, .int .u8 ya13, .int .u8 ya14, .int .u8 ya15, .slice none 0 0] := r7
      have x7 : Ext w3 w7 := x6.new f7 fun y hy e => by omega
      have ehi : (if (s.len : Int) < IntKind.i64.wrap (40 + (num l 4 2 : Int)) then (s.len : Int) else IntKind.i64.wrap (40 + (num l 4 2 : Int))) = ((min l.length (40 + num l 4 2) : Nat) : Int) := by
        rw [wrap_i64 (by omega) (by omega)]
        split <;> omega
      rw [ehi]
      refine SubSl_bytes ((hs.ext f1).ext x7) (by omega) (by omega) (by omega) fun s8 hs8 _ => ?_
      rw [Int.toNat_natCast, show Int.toNat 40 = 40 from rfl, cut40] at hs8
      refine cm_slices_Clone_byte_byte (clone_ok hs8 (by rw [List.length_take, List.length_drop]; omega)) ?_
      rintro r9 w9 ⟨b9, _, f9, n9⟩
      have r9r := r7.ext f9
      refine St_row r9r rfl (by simp) fun w10 r10 f10 z10 => ?_
      simp only [List.set_cons_zero, List.set_cons_succ] at r10
      have f10d := f10 (· = d) rfl
      have z7 := x7.size
      have zf6 := f6.size
      have zf7 := f7.size
      have hz5 : w5.drew.heap.size = w5.heap.size := rfl
      have b10 := b9.fr f10d fun c hc e => by have := n9 c hc; omega
      have x10 : Ext w3 w10 := (x7.trans f9).new f10d fun y hy e => by omega
      simp only [List.getElem?_cons_zero, List.getElem?_cons_succ, LdV_some, dec_slice, dec_int, r10.cell]
      refine StN_full (r1.ext x10) rfl rfl fun w11 r11 f11 z11 => ?_
      have f11a := f11 (· = a) rfl
      simp only [List.getElem?_cons_zero, List.getElem?_cons_succ, LdV_some, dec_slice, dec_int, r11.cell]
      have zf9 := f9.size
      refine ⟨er.symm, fun _ => ⟨⟨⟨?_, ?_, ?_, ?_⟩, hb1.symm, hb2.symm, ?_⟩, Buf_new b9 fun c hc => by have := n9 c hc; omega⟩, (f1.trans x10).new f11a fun y hy e => by omega⟩
      · rw [show (20 : Int) = ((20 : Nat) : Int) from rfl, shr_i64 (by omega), show (255 : Int) = ((2 ^ 8 - 1 : Nat) : Int) from rfl, and_i64 (by omega) (by decide), and_low]; rfl
      · rw [show (1048575 : Int) = ((2 ^ 20 - 1 : Nat) : Int) from rfl, and_i64 (by omega) (by decide), and_low]; rfl
      · have := l[6].toNat_lt
        rw [wrap_i64 (by omega) (by omega)]
        show _ = ((num l 6 1 : Nat) : Int)
        rw [num_one (by omega)]
      · have := l[7].toNat_lt
        rw [wrap_i64 (by omega) (by omega)]
        show _ = ((num l 7 1 : Nat) : Int)
        rw [num_one (by omega)]
      · exact SlB.of_buf (b10.fr f11a fun c hc e => by have := n9 c hc; omega)
    clear_value J
    rw [wrap_i64 (by omega) (by omega)]
    by_cases hbig : ((num l 4 2 : Nat) : Int) > (s.len : Int) - 40
    · rw [decide_eq_true hbig, cond_true]
      cases b with
      | true => exact jf (by unfold read6E; rw [if_neg e40, if_neg (by omega), if_neg (by simp)])
      | false => exact jt (by unfold read6E; rw [if_neg e40, if_neg (by omega), if_pos ⟨rfl, by omega⟩])
    · rw [decide_eq_false hbig, cond_false]
      exact jf (by unfold read6E; rw [if_neg e40, if_neg (by omega), if_neg (by omega)])
  · have er : read6E l b = 4 := by unfold read6E; rw [if_neg e40, if_pos hv]
    have : ((((num l 0 4 / 2 ^ 28 : Nat)) : Int) != 6) = true := by
      rw [bne_iff_ne]; omega
    rw [this, cond_true]
    refine StN_full r1 rfl rfl fun w5 r5 f5 _ => ?_
    simp only [Ld_eq, List.getElem?_cons_zero, List.getElem?_cons_succ, LdV_some, dec_slice, dec_int, add_mk, Nat.zero_add, Nat.add_zero, r5.cell]
    exact ⟨er.symm, fun h0 => by omega, f1.new (f5 (· = a) rfl) fun y hy e => by omega⟩



theorem andNot7 {n : Nat} (hn : n < 2 ^ 62) : andNotI .i64 (n : Int) 7 = ((n / 8 * 8 : Nat) : Int) := by
  unfold andNotI
  have h1 : (BitVec.ofInt (IntKind.bits .i64) (n : Int)).toNat = n := by rw [bits64, BitVec.toNat_ofInt]; omega
  have h2 : (~~~(BitVec.ofInt (IntKind.bits .i64) 7)).toNat = (2 ^ 61 - 1) <<< 3 := by rw [bits64]; rfl
  rw [BitVec.toNat_and, h1, h2]
  have e : n &&& ((2 ^ 61 - 1) <<< 3) = n / 8 * 8 := by
    rw [show n / 8 * 8 = (n >>> 3) <<< 3 by rw [Nat.shiftLeft_eq, Nat.shiftRight_eq_div_pow]]
    refine Nat.eq_of_testBit_eq fun i => ?_
    rw [Nat.testBit_and, Nat.testBit_shiftLeft, Nat.testBit_shiftLeft, Nat.testBit_two_pow_sub_one, Nat.testBit_shiftRight]
    by_cases h3 : i ≥ 3
    · rw [decide_eq_true h3, Bool.true_and, Bool.true_and, show 3 + (i - 3) = i by omega]
      by_cases h6 : i - 3 < 61
      · rw [decide_eq_true h6, Bool.and_true]
      · have : n.testBit i = false := Nat.testBit_lt_two_pow (Nat.lt_of_lt_of_le hn (Nat.pow_le_pow_right (by omega) (by omega)))
        rw [this]; rfl
    · rw [decide_eq_false h3]; simp
  rw [e, wrap_i64 (by omega) (by omega)]

def fragP (l : List UInt8) (w' : World) (nx off : Int) (r : SliceV) : Prop := nx = (num l 0 1 : Int) ∧ off = ((num l 2 2 / 8 * 8 : Nat) : Int) ∧ SlB w' r (l.drop 8)

theorem frag_ok {w : World} {s : SliceV} {l : List UInt8} (hs : SlB w s l) (hl : l.length ≤ 2 ^ 40) :
    c_v6_ParseFrag s w fun nx off _ _ r e w' => e = (if l.length < 8 then 3 else 0) ∧ (e = 0 → fragP l w' nx off r) ∧ Ext w w' := by
  apply ok_v6_ParseFrag
  unfold s_v6_ParseFrag
  have hlen := hs.1
  refine Al_e fun a w1 r1 e1 z1 f1 => ?_
  by_cases h8 : (s.len : Int) < 8
  · rw [decide_eq_true h8, cond_true]
    refine StN_full r1 rfl rfl fun w5 r5 f5 _ => ?_
    simp only [Ld_eq, List.getElem?_cons_zero, List.getElem?_cons_succ, LdV_some, dec_int, dec_bool, add_mk, Nat.zero_add, Nat.add_zero, r5.cell]
    rw [if_pos (by omega)]
    exact ⟨rfl, fun h0 => by omega, f1.new (f5 (· = a) rfl) fun y hy e => by omega⟩
  rw [decide_eq_false h8, cond_false, if_neg (by omega)]
  refine cm_be_Get (get_ok (hs.ext f1) (by omega) 2 2) ?_
  rintro n2 e2 w2 ⟨hw, hg2⟩
  subst hw
  have hn2 := getR_in (at_ := 2) (k := 2) (by omega) (by omega) hg2
  refine cm_be_Get (get_ok (hs.ext f1) (by omega) 4 4) ?_
  rintro n4 e4 w3 ⟨hw, hg4⟩
  subst hw
  subst hn2
  have l2 : num l 2 2 < 65536 := field_num_lt l 2
  refine byte_at (hs.ext f1) (i := 0) (by omega) fun a0 c0 k0 => ?_
  simp only [Ld_eq, LdV_some, dec_int, add_mk, Nat.zero_add, Nat.add_zero, c0]
  refine Al_e fun d w4 r4 e4 z4 f4 => ?_
  refine StN_full r4 rfl rfl fun w5 r5 f5 z5 => ?_
  have f5d := f5 (· = d) rfl
  have z1' := f1.size
  have x5 : Ext w3 w5.drew := (f4.new f5d fun y hy e => by omega).trans (Ext.drew w5)
  have r5d := r5.drew
  simp only [List.getElem?_cons_zero, List.getElem?_cons_succ, LdV_some, dec_int, dec_bool, add_mk, Nat.zero_add, Nat.add_zero, r5d.cell]
  refine SubSl_bytes ((hs.ext f1).ext x5) (by omega) (by omega) (by omega) fun s6 hs6 _ => ?_
  rw [Int.toNat_natCast, hlen, List.take_of_length_le (Nat.le_refl _)] at hs6
  have hs6 : SlB w5.drew s6 (l.drop 8) := hs6
  refine cm_slices_Clone_byte_byte (clone_ok hs6 (by rw [List.length_drop]; omega)) ?_
  rintro r7 w7 ⟨b7, _, f7, n7⟩
  simp only [true_and, List.getElem?_cons_zero, List.getElem?_cons_succ, (r5d.ext f7).cell]
  have x7 := x5.trans f7
  have z7 := x5.size
  refine StN_full (r1.ext x7) rfl rfl fun w8 r8 f8 z8 => ?_
  have f8a := f8 (· = a) rfl
  simp only [List.getElem?_cons_zero, List.getElem?_cons_succ, LdV_some, dec_int, dec_bool, r8.cell]
  have k1 : IntKind.i64.wrap (l[0].toNat : Int) = (num l 0 1 : Int) := by
    have := l[0].toNat_lt
    rw [wrap_i64 (by omega) (by omega), num_one (by omega)]
  have fin : fragP l w8 (IntKind.i64.wrap (l[0].toNat : Int)) (andNotI .i64 ((num l 2 2 : Nat) : Int) 7) r7 := ⟨k1, andNot7 (by omega), SlB.of_buf (b7.fr f8a fun c hc e => by have := n7 c hc; omega)⟩
  have fx : Ext w w8 := (f1.trans x7).new f8a fun y hy e => by omega
  first | exact ⟨fin, fx⟩ | exact ⟨fun _ => fin, fx⟩ | exact ⟨rfl, fun _ => fin, fx⟩ | exact ⟨by trivial, fun _ => fin, fx⟩



theorem num_two {l : List UInt8} {i : Nat} (h : i + 1 < l.length) : num l i 2 = l[i].toNat * 256 + l[i + 1].toNat := by
  unfold num
  rw [List.drop_eq_getElem_cons (show i < l.length by omega), List.drop_eq_getElem_cons h, List.take_succ_cons, List.take_succ_cons]
  simp [numBE]

theorem num_four {l : List UInt8} (h : 3 < l.length) : num l 0 4 = ((l[0].toNat * 256 + l[1].toNat) * 256 + l[2].toNat) * 256 + l[3].toNat := by
  unfold num
  rw [List.drop_eq_getElem_cons (show 0 < l.length by omega), List.drop_eq_getElem_cons (show 0 + 1 < l.length by omega), List.drop_eq_getElem_cons (show 0 + 1 + 1 < l.length by omega), List.drop_eq_getElem_cons (show 0 + 1 + 1 + 1 < l.length by omega), List.take_succ_cons, List.take_succ_cons, List.take_succ_cons, List.take_succ_cons]
  simp [numBE]

def zs (n : Nat) : List Value := List.replicate n (.int .u8 0)

theorem byte_old {w W : World} {s : SliceV} {l : List UInt8} (h : SlB w s l) (hx : Ext w W) {i : Nat} (hi : i < l.length) {K : Addr → Prop} (hK : ∀ a, W.cell? (a) = some (.int .u8 (l[i].toNat : Int)) → (a.block < w.heap.size) → K a) : AtIx s 1 (i : Int) K := by
  have hsl := h.1
  obtain ⟨a, ha, hc⟩ := h.at_ (List.getElem?_eq_getElem hi)
  exact ⟨a, ha, by omega, by omega, hK _ (by rw [Int.toNat_natCast, Nat.mul_one]; exact cell_ext hc hx) (by rw [Int.toNat_natCast, Nat.mul_one]; exact cell_lt hc)⟩

theorem efl_num {a b c d : Nat} (hb : b < 256) (hc : c < 256) (hd : d < 256) : IntKind.i64.wrap ((IntKind.i64.wrap ((IntKind.i64.wrap ((IntKind.i64.wrap (Int.tmod (b : Int) 16)) * 65536)) + (IntKind.i64.wrap ((IntKind.i64.wrap (c : Int)) * 256)))) + (IntKind.i64.wrap (d : Int))) = (((((a * 256 + b) * 256 + c) * 256 + d) % 1048576 : Nat) : Int) := by
  rw [Int.tmod_eq_emod_of_nonneg (by omega), wrap_i64 (n := (b : Int) % 16) (by omega) (by omega), wrap_i64 (n := (c : Int)) (by omega) (by omega), wrap_i64 (n := (d : Int)) (by omega) (by omega), wrap_i64 (n := (b : Int) % 16 * 65536) (by omega) (by omega), wrap_i64 (n := (c : Int) * 256) (by omega) (by omega), wrap_i64 (n := (b : Int) % 16 * 65536 + (c : Int) * 256) (by omega) (by omega), wrap_i64 (by omega) (by omega)]
  omega

theorem drop_zs {α : Type} {A B C Y Z R : List α} {x : α} (h : Y = x :: Z) : A ++ B ++ (Y ++ (C ++ R)).drop 1 = (A ++ B ++ Z) ++ C ++ R := by
  subst h; simp



def sentE (own l : List UInt8) : Int :=
  if read6E l true ≠ 0 then read6E l true
  else if (field6 l).src ≠ own then 8
  else if innerE (field6 l) ≠ 0 then innerE (field6 l)
  else if readE (innerL (field6 l)) true ≠ 0 then readE (innerL (field6 l)) true
  else if (field (innerL (field6 l))).data.length < 8 then 3
  else 0

theorem ofE_sent (own l : List UInt8) (k r : Int) : ofE own k r l = if (tableR k r).2.2.2 = false then 8 else sentE own l := rfl

theorem eq16 {x0 x1 x2 x3 x4 x5 x6 x7 x8 x9 x10 x11 x12 x13 x14 x15 : Int} {y0 y1 y2 y3 y4 y5 y6 y7 y8 y9 y10 y11 y12 y13 y14 y15 : Int} : (((x0 == y0) && ((x1 == y1) && ((x2 == y2) && ((x3 == y3) && ((x4 == y4) && ((x5 == y5) && ((x6 == y6) && ((x7 == y7) && ((x8 == y8) && ((x9 == y9) && ((x10 == y10) && ((x11 == y11) && ((x12 == y12) && ((x13 == y13) && ((x14 == y14) && ((x15 == y15) && true))))))))))))))))) = decide ([x0, x1, x2, x3, x4, x5, x6, x7, x8, x9, x10, x11, x12, x13, x14, x15] = [y0, y1, y2, y3, y4, y5, y6, y7, y8, y9, y10, y11, y12, y13, y14, y15]) := by
  rw [Bool.eq_iff_iff]
  simp only [Bool.and_eq_true, beq_iff_eq, decide_eq_true_eq, List.cons.injEq]

theorem field6_len (l : List UInt8) : (field6 l).data.length ≤ l.length := by simp only [field6, List.length_take, List.length_drop]; omega

theorem innerL_len (q : Pk6) : (innerL q).length ≤ q.data.length := by
  unfold innerL
  split
  · omega
  · rw [List.length_drop]; omega

theorem SlB_apart {w : World} {s : SliceV} {l : List UInt8} {d : Nat} {L : List Value} (h : SlB w s l) (hr : Row w d L) (hL : ∀ v ∈ L, ∀ n, v ≠ .int .u8 n) : ∀ a, s.a = some a → 0 < l.length → ¬ a.block = d := by
  rintro a ha hl rfl
  obtain ⟨a', ha', hc⟩ := h.at_ (List.getElem?_eq_getElem hl)
  rw [ha] at ha'; cases ha'
  obtain ⟨T, ht⟩ := hr
  have e : a.add 0 = a := by simp [Addr.add]
  rw [e] at hc
  unfold World.cell? at hc
  rw [ht] at hc
  simp only at hc
  split at hc
  · cases hc
  · rw [List.getElem?_toArray] at hc
    exact hL _ (List.mem_of_getElem? hc) _ rfl

structure ToldL (w : World) (t : V4.Told) (ps : List Int) (k c r : Int) (s : SliceV) : Prop where
  peer : ps = bi t.peer
  n : k = t.kind ∧ c = t.code ∧ r = t.rest
  inner : SlB w s t.inner

theorem ToldL.ext {w w' : World} {t : V4.Told} {ps : List Int} {k c r : Int} {s : SliceV} (h : ToldL w t ps k c r s) (hx : Ext w w') : ToldL w' t ps k c r s := ⟨h.peer, h.n, h.inner.ext hx⟩

theorem ToldL.zero {w : World} {t : V4.Told} (h : t = V4.Told.zero) : ToldL w t [0, 0, 0, 0, 0, 0, 0, 0, 0, 0, 0, 0, 0, 0, 0, 0] 0 0 0 ⟨none, 0, 0⟩ := by
  subst h
  exact ⟨rfl, ⟨rfl, rfl, rfl⟩, SlB.nil⟩



def six1 : List UInt8 := [1, 0, 0, 0, 0, 0, 0, 0, 0, 0, 0, 0, 0, 0, 0, 0]

def six2 : List UInt8 := [2, 0, 0, 0, 0, 0, 0, 0, 0, 0, 0, 0, 0, 0, 0, 0]

theorem dg_ok {w : World} {d : SliceV} {l : List UInt8} (hd : SlB w d l) (hl : l.length ≤ 60000) {a b src dst ttl : Int} (ha : hostP a) (hb : hostP b) (h1 : 0 ≤ src ∧ src < 65536) (h2 : 0 ≤ dst ∧ dst < 65536) (h3 : 0 ≤ ttl ∧ ttl < 256) :
    c_plain_Datagram a b src dst ttl d w fun r w' => (∃ p : Pkt, Dg p l.length ∧ SlB w' r p.bytes ∧ p.src = a ∧ p.ttl = ttl) ∧ NewS w r ∧ Ext w w' := by
  have ha' := ha.1
  have hb' := hb.1
  have ha2 := ha.2.1
  have hb2 := hb.2.1
  obtain ⟨a, rfl⟩ := Int.eq_ofNat_of_zero_le (show 0 ≤ a by omega)
  obtain ⟨b, rfl⟩ := Int.eq_ofNat_of_zero_le (show 0 ≤ b by omega)
  obtain ⟨src, rfl⟩ := Int.eq_ofNat_of_zero_le h1.1
  obtain ⟨dst, rfl⟩ := Int.eq_ofNat_of_zero_le h2.1
  obtain ⟨ttl, rfl⟩ := Int.eq_ofNat_of_zero_le h3.1
  refine cm_plain_Datagram (datagram_ok hd hl (by omega) (by omega) (by omega) (by omega) (by omega)) ?_
  rintro r w' ⟨⟨p, h1, h2, h3, h4, h5, h6, h7, h8, h9⟩, hn, hx⟩
  exact ⟨⟨p, ⟨h1, h3, h4, by rw [h5]; exact ha, by rw [h6]; exact hb, h7, h8⟩, h2, h5, h9⟩, hn, hx⟩

theorem reach_all {own peer : List UInt8} (ho : own.length = 16) (hp : peer.length = 16) {p : Pkt} {n : Nat} (h : Dg p n) (hn : n ≤ 1000) {s : Int} (h0 : 0 ≤ s) (h1 : s ≤ 65535) {from_ : Int} (hf : 0 ≤ from_ ∧ from_ < 4294967296) :
    ofE own 2 s (wrapP own peer p.bytes).bytes = 0 ∧ ofR own 2 s (wrapP own peer p.bytes).bytes = ⟨peer, 3, 4, max (s - 40) 68, p.bytes⟩ ∧
    makeE from_ 3 4 (max (s - 40) 68) p.bytes = 0 ∧ (makeR from_ 3 4 (max (s - 40) 68) p.bytes).dst = p.src := by
  have hl := h.len
  have hb : (wrapP own peer p.bytes).bytes.length = 68 + n := by rw [bytes6_len ⟨ho, hp⟩]; show 40 + p.bytes.length = _; omega
  have := reach ho hp h hn (m := (wrapP own peer p.bytes).bytes.length) (by omega) h0 h1 hf
  rw [List.take_length, hb, List.take_of_length_le (show p.bytes.length ≤ 68 + n - 40 by omega)] at this
  exact this

end Go.Proofs
