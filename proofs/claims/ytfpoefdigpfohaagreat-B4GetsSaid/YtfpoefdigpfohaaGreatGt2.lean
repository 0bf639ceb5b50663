import Derived.Test.YtfpoefdigpfohaaGreatW6
namespace Go.Proofs
open Gp Gp.V4
set_option maxRecDepth 100000
set_option maxHeartbeats 1000000
theorem Oq (a0 a1 a2 a3 a4 a5 a6 : Int) (a7 a8 : Bool) (a9 a10 : ah) (h : a9.len <= 2 ^ 60) (w : World) : oK a0 a1 a2 a3 a4 a5 a6 a7 a8 a9 a10 w fun r w' => r = 20 + (a9.len : Int) ∧ Ext w w' := by
  apply NC
  refine aK fun a w1 r1 _ _ f1 => ?_
  simp only [sx, r1.cell]
  exact ⟨by rw [wrap_i64 (by omega) (by omega)], f1⟩
theorem Iu (a0 a1 a2 a3 a4 a5 a6 : Int) (a7 a8 : Bool) (a9 a10 : ah) (h : a9.len <= 2 ^ 60) (h' : a10.len <= 2 ^ 60) (w : World) : lT a0 a1 a2 a3 a4 a5 a6 a7 a8 a9 a10 w fun r w' => r = 20 + (a9.len : Int) + (a10.len : Int) ∧ Ext w w' := by
  apply MQ
  refine aK fun a w1 r1 _ _ f1 => ?_
  simp only [sx, r1.drew.cell]
  refine BJ (Oq _ _ _ _ _ _ _ _ _ _ _ h _) ?_
  rintro r w2 ⟨rfl, f2⟩
  refine ⟨by rw [(r1.drew.ext f2).cell]; rfl, ?_, (f1.trans (Ext.drew _)).trans f2⟩
  rw [wrap_i64 (by omega) (by omega)]
theorem wo (a0 a1 a2 a3 a4 a5 a6 : Int) (a7 a8 : Bool) (a9 a10 : ah) (h : a9.len <= 2 ^ 60) (w : World) : jy a0 a1 a2 a3 a4 a5 a6 a7 a8 a9 a10 w fun r w' => r = 20 + (a9.len : Int) ∧ Ext w w' := by
  apply EW
  refine aK fun a w1 r1 _ _ f1 => ?_
  simp only [sx, r1.cell]
  exact ⟨by rw [wrap_i64 (by omega) (by omega)], f1⟩
theorem qC (a0 a1 a2 a3 a4 a5 a6 : Int) (a7 a8 : Bool) (a9 a10 : ah) (h : a9.len <= 2 ^ 60) (h' : a10.len <= 2 ^ 60) (w : World) : iE a0 a1 a2 a3 a4 a5 a6 a7 a8 a9 a10 w fun r w' => r = 20 + (a9.len : Int) + (a10.len : Int) ∧ Ext w w' := by
  apply ET
  refine aK fun a w1 r1 _ _ f1 => ?_
  simp only [sx, r1.drew.cell]
  refine vY (wo _ _ _ _ _ _ _ _ _ _ _ h _) ?_
  rintro r w2 ⟨rfl, f2⟩
  refine ⟨by rw [(r1.drew.ext f2).cell]; rfl, ?_, (f1.trans (Ext.drew _)).trans f2⟩
  rw [wrap_i64 (by omega) (by omega)]
theorem DR {w : World} (p : dL) {o d : ah} (ho : o.len = p.opts.length) (hd : d.len = p.data.length) (h1 : p.opts.length <= 2 ^ 46) (h2 : p.data.length <= 2 ^ 46) :
    jT p.tos p.id p.off p.ttl p.proto p.src p.dst p.df p.mf o d w fun r w' => r = p.check ∧ Ext w w' := by
  apply KQ
  refine aK fun a w1 r1 _ _ f1 => ?_
  have r1d := r1.drew
  simp -zeta only [sx, r1d.cell]
  refine cu (gW _ _ _) ?_
  rintro _ _ ⟨rfl, rfl⟩
  simp -zeta only [true_and, List.getElem?_cons_zero, List.getElem?_cons_succ, r1d.cell]
  refine cu (gW _ _ _) ?_
  rintro _ _ ⟨rfl, rfl⟩
  simp -zeta only [true_and, List.getElem?_cons_zero, List.getElem?_cons_succ, r1d.cell]
  refine cu (gW _ _ _) ?_
  rintro _ _ ⟨rfl, rfl⟩
  simp -zeta only [true_and, List.getElem?_cons_zero, List.getElem?_cons_succ, r1d.cell]
  refine cu (gW _ _ _) ?_
  rintro _ _ ⟨rfl, rfl⟩
  refine aK fun b w2 r2 _ _ f2 => ?_
  refine oD (zn (l := [decide (aU p.tos 1), decide (aU p.ttl 1), decide (aU p.proto 1), decide (aU p.id 2)]) r2 rfl 4 rfl (by simp)) ?_
  rintro _ w2 ⟨rfl, rfl⟩
  have r3 := (r1d.ext f2).drew
  simp -zeta only [List.getElem?_cons_zero, List.getElem?_cons_succ, aj, au, r3.cell]
  refine mF (rV _ _) ?_
  rintro _ _ ⟨rfl, rfl⟩
  simp -zeta only [true_and, List.getElem?_cons_zero, List.getElem?_cons_succ, r3.cell]
  refine mF (rV _ _) ?_
  rintro _ _ ⟨rfl, rfl⟩
  refine aK fun c w4 r4 _ _ f4 => ?_
  refine oD (zn (l := [decide (eU p.src), decide (eU p.dst)]) r4 rfl 2 rfl (by simp)) ?_
  rintro _ w4 ⟨rfl, rfl⟩
  have r5 := r3.ext f4
  have x5 : Ext w w4 := (((f1.trans (Ext.drew _)).trans f2).trans (Ext.drew _)).trans f4
  intro J30
  have hJ : ∀ (b : Bool) (W : World), Ext w4 W -> b = decide (0 <= p.off ∧ p.off <= 65528 ∧ Int.tmod p.off 8 = 0 ∧ (p.mf = true -> p.data.length % 8 = 0)) -> J30 b W := by
    rintro b W fW rfl
    have rW := r5.ext fW
    simp only [J30, cond_true, List.getElem?_cons_zero, List.getElem?_cons_succ, aj, aA, rW.cell]
    refine ⟨by omega, aK fun e w6 r6 _ _ f6 => ?_⟩
    refine oD (zn (l := [_, _]) r6 rfl 2 rfl (by simp)) ?_
    rintro _ _ ⟨rfl, rfl⟩
    refine aK fun g w7 r7 _ _ f7 => ?_
    refine oD (zn (l := [_, _, _, _]) r7 rfl 4 rfl (by simp)) ?_
    rintro _ _ ⟨rfl, rfl⟩
    have e1 : decide ((o.len : Int) <= 40) = decide (p.opts.length <= 40) := by rw [ho]; exact decide_eq_decide.2 (by omega)
    have e2 : (Int.tmod (o.len : Int) 4 == 0) = decide (p.opts.length % 4 = 0) := by
      rw [ho, Int.tmod_eq_emod_of_nonneg (by omega), show ((p.opts.length : Int) % 4 == 0) = decide ((p.opts.length : Int) % 4 = 0) from rfl]
      exact decide_eq_decide.2 (by omega)
    have e3 : ([[decide (aU p.tos 1), decide (aU p.ttl 1), decide (aU p.proto 1), decide (aU p.id 2)].all id, [decide (eU p.src), decide (eU p.dst)].all id, decide (0 <= p.off ∧ p.off <= 65528 ∧ Int.tmod p.off 8 = 0 ∧ (p.mf = true -> p.data.length % 8 = 0)),
        [decide ((o.len : Int) <= 40), (Int.tmod (o.len : Int) 4 == 0)].all id].all id) = decide p.fine := by
      rw [e1, e2]
      simp only [List.all_cons, List.all_nil, id, Bool.and_true]
      rw [<- Bool.decide_and, <- Bool.decide_and, <- Bool.decide_and, <- Bool.decide_and, <- Bool.decide_and, <- Bool.decide_and, <- Bool.decide_and, <- Bool.decide_and]
      rfl
    rw [e3]
    have x7 := (x5.trans fW).trans (f6.trans f7)
    by_cases hf : p.fine
    · simp only [hf, decide_true, Bool.not_true, cond_false]
      have r8 := rW.ext (f6.trans f7)
      simp -zeta only [List.getElem?_cons_zero, List.getElem?_cons_succ, aj, aA, au, aJ, r8.cell]
      refine xk (Iu _ _ _ _ _ _ _ _ _ _ _ (show o.len <= 2 ^ 60 by omega) (show d.len <= 2 ^ 60 by omega) _) ?_
      rintro _ w8 ⟨rfl, f8⟩
      have r9 := r8.ext f8
      simp -zeta only [List.getElem?_cons_zero, List.getElem?_cons_succ, aj, aA, au, r9.cell]
      rw [wrap_i64 (by omega) (by omega)]
      by_cases hs : 20 + p.opts.length + p.data.length <= 65535
      · have : ¬ (20 + (o.len : Int) + (d.len : Int) > 65535) := by omega
        simp only [this, decide_false, cond_false]
        by_cases hs2 : p.off <= 65535 - (p.data.length : Int)
        · have : ¬ (p.off > 65535 - (d.len : Int)) := by omega
          simp only [this, decide_false, cond_false]
          exact ⟨by simp [dL.check, hf, dL.short, hs, hs2], x7.trans f8⟩
        · have : (p.off > 65535 - (d.len : Int)) := by omega
          simp only [this, decide_true, cond_true]
          exact ⟨by simp [dL.check, hf, dL.short, hs2], x7.trans f8⟩
      · have : (20 + (o.len : Int) + (d.len : Int) > 65535) := by omega
        simp only [this, decide_true, cond_true]
        exact ⟨by simp [dL.check, hf, dL.short, hs], x7.trans f8⟩
    · simp only [hf, decide_false, Bool.not_false, cond_true]
      exact ⟨by simp [dL.check, hf], x7⟩
  simp -zeta only [List.getElem?_cons_zero, List.getElem?_cons_succ, aj, aA, au, aJ, r5.cell]
  refine ⟨by omega, ?_⟩
  cases hm : p.mf with
  | false =>
    simp only [Bool.not_false, cond_true]
    refine aK fun e w6 r6 _ _ f6 => ?_
    refine oD (zn (l := [_, _, _, _]) r6 rfl 4 rfl (by simp)) ?_
    rintro _ _ ⟨rfl, rfl⟩
    refine hJ _ _ f6 ?_
    simp only [List.all_cons, List.all_nil, id, Bool.and_true, hm]
    rw [show (Int.tmod p.off 8 == 0) = decide (Int.tmod p.off 8 = 0) from rfl]
    simp [ge_iff_le]
  | true =>
    simp only [Bool.not_true, cond_false]
    refine ⟨by omega, aK fun e w6 r6 _ _ f6 => ?_⟩
    refine oD (zn (l := [_, _, _, _]) r6 rfl 4 rfl (by simp)) ?_
    rintro _ _ ⟨rfl, rfl⟩
    refine hJ _ _ f6 ?_
    have e2 : (Int.tmod (d.len : Int) 8 == 0) = decide (p.data.length % 8 = 0) := by
      rw [hd, Int.tmod_eq_emod_of_nonneg (by omega), show ((p.data.length : Int) % 8 == 0) = decide ((p.data.length : Int) % 8 = 0) from rfl]
      exact decide_eq_decide.2 (by omega)
    simp only [List.all_cons, List.all_nil, id, Bool.and_true, hm, e2]
    rw [show (Int.tmod p.off 8 == 0) = decide (Int.tmod p.off 8 = 0) from rfl]
    simp [ge_iff_le]
def DT (p : dL) : Int :=
  let a := IntKind.i64.wrap (Int.tdiv p.off 8)
  let b := bif p.df then Bj .i64 a 16384 else a
  bif p.mf then Bj .i64 b 8192 else b
theorem QY {w : World} (p : dL) (o d : ah) : oO p.tos p.id p.off p.ttl p.proto p.src p.dst p.df p.mf o d w fun r w' => r = DT p ∧ Ext w w' := by
  apply Ju
  refine aK fun a w1 r1 _ _ f1 => ?_
  simp only [sx, r1.cell]
  refine ⟨by omega, ?_⟩
  unfold DT
  cases p.df <;> cases p.mf <;> exact ⟨rfl, f1⟩
theorem Nu {p : dL} (h : p.fine) : DT p = (p.bits : Int) := by
  obtain ⟨_, _, ⟨h1, h2, h3, _⟩, _⟩ := h
  unfold DT dL.bits
  obtain ⟨x, hx⟩ : ∃ x : Nat, p.off = (x : Int) := ⟨p.off.toNat, by omega⟩
  rw [hx] at h1 h2 h3 ⊢
  rw [Int.tdiv_eq_ediv_of_nonneg (by omega), Int.toNat_natCast]
  have e0 : (x : Int) / 8 = ((x / 8 : Nat) : Int) := by omega
  rw [e0, wrap_i64 (by omega) (by omega)]
  have hq : x / 8 < 8192 := by omega
  generalize x / 8 = q at hq
  have e1 : Bj .i64 (q : Int) 16384 = ((16384 + q : Nat) : Int) := by
    have := xJ (a := q) (b := 16384) (by omega) (by omega)
    rw [Nat.or_comm, show (16384 : Nat) = 1 * 2 ^ 14 by decide, sQ (by omega)] at this
    exact this
  have e2 : Bj .i64 (q : Int) 8192 = ((8192 + q : Nat) : Int) := by
    have := xJ (a := q) (b := 8192) (by omega) (by omega)
    rw [Nat.or_comm, show (8192 : Nat) = 1 * 2 ^ 13 by decide, sQ (by omega)] at this
    exact this
  have e3 : Bj .i64 ((16384 + q : Nat) : Int) 8192 = ((24576 + q : Nat) : Int) := by
    have := xJ (a := 16384 + q) (b := 8192) (by omega) (by omega)
    have h : (16384 + q) ||| 8192 = 24576 + q := by
      rw [show 16384 + q = 2 * 2 ^ 13 ||| q by rw [sQ (by omega)], Nat.or_assoc, Nat.or_comm q, <- Nat.or_assoc, show (2 * 2 ^ 13 ||| 8192 : Nat) = 3 * 2 ^ 13 by decide, sQ (by omega)]
    rw [h] at this
    exact this
  cases p.df <;> cases p.mf <;> simp only [cond_true, cond_false, if_true, if_false, Bool.false_eq_true]
  · omega
  · rw [e2]; omega
  · rw [e1]; omega
  · rw [e1, e3]; omega
def gU (p : dL) : List (Int × Int) :=
  [(Bj .i64 64 (IntKind.i64.wrap (Int.tdiv (20 + (p.opts.length : Int)) 4)), 1), (p.tos, 1), (20 + (p.opts.length : Int) + (p.data.length : Int), 2), (p.id, 2), (DT p, 2), (p.ttl, 1), (p.proto, 1), (0, 2), (p.src, 4), (p.dst, 4)]
def Jg (f : Int × Int) : List Value := [.int .i64 f.1, .int .i64 f.2]
theorem Df (f : Int × Int) : (Jg f).length = 2 := rfl
theorem O7 {w : World} (p : dL) {o d : ah} (ho : o.len = p.opts.length) (hd : d.len = p.data.length) (h1 : p.opts.length <= 2 ^ 46) (h2 : p.data.length <= 2 ^ 46) :
    nC p.tos p.id p.off p.ttl p.proto p.src p.dst p.df p.mf o d w fun r w' => ∃ b, r = ⟨some ⟨b, 0, none⟩, 10, 10⟩ ∧ Row w' b ((gU p).flatMap Jg) ∧ Ext w w' ∧ w.heap.size <= b := by
  apply I9
  refine aK fun a w1 r1 e1 _ f1 => ?_
  have r1d := r1.drew
  simp -zeta only [sx, r1d.cell]
  refine BJ (Oq _ _ _ _ _ _ _ _ _ _ _ (show o.len <= 2 ^ 60 by omega) _) ?_
  rintro _ w2 ⟨rfl, f2⟩
  have r2 := r1d.ext f2
  simp -zeta only [true_and, List.getElem?_cons_zero, List.getElem?_cons_succ, r2.cell]
  refine ⟨by omega, ?_⟩
  refine xk (Iu _ _ _ _ _ _ _ _ _ _ _ (show o.len <= 2 ^ 60 by omega) (show d.len <= 2 ^ 60 by omega) _) ?_
  rintro _ w3 ⟨rfl, f3⟩
  have r3 := r2.ext f3
  simp -zeta only [true_and, List.getElem?_cons_zero, List.getElem?_cons_succ, r3.cell]
  refine KX (QY p o d) ?_
  rintro _ w4 ⟨rfl, f4⟩
  have r4 := r3.ext f4
  simp -zeta only [true_and, List.getElem?_cons_zero, List.getElem?_cons_succ, r4.cell]
  refine aK fun b w5 r5 e5 _ f5 => ⟨b, rfl, ?_, ((((f1.trans (Ext.drew _)).trans f2).trans f3).trans f4).trans f5, ?_⟩
  · rw [show o.len = p.opts.length from ho, show d.len = p.data.length from hd] at r5
    exact r5
  · have h1 := f1.size
    have h2 := f2.size
    have h3 := f3.size
    have h4 := f4.size
    have : w1.drew.heap.size = w1.heap.size := rfl
    omega
theorem MN {p : dL} (h : p.opts.length <= 40) : Bj .i64 64 (IntKind.i64.wrap (Int.tdiv (20 + (p.opts.length : Int)) 4)) = ((64 + (20 + p.opts.length) / 4 : Nat) : Int) := by
  rw [Int.tdiv_eq_ediv_of_nonneg (by omega)]
  have e0 : (20 + (p.opts.length : Int)) / 4 = (((20 + p.opts.length) / 4 : Nat) : Int) := by omega
  rw [e0, wrap_i64 (by omega) (by omega)]
  have hq : (20 + p.opts.length) / 4 < 64 := by omega
  generalize (20 + p.opts.length) / 4 = q at hq
  have := xJ (a := 64) (b := q) (by omega) (by omega)
  rw [show (64 : Nat) = 1 * 2 ^ 6 by decide, sQ (by omega)] at this
  exact this
theorem KL {p : dL} (h : p.check = 0) : (gU p).foldl (fun l f => jU l f.1 f.2) [] ++ p.opts = p.head 0 := by
  obtain ⟨hf, hs⟩ := jg h
  have hb := Ij hf
  have hbo := Nu hf
  obtain ⟨⟨f1, f2, f3, f4⟩, ⟨r1, r2⟩, ⟨o1, o2, o3, o4⟩, p1, p2⟩ := id hf
  obtain ⟨s1, s2⟩ := hs
  have g : ∀ (n : Int) (k : Nat) (l : List UInt8), aU n (k : Int) -> jU l n (k : Int) = l ++ dK k n.toNat := fun n k l h => by simp [jU, h]
  have m1 : aU ((64 + (20 + p.opts.length) / 4 : Nat) : Int) (1 : Nat) := ⟨⟨by omega, by omega⟩, by omega, by simp; omega⟩
  have m2 : aU (20 + (p.opts.length : Int) + (p.data.length : Int)) (2 : Nat) := ⟨⟨by omega, by omega⟩, by omega, by simp; omega⟩
  have m3 : aU ((p.bits : Nat) : Int) (2 : Nat) := ⟨⟨by omega, by omega⟩, by omega, by simp; omega⟩
  have m4 : aU 0 (2 : Nat) := ⟨⟨by omega, by omega⟩, by omega, by simp⟩
  have m5 : aU p.src (4 : Nat) := ⟨⟨by omega, by omega⟩, r1.1, by have := r1.2; simp; omega⟩
  have m6 : aU p.dst (4 : Nat) := ⟨⟨by omega, by omega⟩, r2.1, by have := r2.2; simp; omega⟩
  unfold gU
  rw [MN p1, hbo]
  simp only [List.foldl_cons, List.foldl_nil]
  have q1 := g _ 1 [] m1
  have q2 := fun l => g p.tos 1 l f1
  have q3 := fun l => g _ 2 l m2
  have q4 := fun l => g p.id 2 l f4
  have q5 := fun l => g _ 2 l m3
  have q6 := fun l => g p.ttl 1 l f2
  have q7 := fun l => g p.proto 1 l f3
  have q8 := fun l => g _ 2 l m4
  have q9 := fun l => g _ 4 l m5
  have q10 := fun l => g _ 4 l m6
  simp only [Int.ofNat_one] at q1
  simp only [show ((1 : Nat) : Int) = 1 from rfl, show ((2 : Nat) : Int) = 2 from rfl, show ((4 : Nat) : Int) = 4 from rfl] at q2 q3 q4 q5 q6 q7 q8 q9 q10
  rw [q1, q2, q3, q4, q5, q6, q7, q8, q9, q10]
  unfold dL.head
  simp only [Int.toNat_natCast, List.nil_append]
  rw [show (20 + (p.opts.length : Int) + (p.data.length : Int)).toNat = 20 + p.opts.length + p.data.length by omega]
  rfl
theorem TB (p : dL) (s : Nat) : (p.head 0).take 10 ++ dK 2 s ++ (p.head 0).drop 12 = p.head s := by
  rw [head_eq, head_eq]
  simp [dK]
def SY (p : dL) (w w' : World) (r : ah) (e : Int) : Prop :=
  e = p.check ∧ (p.check ≠ 0 -> r = ⟨none, 0, 0⟩) ∧ (p.check = 0 -> Buf w' r (bytesV p.bytes)) ∧ Ext w w' ∧ ∀ b, ah.at r b -> w.heap.size <= b
theorem yu {w : World} (p : dL) {o d : ah} (ho : aS w o p.opts) (hd : aS w d p.data) (h1 : p.opts.length <= 2 ^ 46) (h2 : p.data.length <= 2 ^ 46) :
    jQ p.tos p.id p.off p.ttl p.proto p.src p.dst p.df p.mf o d w fun r e w' => SY p w w' r e := by
  apply KO
  refine aK fun a w1 r1 e1 z1 f1 => ?_
  simp -zeta only [sx, r1.cell]
  refine uw (DR p (o := o) (d := d) ho.1 hd.1 h1 h2) ?_
  rintro _ w2 ⟨rfl, f2⟩
  have r2 := r1.ext f2
  by_cases hc : p.check = 0
  · have hc' : (p.check != 0) = false := by rw [hc]; rfl
    simp -zeta only [cond_false, List.getElem?_cons_zero, List.getElem?_cons_succ, aj, aA, au, aJ, r2.cell, hc']
    refine GZ (O7 p (o := o) (d := d) ho.1 hd.1 h1 h2) ?_
    rintro _ w3 ⟨b, rfl, r3, f3, e3⟩
    have hlen : ((gU p).length : Int) = 10 := rfl
    have hsm := (jg hc).2.1
    have x3 : Ext w w3 := (f1.trans f2).trans f3
    have put_len : ∀ l n k, (jU l n k).length <= l.length + 4 := fun l n k => by
      unfold jU
      split
      · rename_i h
        have := h.1.2
        simp [aP]; omega
      · omega
    refine bn (fun st W => ∃ i : Nat, i <= 10 ∧ st.2.1 = i ∧ Buf W st.1 (bytesV (((gU p).take i).foldl (fun l f => jU l f.1 f.2) [])) ∧ (((gU p).take i).foldl (fun l f => jU l f.1 f.2) []).length <= 4 * i ∧ Ext w3 W ∧ ∀ c, ah.at st.1 c -> w3.heap.size <= c)
      (fun st _ => 10 - st.2.1.toNat) ⟨0, by omega, rfl, Buf.nil, by simp, Ext.refl _, by rintro c ⟨_, h⟩; cases h⟩ ?_
    rintro ⟨s, x, ⟨⟩⟩ W ⟨i, hi, rfl, hb, hl, hx, hs⟩ next hnext
    have rb := r3.ext hx
    by_cases hlt : i < 10
    · have hlt' : ((i : Int) < ((10 : Nat) : Int)) := by omega
      simp only [hlt', decide_true, cond_true]
      have hfi : (gU p)[i]? = some (gU p)[i] := List.getElem?_eq_getElem hlt
      generalize (gU p)[i] = f at hfi
      have c0 : W.cell? ⟨b, i * 2, none⟩ = some (.int .i64 f.1) := by
        have := flat_get Jg 2 Df (gU p) i 0 (by omega)
        rw [Nat.add_zero] at this
        rw [rb.cell, this, hfi]; rfl
      have c1 : W.cell? ⟨b, i * 2 + 1, none⟩ = some (.int .i64 f.2) := by
        rw [rb.cell, flat_get Jg 2 Df _ _ 1 (by omega), hfi]; rfl
      simp -zeta only [sx, Int.toNat_natCast, c0, c1]
      refine ⟨by omega, by omega, rD rfl rfl fun c w4 r4 e4 z4 f4 => ?_⟩
      simp -zeta only [sx, r4.cell]
      refine lV (xB (aS.aV (hb.ext f4)) (by omega) f.1 f.2) ?_
      rintro s5 w5 ⟨b5, f5, n5⟩
      rw [wrap_i64 (by omega) (by omega)]
      have hsz := hx.size
      have hsz4 := f4.size
      have ef : ((gU p).take (i + 1)).foldl (fun l f => jU l f.1 f.2) [] = jU (((gU p).take i).foldl (fun l f => jU l f.1 f.2) []) f.1 f.2 := by
        rw [List.take_succ_eq_append_getElem hlt, List.foldl_append]
        have : (gU p)[i] = f := by rw [List.getElem?_eq_getElem hlt] at hfi; simpa using hfi
        rw [this]; rfl
      refine hnext _ _ ⟨i + 1, by omega, by simp, by rw [ef]; exact b5, ?_, (hx.trans f4).trans f5, fun y hy => by have := n5 y hy; omega⟩ (by simp only; omega)
      rw [ef]
      have := put_len (((gU p).take i).foldl (fun l f => jU l f.1 f.2) []) f.1 f.2
      omega
    · have hlt' : ¬ ((i : Int) < ((10 : Nat) : Int)) := by omega
      simp only [hlt', decide_false, cond_false]
      have : i = 10 := by omega
      subst this
      rw [show (gU p).take 10 = gU p from rfl] at hb hl
      have rW := r2.ext (f3.trans hx)
      simp -zeta only [List.getElem?_cons_zero, List.getElem?_cons_succ, aj, aA, rW.cell]
      have hsz := hx.size
      have hsz3 := x3.size
      refine bC hb (ho.ext (x3.trans hx)) (by omega) fun s6 w6 b6 f6 n6 _ => ?_
      rw [KL hc] at b6
      have x6 : Ext w3 w6 := hx.new f6 fun y hy h => by have := hs y h; omega
      have l6 : (p.head 0).length = 20 + p.opts.length := qZ p 0
      refine aK fun c w7 r7 e7 z7 f7 => ?_
      refine F5 (U5 (uQ r7 (aS.aV (b6.ext f7))) (by simp) (by intro q hq; simp only [List.mem_singleton] at hq; subst hq; simp only; omega)) ?_
      rintro _ w8 ⟨rfl, f8⟩
      rw [yE]
      have e8 : 65535 - fold (tot (p.head 0)) = p.sum := rfl
      rw [e8]
      have hsl : p.sum < 65536 := by unfold dL.sum; omega
      refine FY (QH (aS.aV ((b6.ext f7).ext f8)) (by omega) 10 (p.sum : Int) 2) ?_
      rintro s9 e9 w9 ⟨hr9, f9, n9⟩
      obtain ⟨rfl, b9⟩ := Oh ⟨⟨by omega, by omega⟩, by omega, by simp; omega⟩ (by omega) (by omega) hr9
      rw [show (10 : Int).toNat = 10 from rfl, show (2 : Int).toNat = 2 from rfl, Int.toNat_natCast, show (10 + 2 : Nat) = 12 from rfl, TB] at b9
      have x9 : Ext w3 w9 := ((x6.trans f7).trans f8).trans f9
      have r9 := r2.ext (f3.trans x9)
      simp only [List.getElem?_cons_zero, List.getElem?_cons_succ, aj, aA, r9.cell]
      have l9 : (p.head p.sum).length = 20 + p.opts.length := qZ p _
      refine bC b9 (hd.ext (x3.trans x9)) (by omega) fun s10 w10 b10 f10 n10 _ => ?_
      have z6 := x6.size
      have z9' := ((x6.trans f7).trans f8).size
      have z9 := x9.size
      refine ⟨hc.symm, fun h => absurd hc h, fun _ => b10, x3.trans (x9.new f10 fun y hy h => by have := n9 y h; omega), fun y hy => ?_⟩
      rcases n10 y hy with h | h
      · have := n9 y h; omega
      · omega
  · have hc' : (p.check != 0) = true := by simpa using hc
    simp -zeta only [cond_true, hc']
    exact ⟨rfl, fun _ => rfl, fun h => absurd h hc, f1.trans f2, by rintro b ⟨o, h⟩; cases h⟩
theorem Rh {w : World} {s : ah} {l : List UInt8} (h : aS w s l) (hl : l.length <= 2 ^ 46) {i k : Nat} (hk : 1 <= k ∧ k <= 4) (hi : i + k <= l.length) (x y : Int) : aB s x y (i : Int) (k : Int) w fun r w' => r = (num l i k : Int) ∧ Ext w w' := by
  apply zC
  refine aK fun a w1 r1 _ _ f1 => ?_
  simp only [sx, r1.cell]
  refine qP (C_ (h.ext f1) (by omega) _ _) ?_
  rintro n e _ ⟨rfl, hr⟩
  exact ⟨yg hk hi hr, f1⟩
theorem Il {w : World} {s : ah} {l : List UInt8} (h : aS w s l) (hl : l.length <= 2 ^ 46) {i k : Int} (hk : 1 <= k ∧ k <= 4) (hi : 0 <= i ∧ i + k <= l.length) (x y : Int) : aB s x y i k w fun r w' => r = (num l i.toNat k.toNat : Int) ∧ Ext w w' := by
  obtain ⟨m, rfl⟩ : ∃ m : Nat, k = (m : Int) := ⟨k.toNat, by omega⟩
  obtain ⟨o, rfl⟩ : ∃ o : Nat, i = (o : Int) := ⟨i.toNat, by omega⟩
  exact Rh h hl (by omega) (by omega) x y
def LQ (w : World) (q : dL) (t i o l p s d : Int) (df mf : Bool) (op da : ah) : Prop :=
  t = q.tos ∧ i = q.id ∧ o = q.off ∧ l = q.ttl ∧ p = q.proto ∧ s = q.src ∧ d = q.dst ∧ df = q.df ∧ mf = q.mf ∧ aS w op q.opts ∧ aS w da q.data
def yX (w : World) (s : ah) : Prop := ∀ x, s.a = some x -> w.heap.size <= x.block
theorem oq (l : List UInt8) (i : Nat) : num l i 2 < 65536 := by
  have := Jq ((l.drop i).take 2)
  have h2 : (256 : Nat) ^ ((l.drop i).take 2).length <= 256 ^ 2 := Nat.pow_le_pow_right (by omega) (by simp; omega)
  unfold num
  omega
theorem MJ {n k : Nat} (hn : n < 2 ^ 63) (hk : k < 63) : (nN .i64 (n : Int) ((2 ^ k : Nat) : Int) != 0) = (n / 2 ^ k % 2 == 1) := by
  have hp : 0 < 2 ^ k := Nat.pow_pos (by omega)
  have hp2 : 2 ^ k < 2 ^ 63 := Nat.pow_lt_pow_right (by omega) hk
  rw [uO hn hp2, UU]
  have : n / 2 ^ k % 2 = 0 ∨ n / 2 ^ k % 2 = 1 := by omega
  rcases this with h | h
  · rw [h]; simp
  · rw [h, Nat.one_mul]
    generalize 2 ^ k = q at hp
    have : ((q : Int) != 0) = true := by simp; omega
    rw [this]; rfl
set_option maxRecDepth 100000 in
theorem Gu {w : World} {s : ah} {l : List UInt8} (hs : aS w s l) (hl : l.length <= 2 ^ 46) (h1 : 20 <= hlen l) (h2 : hlen l <= l.length) (h3 : hlen l <= num l 2 2) :
    dP s (hlen l : Int) (num l 2 2 : Int) w fun t i o l' p s' d df mf op da w' => LQ w' (field l) t i o l' p s' d df mf op da ∧ yX w op ∧ yX w da ∧ Ext w w' := by
  apply vG
  refine aK fun a w1 r1 e1 z1 f1 => aK fun b w2 r2 e2 z2 f2 => ?_
  have ra2 := r1.ext f2
  have hsl := hs.1
  simp -zeta only [sx, ra2.cell]
  have hs2 := (hs.ext f1).ext f2
  refine jm (Rh (i := 6) (k := 2) hs2 hl (by omega) (by omega) _ _) ?_
  rintro _ w3 ⟨rfl, f3⟩
  have x3 : Ext w w3 := (f1.trans f2).trans f3
  have ra3 := ra2.ext f3
  have rb3 := r2.ext f3
  have hs3 := hs2.ext f3
  have hsz3 := f3.size
  intro J
  have hJ : ∀ c W, Row W c [.int .i64 (num l 1 1 : Int), .int .i64 (num l 4 2 : Int), .int .i64 0, .int .i64 (num l 8 1 : Int), .int .i64 (num l 9 1 : Int), .int .i64 (num l 12 4 : Int), .int .i64 (num l 16 4 : Int), .bool false, .bool false, .slice none 0 0, .slice none 0 0] -> Ext w3 W -> w3.heap.size <= c -> J ⟨c, 0, none⟩ W := by
    intro c W rc hx hc
    simp only [sx, J]
    have n6 := oq l 6
    refine bM rc rfl (by simp) fun w4 r4 f4 z4 => bM r4 rfl (by simp) fun w5 r5 f5 z5 => bM r5 rfl (by simp) fun w6 r6 f6 z6 => ?_
    have x6 : Ext w3 w6 := hx.new (((f4 (· = c) rfl).trans (f5 (· = c) rfl) fun _ _ e => e).trans (f6 (· = c) rfl) fun _ _ e => e) fun y hy e => by omega
    have ra6 := ra3.ext x6
    have hs6 := hs3.ext x6
    have hsz6 := x6.size
    simp only [List.set_cons_zero, List.set_cons_succ] at r6
    simp only [List.getElem?_cons_zero, List.getElem?_cons_succ, aj, aA, au, ra6.cell]
    refine fK hs6 (by omega) (by omega) (by omega) fun s7 hs7 _ => ?_
    refine aI (iZ hs7 (by simp; omega)) ?_
    rintro o8 w8 ⟨b8, _, f8, n8⟩
    have r8 := r6.ext f8
    refine bM r8 rfl (by simp) fun w9 r9 f9 z9 => ?_
    have f89 : Ext w6 w8 := f8
    have x9 : Ext w3 w9 := (x6.trans f8).new (f9 (· = c) rfl) fun y hy e => by omega
    have ra9 := ra3.ext x9
    have hs9 := hs3.ext x9
    have hsz8 := f8.size
    have b9 : Buf w9 o8 _ := b8.fr (f9 (· = c) rfl) fun y hy e => by
      have := n8 y hy
      have := r6.lt
      omega
    simp only [List.set_cons_zero, List.set_cons_succ] at r9
    simp only [List.getElem?_cons_zero, List.getElem?_cons_succ, aj, aA, au, ra9.cell]
    have hmin : (if (s.len : Int) < (num l 2 2 : Int) then (s.len : Int) else (num l 2 2 : Int)) = ((min (num l 2 2) l.length : Nat) : Int) := by
      split <;> omega
    rw [hmin]
    refine fK hs9 (by omega) (by omega) (by omega) fun s10 hs10 _ => ?_
    refine aI (iZ hs10 (by simp; omega)) ?_
    rintro d11 w11 ⟨b11, _, f11, n11⟩
    have r11 := r9.ext f11
    have hsz11 := f11.size
    have hcl := r9.lt
    refine bM r11 rfl (by simp) fun w12 r12 f12 z12 => ?_
    have x12 : Ext w3 w12 := (x9.trans f11).new (f12 (· = c) rfl) fun y hy e => by omega
    have b12 : Buf w12 o8 _ := (b9.ext f11).fr (f12 (· = c) rfl) fun y hy e => by
      have := n8 y hy
      have := r6.lt
      omega
    have d12 : Buf w12 d11 _ := b11.fr (f12 (· = c) rfl) fun y hy e => by
      have := n11 y hy
      omega
    simp only [List.set_cons_zero, List.set_cons_succ] at r12
    simp only [List.getElem?_cons_zero, List.getElem?_cons_succ, aj, aA, au, aJ, r12.cell]
    have rb12 := rb3.ext x12
    refine aT rb12 rfl rfl fun w13 r13 f13 z13 => ?_
    simp only [List.getElem?_cons_zero, List.getElem?_cons_succ, aj, aA, au, aJ, r13.cell]
    have hb3 := rb3.lt
    have e8191 : nN .i64 (num l 6 2 : Int) 8191 = ((num l 6 2 % 8192 : Nat) : Int) := by
      have := uO (a := num l 6 2) (b := 8191) (by omega) (by omega)
      rw [show (8191 : Nat) = 2 ^ 13 - 1 by decide, vw] at this
      exact this
    have hszx := x3.size
    refine ⟨⟨rfl, rfl, ?_, rfl, rfl, rfl, rfl, ?_, ?_, ?_, ?_⟩, fun x hx => by have := n8 _ (b8.at_eq hx); omega, fun x hx => by have := n11 _ (b11.at_eq hx); omega, ?_⟩
    · rw [e8191, wrap_i64 (by omega) (by omega)]
      simp only [field]; omega
    · exact MJ (k := 14) (by omega) (by omega)
    · exact MJ (k := 13) (by omega) (by omega)
    · refine aS.aV (b12.fr (f13 (· = b) rfl) fun y hy e => ?_)
      have := n8 y hy
      omega
    · have e : (l.take (min (num l 2 2) l.length)).drop (hlen l) = (field l).data := by
        simp only [field]
        congr 1
        rw [Nat.min_comm, <- List.take_take, List.take_of_length_le (by rw [List.length_take]; omega)]
      have d13 := d12.fr (f13 (· = b) rfl) fun y hy e => by
        have := n11 y hy
        omega
      rw [Int.toNat_natCast, Int.toNat_natCast, e] at d13
      exact aS.aV d13
    · exact (x3.trans x12).new (f13 (· = b) rfl) fun y hy e => by have := f1.size; omega
  have ra3d := ra3.drew
  simp -zeta only [List.getElem?_cons_zero, List.getElem?_cons_succ, aj, aA, au, ra3d.cell]
  have hx := Ext.drew w3
  have l2 : 20 <= l.length := by omega
  clear hsz3
  repeat' (first
    | (with_reducible refine And.intro ?_ ?_)
    | ((with_reducible refine jm (Il (hs3.ext hx) hl (by omega) (by omega) _ _) ?_); rintro _ W ⟨rfl, f⟩; replace hx := hx.trans f; (try replace rc := rc.ext f); (try simp -zeta only [true_and, List.getElem?_cons_zero, List.getElem?_cons_succ, (ra3.ext hx).cell]))
    | ((with_reducible refine aK fun c W rc ec _ f => ?_); have hc := hx.size; rw [<- ec] at hc; clear ec; replace hx := hx.trans f; (try simp -zeta only [true_and, List.getElem?_cons_zero, List.getElem?_cons_succ, (ra3.ext hx).cell]))
    | ((with_reducible refine aT rc rfl rfl fun W rc2 fc zc => ?_); exact hJ _ W rc2 (hx.new (fc (· = _) rfl) fun y hy e => by omega) hc))
theorem byte_at {w : World} {s : ah} {l : List UInt8} (h : aS w s l) {i : Nat} (hi : i < l.length) {K : Addr -> Prop} (hK : ∀ a, w.cell? (a) = some (.int .u8 (l[i].toNat : Int)) -> (a.block < w.heap.size) -> K a) : dN s 1 (i : Int) K := by
  have hsl := h.1
  obtain ⟨a, ha, hc⟩ := h.at_ (List.getElem?_eq_getElem hi)
  exact ⟨a, ha, by omega, by omega, hK _ (by rw [Int.toNat_natCast, Nat.mul_one]; exact hc) (by rw [Int.toNat_natCast, Nat.mul_one]; exact cell_lt hc)⟩
theorem low4 (x : UInt8) : IntKind.i64.wrap ((IntKind.i64.wrap (nN .u8 (x.toNat : Int) 15)) * 4) = ((x.toNat % 16 * 4 : Nat) : Int) := by
  have h := x.toNat_lt
  have := Vm (a := x.toNat) (b := 15) (by omega) (by omega)
  rw [show (15 : Nat) = 2 ^ 4 - 1 by decide, vw] at this
  rw [show (((2 ^ 4 - 1 : Nat) : Nat) : Int) = 15 from rfl] at this
  rw [this, wrap_i64 (n := ((x.toNat % 2 ^ 4 : Nat) : Int)) (by omega) (by omega), wrap_i64 (by omega) (by omega)]
  omega
theorem OG {l : List UInt8} (h : 0 < l.length) : hlen l = l[0].toNat % 16 * 4 := by
  unfold hlen
  rw [List.getElem?_eq_getElem h]; rfl
theorem Vw {l : List UInt8} (h : 0 < l.length) : ver l = l[0].toNat / 16 := by
  unfold ver
  rw [List.getElem?_eq_getElem h]; rfl
theorem Ox {w : World} {s : ah} {l : List UInt8} (hs : aS w s l) (hl : l.length <= 2 ^ 46) (q : Bool) :
    oM s q w fun b h z e w' => e = fQ l q ∧ Ext w w' ∧ (e = 0 -> b = s ∧ h = (hlen l : Int) ∧ z = (num l 2 2 : Int)) := by
  apply NY
  have hsl := hs.1
  refine aK fun a w1 r1 e1 z1 f1 => ?_
  by_cases c1 : l.length < 20
  · have c1' : ((s.len : Int) < 20) := by omega
    simp only [c1', decide_true, cond_true]
    refine aT r1 rfl rfl fun w2 r2 f2 _ => ?_
    simp only [sx, r2.cell]
    exact ⟨by simp [fQ, c1], f1.new (f2 (· = a) rfl) fun y hy e => by omega, fun h => by cases h⟩
  have c1' : ¬ ((s.len : Int) < 20) := by omega
  simp only [c1', decide_false, cond_false]
  have hs1 := hs.ext f1
  refine byte_at (i := 0) hs1 (by omega) fun a0 hc0 hb0 => ?_
  simp -zeta only [sx, hc0, low4, <- OG (show 0 < l.length by omega)]
  refine rD rfl rfl fun b w2 r2 e2 z2 f2 => ?_
  simp -zeta only [sx, r2.cell]
  refine jm (Il (hs1.ext f2) hl (by omega) (by omega) _ _) ?_
  rintro _ w3 ⟨rfl, f3⟩
  refine bM (r2.ext f3) rfl (by simp) fun w4 r4 f4 z4 => ?_
  have hsz3 := f3.size
  have x4 : Ext w1 w4 := (f2.trans f3).new (f4 (· = b) rfl) fun y hy e => by omega
  have x5 : Ext w w4 := f1.trans x4
  have ra := r1.ext x4
  simp only [List.set_cons_zero, List.set_cons_succ, show (Int.toNat 2) = 2 from rfl] at r4
  have hs4 := hs1.ext x4
  have hlt16 : hlen l <= 60 := by rw [OG (show 0 < l.length by omega)]; omega
  have fin : ∀ (e : Int) W, Ext w4 W -> e = fQ l q -> e ≠ 0 -> gJ [(Value.slice none 0 0), (Value.int .i64 0), (Value.int .i64 0)] W ⟨a, 0, none⟩ 0 fun w28 =>
      vO .slice (w28.cell? ⟨a, 0, none⟩) fun y29 => vO (.int .i64) (w28.cell? ⟨a, 1, none⟩) fun y30 => vO (.int .i64) (w28.cell? ⟨a, 2, none⟩) fun y31 => (e = fQ l q ∧ Ext w w28 ∧ (e = 0 -> y29 = s ∧ y30 = (hlen l : Int) ∧ y31 = (num l 2 2 : Int))) := by
    intro e W hx he hne
    refine aT (ra.ext hx) rfl rfl fun w28 r28 f28 _ => ?_
    simp only [List.getElem?_cons_zero, List.getElem?_cons_succ, aj, aA, au, r28.cell]
    exact ⟨he, (x5.trans hx).new (f28 (· = a) rfl) fun y hy e => by omega, fun h => absurd h hne⟩
  refine byte_at (i := 0) hs4 (by omega) fun a1 hc1 _ => ?_
  have ev : (lu .u8 (l[0].toNat : Int) 4 != 4) = decide (ver l ≠ 4) := by
    rw [Vw (show 0 < l.length by omega)]
    have := Vg (a := l[0].toNat) (k := 4) (by omega)
    rw [show ((4 : Nat) : Int) = 4 from rfl, show (2 : Nat) ^ 4 = 16 by decide] at this
    rw [this]
    generalize l[0].toNat / 16 = q
    by_cases h : q = 4
    · subst h; rfl
    · simp [h]; omega
  simp only [List.getElem?_cons_zero, List.getElem?_cons_succ, aj, aA, au, hc1, r4.cell, ev]
  refine ⟨by omega, ?_⟩
  by_cases v : ver l ≠ 4
  · simp only [v, ne_eq, not_false_eq_true, decide_true, cond_true]
    exact fin 4 w4 (Ext.refl _) (by simp only [fQ]; rw [if_neg (by omega), if_pos (.inl v)]) (by omega)
  simp only [v, decide_false, cond_false]
  by_cases h20 : hlen l < 20
  · have h20' : ((hlen l : Int) < 20) := by omega
    simp only [h20', decide_true, cond_true]
    exact fin 4 w4 (Ext.refl _) (by simp only [fQ]; rw [if_neg (by omega), if_pos (.inr h20)]) (by omega)
  have h20' : ¬ ((hlen l : Int) < 20) := by omega
  have o1 : fQ l q = if l.length < hlen l ∨ (l.length < num l 2 2 ∧ q = false) then 3 else if num l 2 2 < hlen l ∨ 32768 <= num l 6 2 then 4 else 0 := by
    simp only [fQ]; rw [if_neg (by omega), if_neg (by rintro (h | h); exact v h; omega)]
  simp only [h20', decide_false, cond_false]
  by_cases c3 : l.length < hlen l
  · have c3' : ((hlen l : Int) > (s.len : Int)) := by omega
    simp only [c3', decide_true, cond_true]
    exact fin 3 w4 (Ext.refl _) (by rw [o1, if_pos (.inl c3)]) (by omega)
  have c3' : ¬ ((hlen l : Int) > (s.len : Int)) := by omega
  simp only [c3', decide_false, cond_false]
  by_cases c4 : l.length < num l 2 2 ∧ q = false
  · have c4' : ((num l 2 2 : Int) > (s.len : Int)) := by omega
    simp only [c4', decide_true, c4.2, Bool.not_false, cond_true]
    have := fin 3 w4 (Ext.refl _) (by rw [o1, if_pos (.inr c4)]) (by omega)
    rw [c4.2] at this
    exact this
  have cont : ∀ X Y : Prop, (bif decide ((num l 2 2 : Int) > (s.len : Int)) then (bif !q then X else Y) else Y) = Y := by
    intro X Y
    by_cases c4' : ((num l 2 2 : Int) > (s.len : Int))
    · cases q with
      | true => simp
      | false => exact absurd ⟨by omega, rfl⟩ c4
    · simp only [c4', decide_false, cond_false]
  rw [if_neg (by rintro (h | h); exact c3 h; exact c4 h)] at o1
  simp only [cont]
  by_cases c5 : num l 2 2 < hlen l
  · have c5' : ((num l 2 2 : Int) < (hlen l : Int)) := by omega
    simp only [c5', decide_true, cond_true]
    exact fin 4 w4 (Ext.refl _) (by rw [o1, if_pos (.inl c5)]) (by omega)
  have c5' : ¬ ((num l 2 2 : Int) < (hlen l : Int)) := by omega
  simp only [c5', decide_false, cond_false]
  refine jm (Il hs4 hl (by omega) (by omega) _ _) ?_
  rintro _ w5 ⟨rfl, f5⟩
  have n6 := oq l 6
  have eb : (nN .i64 ((num l (Int.toNat 6) (Int.toNat 2) : Nat) : Int) 32768 != 0) = decide (32768 <= num l 6 2) := by
    have := MJ (n := num l 6 2) (k := 15) (by omega) (by omega)
    rw [show (((2 ^ 15 : Nat) : Nat) : Int) = 32768 from rfl] at this
    rw [show (Int.toNat 6) = 6 from rfl, show (Int.toNat 2) = 2 from rfl, this]
    by_cases h : 32768 <= num l 6 2
    · simp only [h, decide_true, beq_iff_eq]; omega
    · simp only [h, decide_false, beq_eq_false_iff_ne, ne_eq]; omega
  have r5 := r4.ext f5
  simp only [List.getElem?_cons_zero, List.getElem?_cons_succ, aj, aA, au, eb, r5.cell]
  by_cases c6 : 32768 <= num l 6 2
  · simp only [c6, decide_true, cond_true]
    exact fin 4 w5 f5 (by rw [o1, if_pos (.inr c6)]) (by omega)
  simp only [c6, decide_false, cond_false]
  refine aT (ra.ext f5) rfl rfl fun w28 r28 f28 _ => ?_
  simp only [true_and, List.getElem?_cons_zero, List.getElem?_cons_succ, aj, aA, au, r28.cell]
  exact ⟨by rw [o1, if_neg (by omega)], (x5.trans f5).new (f28 (· = a) rfl) fun y hy e => by omega, fun _ => by trivial⟩
theorem FK {l : List UInt8} {q : Bool} (h : fQ l q = 0) : 20 <= hlen l ∧ hlen l <= l.length ∧ hlen l <= num l 2 2 ∧ 20 <= l.length := by
  unfold fQ at h
  split at h
  · omega
  split at h
  · omega
  split at h
  · omega
  split at h
  · omega
  omega
theorem rF (w : World) : LQ w dL.zero 0 0 0 0 0 0 0 false false ⟨none, 0, 0⟩ ⟨none, 0, 0⟩ := ⟨rfl, rfl, rfl, rfl, rfl, rfl, rfl, rfl, rfl, aS.nil, aS.nil⟩
theorem Du {l : List UInt8} : (field l).opts.length <= l.length ∧ (field l).data.length <= l.length := by
  simp only [field, List.length_drop, List.length_take]; omega
set_option maxRecDepth 100000 in
theorem Dc {w : World} {s : ah} {l : List UInt8} (hs : aS w s l) (hl : l.length <= 2 ^ 40) :
    lK s w fun t i o l' p s' d df mf op da e w' => e = fA l false ∧ LQ w' (V4.read l false) t i o l' p s' d df mf op da ∧ Ext w w' := by
  apply LM
  have hsl := hs.1
  refine aK fun a w1 r1 e1 z1 f1 => ?_
  refine Dp (Ox (hs.ext f1) (by omega) false) ?_
  rintro b h z e w2 ⟨rfl, f2, h2⟩
  refine rD rfl rfl fun c w3 r3 e3 z3 f3 => ?_
  have x3 := f2.trans f3
  have ra := r1.ext x3
  by_cases ho : fQ l false = 0
  · obtain ⟨rfl, rfl, rfl⟩ := h2 ho
    have hz := FK ho
    simp only [sx, r3.cell, ho, show ((0 : Int) != 0) = false from rfl]
    refine fK ((hs.ext f1).ext x3) (by omega) (by omega) (by omega) fun s4 hs4 _ => ?_
    rw [show (Int.toNat 0) = 0 from rfl, List.drop_zero, Int.toNat_natCast] at hs4
    refine aK fun d w4 r4 e4 z4 f4 => ?_
    refine IL (Qe (uQ r4 (hs4.ext f4)) (by simp) (by intro q hq; simp only [List.mem_singleton] at hq; subst hq; simp only [List.length_take]; omega)) ?_
    rintro _ w5 ⟨rfl, f5⟩
    rw [yE]
    have x5 := x3.trans (f4.trans f5)
    have hsz5 := x5.size
    by_cases hr : fold (tot (l.take (hlen l))) = 65535
    · simp only [hr, decide_true, Bool.not_true, cond_false]
      have r5 := r3.ext (f4.trans f5)
      simp only [List.getElem?_cons_zero, List.getElem?_cons_succ, aj, aA, au, r5.cell]
      refine nY (Gu ((hs.ext f1).ext x5) (by omega) hz.1 hz.2.1 hz.2.2.1) ?_
      rintro _ _ _ _ _ _ _ _ _ op da w6 ⟨⟨rfl, rfl, rfl, rfl, rfl, rfl, rfl, rfl, rfl, hop, hda⟩, no, nd, f6⟩
      have hlo := Du (l := l)
      have hopl := hop.1
      have hdal := hda.1
      refine rD rfl rfl fun g w7 r7 e7 z7 f7 => ?_
      simp only [sx, r7.cell]
      refine uw (DR (field l) (o := op) (d := da) hopl hdal (by omega) (by omega)) ?_
      rintro _ w8 ⟨rfl, f8⟩
      have r8 := r7.ext f8
      have x8 : Ext w w8 := ((((f1.trans x5).trans f6).trans f7).trans f8)
      have x8' : Ext w1 w8 := (((x5.trans f6).trans f7).trans f8)
      have rd : fA l false = if (field l).check ≠ 0 then 4 else 0 := by
        unfold fA
        rw [ho, hr]; simp
      by_cases hc : (field l).check = 0
      · simp only [hc, show ((0 : Int) != 0) = false from rfl, cond_false, List.getElem?_cons_zero, List.getElem?_cons_succ, aj, aA, au, aJ, r8.cell]
        refine aT (r1.ext x8') rfl rfl fun w9 r9 f9 _ => ?_
        simp only [List.getElem?_cons_zero, List.getElem?_cons_succ, aj, aA, au, aJ, r9.cell]
        have rd0 : fA l false = 0 := by rw [rd, hc]; simp
        refine ⟨by rw [rd0], ?_, x8.new (f9 (· = a) rfl) fun y hy e => by omega⟩
        unfold V4.read
        rw [if_pos rd0]
        have hsz6 := f6.size
        refine ⟨rfl, rfl, rfl, rfl, rfl, rfl, rfl, rfl, rfl, ?_, ?_⟩
        · exact aS.fr ((hop.ext f7).ext f8) (f9 (· = a) rfl) fun x hx _ e => by have := no x hx; omega
        · exact aS.fr ((hda.ext f7).ext f8) (f9 (· = a) rfl) fun x hx _ e => by have := nd x hx; omega
      · have hc' : ((field l).check != 0) = true := by simpa using hc
        simp only [hc', cond_true]
        refine aT (r1.ext x8') rfl rfl fun w9 r9 f9 _ => ?_
        simp only [List.getElem?_cons_zero, List.getElem?_cons_succ, aj, aA, au, aJ, r9.cell]
        have rd0 : fA l false = 4 := by rw [rd, if_pos hc]
        refine ⟨by rw [rd0], ?_, x8.new (f9 (· = a) rfl) fun y hy e => by omega⟩
        unfold V4.read
        rw [rd0]
        exact rF _
    · simp only [hr, decide_false, Bool.not_false, cond_true]
      refine aT (r1.ext x5) rfl rfl fun w9 r9 f9 _ => ?_
      simp only [List.getElem?_cons_zero, List.getElem?_cons_succ, aj, aA, au, aJ, r9.cell]
      have rd0 : fA l false = 5 := by unfold fA; rw [ho]; simp [hr]
      refine ⟨by rw [rd0], ?_, (f1.trans x5).new (f9 (· = a) rfl) fun y hy e => by omega⟩
      unfold V4.read
      rw [rd0]
      exact rF _
  · have ho' : (fQ l false != 0) = true := by simpa using ho
    simp only [sx, ho']
    refine aT ra rfl rfl fun w9 r9 f9 _ => ?_
    simp only [List.getElem?_cons_zero, List.getElem?_cons_succ, aj, aA, au, aJ, r9.cell]
    have rd0 : fA l false = fQ l false := by unfold fA; rw [if_pos ho]
    refine ⟨by rw [rd0], ?_, (f1.trans x3).new (f9 (· = a) rfl) fun y hy e => by omega⟩
    unfold V4.read
    rw [rd0, if_neg ho]
    exact rF _
theorem uS (a b : Int) : (a == b) = decide (a = b) := rfl
theorem Qi {w : World} {s : ah} {l : List UInt8} (hs : aS w s l) (hl : l.length <= 2 ^ 40) :
    ng s w fun t i o l' p s' d df mf op da e w' => e = fA l true ∧ LQ w' (V4.read l true) t i o l' p s' d df mf op da ∧ Ext w w' := by
  apply I_
  have hsl := hs.1
  refine aK fun a w1 r1 e1 z1 f1 => ?_
  refine Dp (Ox (hs.ext f1) (by omega) true) ?_
  rintro b h z e w2 ⟨rfl, f2, h2⟩
  refine rD rfl rfl fun c w3 r3 e3 z3 f3 => ?_
  have x3 := f2.trans f3
  have ra := r1.ext x3
  have hsz3 := x3.size
  by_cases ho : fQ l true = 0
  · obtain ⟨rfl, rfl, rfl⟩ := h2 ho
    have hz := FK ho
    simp only [sx, r3.cell, ho, show ((0 : Int) != 0) = false from rfl]
    refine nY (Gu ((hs.ext f1).ext x3) (by omega) hz.1 hz.2.1 hz.2.2.1) ?_
    rintro _ _ _ _ _ _ _ _ _ op da w6 ⟨⟨rfl, rfl, rfl, rfl, rfl, rfl, rfl, rfl, rfl, hop, hda⟩, no, nd, f6⟩
    refine aT (ra.ext f6) rfl rfl fun w9 r9 f9 _ => ?_
    simp only [List.getElem?_cons_zero, List.getElem?_cons_succ, aj, aA, au, aJ, r9.cell]
    have rd0 : fA l true = 0 := by unfold fA; rw [ho]; simp
    refine ⟨by rw [rd0], ?_, ((f1.trans x3).trans f6).new (f9 (· = a) rfl) fun y hy e => by omega⟩
    unfold V4.read
    rw [if_pos rd0]
    refine ⟨rfl, rfl, rfl, rfl, rfl, rfl, rfl, rfl, rfl, ?_, ?_⟩
    · exact aS.fr hop (f9 (· = a) rfl) fun x hx _ e => by have := no x hx; omega
    · exact aS.fr hda (f9 (· = a) rfl) fun x hx _ e => by have := nd x hx; omega
  · have ho' : (fQ l true != 0) = true := by simpa using ho
    simp only [sx, ho']
    refine aT ra rfl rfl fun w9 r9 f9 _ => ?_
    simp only [List.getElem?_cons_zero, List.getElem?_cons_succ, aj, aA, au, aJ, r9.cell]
    have rd0 : fA l true = fQ l true := by unfold fA; rw [if_pos ho]
    refine ⟨by rw [rd0], ?_, (f1.trans x3).new (f9 (· = a) rfl) fun y hy e => by omega⟩
    unfold V4.read
    rw [rd0, if_neg ho]
    exact rF _
theorem Qs {w : World} (p : dL) {o d : ah} (ho : o.len = p.opts.length) (hd : d.len = p.data.length) (h1 : p.opts.length <= 2 ^ 46) (h2 : p.data.length <= 2 ^ 46) :
    jO p.tos p.id p.off p.ttl p.proto p.src p.dst p.df p.mf o d w fun r w' => r = p.check ∧ Ext w w' := by
  apply Eh
  refine aK fun a w1 r1 _ _ f1 => ?_
  intro J4
  have hJ : ∀ b, b = decide (aU p.tos 1 ∧ aU p.ttl 1 ∧ aU p.proto 1 ∧ aU p.id 2) -> J4 b w1 := by
    rintro b hb
    simp -zeta only [J4]
    intro J7
    have h7 : ∀ c, c = decide ((eU p.src ∧ eU p.dst) ∧ (0 <= p.off ∧ p.off <= 65528 ∧ Int.tmod p.off 8 = 0)) -> J7 c w1 := by
      rintro c hc
      simp -zeta only [J7]
      intro J10
      have h10 : ∀ e, e = decide (p.opts.length <= 40 ∧ p.opts.length % 4 = 0) -> J10 e := by
        rintro e he
        simp -zeta only [J10]
        intro J12
        have h12 : ∀ g, g = (!decide p.fine) -> J12 g := by
          rintro g rfl
          simp only [sx, J12, r1.cell]
          by_cases hf : p.fine
          · simp only [hf, decide_true, Bool.not_true, cond_false]
            refine qo (qC _ _ _ _ _ _ _ _ _ _ _ (show o.len <= 2 ^ 60 by omega) (show d.len <= 2 ^ 60 by omega) _) ?_
            rintro _ w8 ⟨rfl, f8⟩
            have r9 := r1.ext f8
            simp only [List.getElem?_cons_zero, List.getElem?_cons_succ, aj, aA, au, r9.cell]
            rw [wrap_i64 (by omega) (by omega)]
            by_cases hs : 20 + p.opts.length + p.data.length <= 65535
            · have : ¬ (20 + (o.len : Int) + (d.len : Int) > 65535) := by omega
              simp only [this, decide_false, cond_false]
              by_cases hs2 : p.off <= 65535 - (p.data.length : Int)
              · have : ¬ (p.off > 65535 - (d.len : Int)) := by omega
                simp only [this, decide_false, cond_false]
                exact ⟨by simp [dL.check, hf, dL.short, hs, hs2], f1.trans f8⟩
              · have : (p.off > 65535 - (d.len : Int)) := by omega
                simp only [this, decide_true, cond_true]
                exact ⟨by simp [dL.check, hf, dL.short, hs2], f1.trans f8⟩
            · have : (20 + (o.len : Int) + (d.len : Int) > 65535) := by omega
              simp only [this, decide_true, cond_true]
              exact ⟨by simp [dL.check, hf, dL.short, hs], f1.trans f8⟩
          · simp only [hf, decide_false, Bool.not_false, cond_true]
            exact ⟨by simp [dL.check, hf], f1⟩
        cases b with
        | false =>
          simp only [Bool.not_false, cond_true]
          exact h12 _ (by rw [decide_eq_false fun h : p.fine => (of_decide_eq_false hb.symm) h.1]; rfl)
        | true =>
        cases c with
        | false =>
          simp only [Bool.not_true, Bool.not_false, cond_false, cond_true]
          exact h12 _ (by rw [decide_eq_false fun h : p.fine => (of_decide_eq_false hc.symm) ⟨h.2.1, h.2.2.1.1, h.2.2.1.2.1, h.2.2.1.2.2.1⟩]; rfl)
        | true =>
        cases e with
        | false =>
          simp only [Bool.not_true, Bool.not_false, cond_false, cond_true]
          exact h12 _ (by rw [decide_eq_false fun h : p.fine => (of_decide_eq_false he.symm) h.2.2.2]; rfl)
        | true =>
        have hb' := of_decide_eq_true hb.symm
        have hc' := of_decide_eq_true hc.symm
        have he' := of_decide_eq_true he.symm
        simp -zeta only [sx, Bool.not_true, r1.cell]
        cases hm : p.mf with
        | false =>
          simp only [cond_false]
          have hfine : p.fine := ⟨hb', hc'.1, ⟨hc'.2.1, hc'.2.2.1, hc'.2.2.2, fun h => by rw [hm] at h; cases h⟩, he'⟩
          exact h12 _ (by rw [decide_eq_true hfine]; rfl)
        | true =>
          simp only [cond_true]
          refine ⟨by omega, h12 _ ?_⟩
          rw [hd, Int.tmod_eq_emod_of_nonneg (by omega)]
          by_cases hx : p.data.length % 8 = 0
          · have hfine : p.fine := ⟨hb', hc'.1, ⟨hc'.2.1, hc'.2.2.1, hc'.2.2.2, fun _ => hx⟩, he'⟩
            rw [decide_eq_true hfine]
            simp; omega
          · have hfine : ¬ p.fine := fun h => hx (h.2.2.1.2.2.2 hm)
            rw [decide_eq_false hfine]
            simp; omega
      simp -zeta only [sx, r1.cell]
      by_cases hx : p.opts.length <= 40
      · have : ((o.len : Int) <= 40) := by omega
        simp -zeta only [this, decide_true, cond_true]
        refine ⟨by omega, h10 _ ?_⟩
        rw [ho, Int.tmod_eq_emod_of_nonneg (by omega), uS]
        exact decide_eq_decide.2 ⟨fun h => ⟨hx, by omega⟩, fun h => by omega⟩
      · have : ¬ ((o.len : Int) <= 40) := by omega
        simp -zeta only [this, decide_false, cond_false]
        exact h10 _ (decide_eq_false fun h => hx h.1).symm
    simp -zeta only [sx, r1.cell]
    refine t_ (Af _ _) ?_
    rintro _ W ⟨rfl, hW⟩; subst hW
    by_cases c1 : eU p.src
    · simp -zeta only [c1, decide_true, cond_true, List.getElem?_cons_zero, List.getElem?_cons_succ, aj, au, r1.cell]
      refine t_ (Af _ _) ?_
      rintro _ W ⟨rfl, hW⟩; subst hW
      by_cases c2 : eU p.dst
      · simp -zeta only [c2, decide_true, cond_true, List.getElem?_cons_zero, List.getElem?_cons_succ, aj, au, r1.cell]
        by_cases c3 : p.off >= 0
        · simp -zeta only [c3, decide_true, cond_true]
          by_cases c4 : p.off <= 65528
          · simp -zeta only [c4, decide_true, cond_true]
            refine ⟨by omega, h7 _ ?_⟩
            rw [uS]
            exact decide_eq_decide.2 ⟨fun h => ⟨⟨c1, c2⟩, c3, c4, h⟩, fun h => h.2.2.2⟩
          · simp -zeta only [c4, decide_false, cond_false]
            exact h7 _ (decide_eq_false fun h => c4 h.2.2.1).symm
        · simp -zeta only [c3, decide_false, cond_false]
          exact h7 _ (decide_eq_false fun h => c3 h.2.1).symm
      · simp -zeta only [c2, decide_false, cond_false]
        exact h7 _ (decide_eq_false fun h => c2 h.1.2).symm
    · simp -zeta only [c1, decide_false, cond_false]
      exact h7 _ (decide_eq_false fun h => c1 h.1.1).symm
  simp -zeta only [sx, r1.cell]
  refine dF (jH _ _ _) ?_
  rintro _ W ⟨rfl, hW⟩; subst hW
  by_cases c1 : aU p.tos 1
  · simp -zeta only [c1, decide_true, cond_true, List.getElem?_cons_zero, List.getElem?_cons_succ, aj, au, r1.cell]
    refine dF (jH _ _ _) ?_
    rintro _ W ⟨rfl, hW⟩; subst hW
    by_cases c2 : aU p.ttl 1
    · simp -zeta only [c2, decide_true, cond_true, List.getElem?_cons_zero, List.getElem?_cons_succ, aj, au, r1.cell]
      refine dF (jH _ _ _) ?_
      rintro _ W ⟨rfl, hW⟩; subst hW
      by_cases c3 : aU p.proto 1
      · simp -zeta only [c3, decide_true, cond_true, List.getElem?_cons_zero, List.getElem?_cons_succ, aj, au, r1.cell]
        refine dF (jH _ _ _) ?_
        rintro _ W ⟨rfl, hW⟩; subst hW
        exact hJ _ (decide_eq_decide.2 ⟨fun h => ⟨c1, c2, c3, h⟩, fun h => h.2.2.2⟩)
      · simp -zeta only [c3, decide_false, cond_false]
        exact hJ _ (decide_eq_false fun h => c3 h.2.2.1).symm
    · simp -zeta only [c2, decide_false, cond_false]
      exact hJ _ (decide_eq_false fun h => c2 h.2.1).symm
  · simp -zeta only [c1, decide_false, cond_false]
    exact hJ _ (decide_eq_false fun h => c1 h.1).symm
theorem BG (n : Nat) : dK 1 n = [UInt8.ofNat n] := by simp [dK]
theorem Fq {n : Nat} : IntKind.u8.wrap (n : Int) = ((UInt8.ofNat n).toNat : Int) := by
  rw [IntKind.wrap_u8]; simp
theorem J_ {w : World} {p : dL} (hc : p.check = 0) {o d : ah} (ho : aS w o p.opts) (hd : d.len = p.data.length) {z s : Nat} (hz : z = 20 + p.opts.length + p.data.length) (hs : s < 65536) :
    jA p.tos p.id p.off p.ttl p.proto p.src p.dst p.df p.mf o d (z : Int) (s : Int) w fun r w' => Buf w' r (bytesV (p.head s)) ∧ Ext w w' ∧ ∀ b, ah.at r b -> w.heap.size <= b := by
  apply EN
  obtain ⟨hf, hsh⟩ := jg hc
  have hbl := Ij hf
  obtain ⟨⟨g1, g2, g3, g4⟩, ⟨q1, q2⟩, ⟨o1, o2, o3, o4⟩, p1, p2⟩ := id hf
  have g1' := mP g1
  have g2' := mP g2
  have g3' := mP g3
  have g4' := U3 g4
  have hsh1 := hsh.1
  refine aK fun a w1 r1 e1 _ f1 => ?_
  simp -zeta only [sx, r1.cell]
  refine ⟨by omega, ?_⟩
  intro J7
  have main : ∀ j8 : Int, (bif p.mf then IntKind.i64.wrap (j8 + 8192) else j8) = (p.bits : Int) -> J7 j8 := by
    intro j8 hj8
    simp -zeta only [J7]
    intro J9
    have m9 : ∀ j10, j10 = (p.bits : Int) -> J9 j10 := by
      rintro _ rfl
      have r1d := r1.drew
      simp only [J9, List.getElem?_cons_zero, List.getElem?_cons_succ, aj, aA, au, aJ, r1d.cell]
      refine vY (wo _ _ _ _ _ _ _ _ _ _ _ (show o.len <= 2 ^ 60 by have := ho.1; omega) _) ?_
      rintro _ w2 ⟨rfl, f2⟩
      have r2 := r1d.ext f2
      simp only [true_and, List.getElem?_cons_zero, r2.cell]
      refine ⟨by omega, aK fun b w3 r3 e3 _ f3 => ?_⟩
      have ol := ho.1
      rw [Int.tdiv_eq_ediv_of_nonneg (by omega), wrap_i64 (n := (20 + (o.len : Int)) / 4) (by omega) (by omega), wrap_i64 (n := 64 + (20 + (o.len : Int)) / 4) (by omega) (by omega)] at r3
      have e64 : (64 + (20 + (o.len : Int)) / 4) = ((64 + (20 + p.opts.length) / 4 : Nat) : Int) := by omega
      obtain ⟨t, ht⟩ : ∃ t : Nat, p.tos = (t : Int) := ⟨p.tos.toNat, by omega⟩
      rw [e64, Fq, ht, Fq] at r3
      have b3 : Buf w3 ⟨some ⟨b, 0, none⟩, 2, 2⟩ (bytesV (dK 1 (64 + (20 + p.opts.length) / 4) ++ dK 1 p.tos.toNat)) := by
        rw [BG, BG, ht]
        exact aS.row (l := [UInt8.ofNat (64 + (20 + p.opts.length) / 4), UInt8.ofNat t]) (by simpa [bytesV] using r3)
      have hdr : w1.drew.heap.size = w1.heap.size := rfl
      have s2 := f2.size
      have s1 := f1.size
      have r3a := (r2.ext f3).drew
      simp only [List.getElem?_cons_zero, List.getElem?_cons_succ, aj, au, r3a.cell]
      have b3d : aS w3.drew ⟨some ⟨b, 0, none⟩, 2, 2⟩ _ := (aS.aV b3).ext (Ext.drew _)
      have put : ∀ {W : World} {t : ah} {l : List UInt8} (n : Int) (k : Nat), aS W t l -> l.length <= 100 -> aU n (k : Int) -> n < 2 ^ 62 -> aY t n (k : Int) W fun r w' => Buf w' r (bytesV (l ++ dK k n.toNat)) ∧ Ext W w' ∧ (∀ b, ah.at r b -> W.heap.size <= b) := by
        intro W t l n k h1 h2 h3 h4
        refine bD (n_ h1 (by omega) n (k : Int) h4) ?_
        rintro r w' ⟨h5, h6, h7⟩
        refine ⟨?_, h6, h7⟩
        simpa [jU, h3] using h5
      have m2 : aU ((z : Nat) : Int) (2 : Nat) := ⟨⟨by omega, by omega⟩, by omega, by simp; omega⟩
      have m3 : aU ((p.bits : Nat) : Int) (2 : Nat) := ⟨⟨by omega, by omega⟩, by omega, by simp; omega⟩
      have m4 : aU ((s : Nat) : Int) (2 : Nat) := ⟨⟨by omega, by omega⟩, by omega, by simp; omega⟩
      have m5 : aU p.src (4 : Nat) := ⟨⟨by omega, by omega⟩, q1.1, by have := q1.2; simp; omega⟩
      have m6 : aU p.dst (4 : Nat) := ⟨⟨by omega, by omega⟩, q2.1, by have := q2.2; simp; omega⟩
      have q1' := q1.2
      have q2' := q2.2
      refine bD (put (z : Int) 2 b3d (by simp [aP]) m2 (by omega)) ?_
      rintro t4 w4 ⟨b4, f4, _⟩
      simp only [true_and, List.getElem?_cons_zero, List.getElem?_cons_succ, (r3a.ext f4).cell]
      refine bD (put p.id 2 (aS.aV b4) (by simp [aP]) g4 (by omega)) ?_
      rintro t5 w5 ⟨b5, f5, _⟩
      refine bD (put (p.bits : Int) 2 (aS.aV b5) (by simp [aP]) m3 (by omega)) ?_
      rintro t6 w6 ⟨b6, f6, n6⟩
      have r6 := ((r3a.ext f4).ext f5).ext f6
      simp only [List.getElem?_cons_zero, List.getElem?_cons_succ, aj, au, r6.cell]
      refine aK fun c w7 r7 e7 _ f7 => ?_
      obtain ⟨u, hu⟩ : ∃ u : Nat, p.ttl = (u : Int) := ⟨p.ttl.toNat, by omega⟩
      obtain ⟨v, hv⟩ : ∃ v : Nat, p.proto = (v : Int) := ⟨p.proto.toNat, by omega⟩
      rw [hu, hv, Fq, Fq] at r7
      have b7 : aS w7 ⟨some ⟨c, 0, none⟩, 2, 2⟩ (dK 1 p.ttl.toNat ++ dK 1 p.proto.toNat) := by
        rw [BG, BG, hu, hv]
        exact aS.aV (aS.row (l := [UInt8.ofNat u, UInt8.ofNat v]) (by simpa [bytesV] using r7))
      refine bC (b6.ext f7) b7 (by simp [aP]) fun t8 w8 b8 f8 n8 _ => ?_
      have s3 := f3.size
      have s4 := f4.size
      have s5 := f5.size
      have s6 := f6.size
      have s7 := f7.size
      have hdr3 : w3.drew.heap.size = w3.heap.size := rfl
      have x3 : Ext w w3.drew := ((f1.trans (Ext.drew _)).trans f2).trans (f3.trans (Ext.drew _))
      have x7 : Ext w3.drew w7 := ((f4.trans f5).trans f6).trans f7
      have x8 : Ext w3.drew w8 := x7.new f8 fun y hy h => by have := n6 y h; omega
      refine bD (put (s : Int) 2 (aS.aV b8) (by simp [aP]) m4 (by omega)) ?_
      rintro t9 w9 ⟨b9, f9, _⟩
      have r9 := (r3a.ext (x8.trans f9)).drew
      simp only [List.getElem?_cons_zero, List.getElem?_cons_succ, aj, au, r9.cell]
      refine bD (put p.src 4 ((aS.aV b9).ext (Ext.drew _)) (by simp [aP]) m5 (by omega)) ?_
      rintro t10 w10 ⟨b10, f10, _⟩
      simp only [true_and, List.getElem?_cons_zero, List.getElem?_cons_succ, (r9.ext f10).cell]
      refine bD (put p.dst 4 (aS.aV b10) (by simp [aP]) m6 (by omega)) ?_
      rintro t11 w11 ⟨b11, f11, n11⟩
      have r11 := (r9.ext f10).ext f11
      simp only [List.getElem?_cons_zero, List.getElem?_cons_succ, aj, aA, r11.cell]
      have x11 : Ext w w11 := (x3.trans x8).trans ((f9.trans (Ext.drew _)).trans (f10.trans f11))
      refine bC b11 (ho.ext x11) (by simp [aP]; omega) fun t12 w12 b12 f12 n12 _ => ?_
      have s11 := x11.size
      have s10 : w.heap.size <= w10.heap.size := ((x3.trans x8).trans ((f9.trans (Ext.drew _)).trans f10)).size
      refine ⟨?_, x11.new f12 fun y hy h => by have := n11 y h; omega, fun y hy => ?_⟩
      · have : p.head s = dK 1 (64 + (20 + p.opts.length) / 4) ++ dK 1 p.tos.toNat ++ dK 2 ((z : Int)).toNat ++ dK 2 p.id.toNat ++ dK 2 ((p.bits : Int)).toNat ++ (dK 1 p.ttl.toNat ++ dK 1 p.proto.toNat) ++ dK 2 ((s : Int)).toNat ++ dK 4 p.src.toNat ++ dK 4 p.dst.toNat ++ p.opts := by
          rw [Int.toNat_natCast, Int.toNat_natCast, Int.toNat_natCast, hz]
          simp only [dL.head, List.append_assoc]
        rw [this]
        exact b12
      · rcases n12 y hy with h | h
        · have := n11 y h; omega
        · omega
    cases hm : p.mf with
    | false => rw [hm] at hj8; exact m9 _ hj8
    | true => rw [hm] at hj8; exact m9 _ hj8
  have e0 : Int.tdiv p.off 8 = ((p.off.toNat / 8 : Nat) : Int) := by rw [Int.tdiv_eq_ediv_of_nonneg o1]; omega
  simp -zeta only [e0]
  have hq : p.off.toNat / 8 < 8192 := by omega
  rw [wrap_i64 (n := ((p.off.toNat / 8 : Nat) : Int)) (by omega) (by omega)]
  cases hdf : p.df with
  | false =>
    refine main _ ?_
    cases hm : p.mf with
    | false => simp [dL.bits, hdf, hm]
    | true => simp only [cond_true]; rw [wrap_i64 (by omega) (by omega)]; simp [dL.bits, hdf, hm]
  | true =>
    refine main _ ?_
    rw [wrap_i64 (n := _ + 16384) (by omega) (by omega)]
    cases hm : p.mf with
    | false => simp [dL.bits, hdf, hm]
    | true => simp only [cond_true]; rw [wrap_i64 (by omega) (by omega)]; simp [dL.bits, hdf, hm]
theorem Ql {w : World} (p : dL) {o d : ah} (ho : aS w o p.opts) (hd : aS w d p.data) (h1 : p.opts.length <= 2 ^ 46) (h2 : p.data.length <= 2 ^ 46) :
    jL p.tos p.id p.off p.ttl p.proto p.src p.dst p.df p.mf o d w fun r e w' => SY p w w' r e := by
  apply Dj
  refine aK fun a w1 r1 e1 z1 f1 => ?_
  simp -zeta only [sx, r1.cell]
  refine CO (Qs p (o := o) (d := d) ho.1 hd.1 h1 h2) ?_
  rintro _ w2 ⟨rfl, f2⟩
  have r2 := (r1.ext f2).drew
  by_cases hc : p.check = 0
  · have hc' : (p.check != 0) = false := by rw [hc]; rfl
    simp -zeta only [cond_false, List.getElem?_cons_zero, List.getElem?_cons_succ, aj, aA, au, aJ, r2.cell, hc']
    have hsm := (jg hc).2.1
    have ol := ho.1
    have dl := hd.1
    have ez : (20 + (o.len : Int) + (d.len : Int)) = ((20 + p.opts.length + p.data.length : Nat) : Int) := by omega
    refine qo (qC _ _ _ _ _ _ _ _ _ _ _ (show o.len <= 2 ^ 60 by omega) (show d.len <= 2 ^ 60 by omega) _) ?_
    rintro _ w3 ⟨rfl, f3⟩
    have r3 := r2.ext f3
    simp -zeta only [true_and, List.getElem?_cons_zero, List.getElem?_cons_succ, r3.cell, ez]
    have x3 : Ext w w3 := ((f1.trans f2).trans (Ext.drew _)).trans f3
    refine wJ (J_ (s := 0) hc (ho.ext x3) (d := d) hd.1 rfl (by omega)) ?_
    rintro t4 w4 ⟨b4, f4, n4⟩
    refine aK fun c w5 r5 e5 _ f5 => ?_
    have l6 : (p.head 0).length = 20 + p.opts.length := qZ p 0
    refine zU (Q5 (uQ r5 (aS.aV (b4.ext f5))) (by simp) (by intro q hq; simp only [List.mem_singleton] at hq; subst hq; simp only; omega)) ?_
    rintro _ w6 ⟨rfl, f6⟩
    rw [yE]
    have e8 : 65535 - fold (tot (p.head 0)) = p.sum := rfl
    rw [e8]
    have hsl : p.sum < 65536 := by unfold dL.sum; omega
    have x6 : Ext w3 w6.drew := ((f4.trans f5).trans f6).trans (Ext.drew _)
    have r6 := r3.ext x6
    simp -zeta only [List.getElem?_cons_zero, List.getElem?_cons_succ, aj, aA, au, aJ, r6.cell]
    refine qo (qC _ _ _ _ _ _ _ _ _ _ _ (show o.len <= 2 ^ 60 by omega) (show d.len <= 2 ^ 60 by omega) _) ?_
    rintro _ w7 ⟨rfl, f7⟩
    have r7 := r6.ext f7
    simp -zeta only [true_and, List.getElem?_cons_zero, List.getElem?_cons_succ, r7.cell, ez]
    have x7 := x3.trans (x6.trans f7)
    refine wJ (J_ (s := p.sum) hc (ho.ext x7) (d := d) hd.1 rfl hsl) ?_
    rintro t8 w8 ⟨b8, f8, n8⟩
    have r8 := r7.ext f8
    simp -zeta only [true_and, List.getElem?_cons_zero, List.getElem?_cons_succ, r8.cell]
    have l8 : (p.head p.sum).length = 20 + p.opts.length := qZ p _
    have x8 := x7.trans f8
    have z7 := x7.size
    have z8 := x8.size
    refine bC b8 (hd.ext x8) (by omega) fun s9 w9 b9 f9 n9 _ => ?_
    refine ⟨hc.symm, fun h => absurd hc h, fun _ => b9, x8.new f9 fun y hy h => by have := n8 y h; omega, fun y hy => ?_⟩
    rcases n9 y hy with h | h
    · have := n8 y h; omega
    · omega
  · have hc' : (p.check != 0) = true := by simpa using hc
    simp -zeta only [cond_true, hc']
    exact ⟨rfl, fun _ => rfl, fun h => absurd h hc, f1.trans f2, by rintro b ⟨o, h⟩; cases h⟩
theorem G7 {l : List UInt8} {i : Nat} (h : i < l.length) : num l i 1 = l[i].toNat := by
  unfold num
  rw [List.drop_eq_getElem_cons h, List.take_succ_cons]
  simp [fF]
end Go.Proofs
