import Derived.Test.YtibalhhdladmbaaBe3
/- Packets of IPv4: what the program's functions and the document's compute. -/
namespace Go.Proofs
open Gp Gp.V4
set_option maxRecDepth 100000

theorem v4_head (a0 a1 a2 a3 a4 a5 a6 : Int) (a7 a8 : Bool) (a9 a10 : SliceV) (h : a9.len ≤ 2 ^ 60) (w : World) : c_v4_Head a0 a1 a2 a3 a4 a5 a6 a7 a8 a9 a10 w fun r w' => r = 20 + (a9.len : Int) ∧ Ext w w' := by
  apply ok_v4_Head
  unfold s_v4_Head
  refine Al_e fun a w1 r1 _ _ f1 => ?_
  simp only [Ld_eq, List.getElem?_cons_zero, List.getElem?_cons_succ, LdV_some, dec_slice, add_mk, Nat.zero_add, r1.cell]
  exact ⟨by rw [wrap_i64 (by omega) (by omega)], f1⟩

theorem v4_size (a0 a1 a2 a3 a4 a5 a6 : Int) (a7 a8 : Bool) (a9 a10 : SliceV) (h : a9.len ≤ 2 ^ 60) (h' : a10.len ≤ 2 ^ 60) (w : World) : c_v4_Size a0 a1 a2 a3 a4 a5 a6 a7 a8 a9 a10 w fun r w' => r = 20 + (a9.len : Int) + (a10.len : Int) ∧ Ext w w' := by
  apply ok_v4_Size
  unfold s_v4_Size
  refine Al_e fun a w1 r1 _ _ f1 => ?_
  simp only [Ld_eq, List.getElem?_cons_zero, List.getElem?_cons_succ, LdV_some, dec_slice, dec_int, dec_bool, add_mk, Nat.zero_add, Nat.add_zero, r1.drew.cell]
  refine cm_v4_Head (v4_head _ _ _ _ _ _ _ _ _ _ _ h _) ?_
  rintro r w2 ⟨rfl, f2⟩
  refine ⟨by rw [(r1.drew.ext f2).cell]; rfl, ?_, (f1.trans (Ext.drew _)).trans f2⟩
  rw [wrap_i64 (by omega) (by omega)]

theorem v4_whole (a0 a1 a2 a3 a4 a5 a6 : Int) (a7 a8 : Bool) (a9 a10 : SliceV) (w : World) : c_v4_Whole a0 a1 a2 a3 a4 a5 a6 a7 a8 a9 a10 w fun r w' => r = (!a8 && decide (a2 ≤ 0)) ∧ Ext w w' := by
  apply ok_v4_Whole
  unfold s_v4_Whole
  refine Al_e fun a w1 r1 _ _ f1 => ?_
  simp only [Ld_eq, List.getElem?_cons_zero, List.getElem?_cons_succ, LdV_some, dec_int, dec_bool, add_mk, Nat.zero_add, r1.cell]
  cases a8 with
  | true => exact ⟨rfl, f1⟩
  | false => exact ⟨rfl, f1⟩

theorem ref05_head_ok (a0 a1 a2 a3 a4 a5 a6 : Int) (a7 a8 : Bool) (a9 a10 : SliceV) (h : a9.len ≤ 2 ^ 60) (w : World) : c_ref05_Head a0 a1 a2 a3 a4 a5 a6 a7 a8 a9 a10 w fun r w' => r = 20 + (a9.len : Int) ∧ Ext w w' := by
  apply ok_ref05_Head
  unfold s_ref05_Head
  refine Al_e fun a w1 r1 _ _ f1 => ?_
  simp only [Ld_eq, List.getElem?_cons_zero, List.getElem?_cons_succ, LdV_some, dec_slice, add_mk, Nat.zero_add, r1.cell]
  exact ⟨by rw [wrap_i64 (by omega) (by omega)], f1⟩

theorem ref05_size_ok (a0 a1 a2 a3 a4 a5 a6 : Int) (a7 a8 : Bool) (a9 a10 : SliceV) (h : a9.len ≤ 2 ^ 60) (h' : a10.len ≤ 2 ^ 60) (w : World) : c_ref05_Size a0 a1 a2 a3 a4 a5 a6 a7 a8 a9 a10 w fun r w' => r = 20 + (a9.len : Int) + (a10.len : Int) ∧ Ext w w' := by
  apply ok_ref05_Size
  unfold s_ref05_Size
  refine Al_e fun a w1 r1 _ _ f1 => ?_
  simp only [Ld_eq, List.getElem?_cons_zero, List.getElem?_cons_succ, LdV_some, dec_slice, dec_int, dec_bool, add_mk, Nat.zero_add, Nat.add_zero, r1.drew.cell]
  refine cm_ref05_Head (ref05_head_ok _ _ _ _ _ _ _ _ _ _ _ h _) ?_
  rintro r w2 ⟨rfl, f2⟩
  refine ⟨by rw [(r1.drew.ext f2).cell]; rfl, ?_, (f1.trans (Ext.drew _)).trans f2⟩
  rw [wrap_i64 (by omega) (by omega)]

theorem ref05_whole (a0 a1 a2 a3 a4 a5 a6 : Int) (a7 a8 : Bool) (a9 a10 : SliceV) (w : World) : c_ref05_Whole a0 a1 a2 a3 a4 a5 a6 a7 a8 a9 a10 w fun r w' => r = (!a8 && decide (a2 ≤ 0)) ∧ Ext w w' := by
  apply ok_ref05_Whole
  unfold s_ref05_Whole
  refine Al_e fun a w1 r1 _ _ f1 => ?_
  simp only [Ld_eq, List.getElem?_cons_zero, List.getElem?_cons_succ, LdV_some, dec_int, dec_bool, add_mk, Nat.zero_add, r1.cell]
  cases a8 with
  | true => exact ⟨rfl, f1⟩
  | false => exact ⟨rfl, f1⟩

theorem check_ok {w : World} (p : Pkt) {o d : SliceV} (ho : o.len = p.opts.length) (hd : d.len = p.data.length) (h1 : p.opts.length ≤ 2 ^ 46) (h2 : p.data.length ≤ 2 ^ 46) :
    c_v4_Check p.tos p.id p.off p.ttl p.proto p.src p.dst p.df p.mf o d w fun r w' => r = p.check ∧ Ext w w' := by
  apply ok_v4_Check
  unfold s_v4_Check
  refine Al_e fun a w1 r1 _ _ f1 => ?_
  have r1d := r1.drew
  simp -zeta only [Ld_eq, List.getElem?_cons_zero, List.getElem?_cons_succ, LdV_some, dec_int, add_mk, Nat.zero_add, Nat.add_zero, r1d.cell]
  refine cm_be_Fits (fits_ok _ _ _) ?_
  rintro _ _ ⟨rfl, rfl⟩
  simp -zeta only [true_and, List.getElem?_cons_zero, List.getElem?_cons_succ, r1d.cell]
  refine cm_be_Fits (fits_ok _ _ _) ?_
  rintro _ _ ⟨rfl, rfl⟩
  simp -zeta only [true_and, List.getElem?_cons_zero, List.getElem?_cons_succ, r1d.cell]
  refine cm_be_Fits (fits_ok _ _ _) ?_
  rintro _ _ ⟨rfl, rfl⟩
  simp -zeta only [true_and, List.getElem?_cons_zero, List.getElem?_cons_succ, r1d.cell]
  refine cm_be_Fits (fits_ok _ _ _) ?_
  rintro _ _ ⟨rfl, rfl⟩
  refine Al_e fun b w2 r2 _ _ f2 => ?_
  refine cm_v4_all (all_ok (l := [decide (fitsP p.tos 1), decide (fitsP p.ttl 1), decide (fitsP p.proto 1), decide (fitsP p.id 2)]) r2 rfl 4 rfl (by simp)) ?_
  rintro _ w2 ⟨rfl, rfl⟩
  have r3 := (r1d.ext f2).drew
  simp -zeta only [List.getElem?_cons_zero, List.getElem?_cons_succ, LdV_some, dec_int, r3.cell]
  refine cm_four_Right (four_right _ _) ?_
  rintro _ _ ⟨rfl, rfl⟩
  simp -zeta only [true_and, List.getElem?_cons_zero, List.getElem?_cons_succ, r3.cell]
  refine cm_four_Right (four_right _ _) ?_
  rintro _ _ ⟨rfl, rfl⟩
  refine Al_e fun c w4 r4 _ _ f4 => ?_
  refine cm_v4_all (all_ok (l := [decide (rightP p.src), decide (rightP p.dst)]) r4 rfl 2 rfl (by simp)) ?_
  rintro _ w4 ⟨rfl, rfl⟩
  have r5 := r3.ext f4
  have x5 : Ext w w4 := (((f1.trans (Ext.drew _)).trans f2).trans (Ext.drew _)).trans f4
  intro J30
  have hJ : ∀ (b : Bool) (W : World), Ext w4 W → b = decide (0 ≤ p.off ∧ p.off ≤ 65528 ∧ Int.tmod p.off 8 = 0 ∧ (p.mf = true → p.data.length % 8 = 0)) → J30 b W := by
    rintro b W fW rfl
    have rW := r5.ext fW
    simp only [J30, cond_true, List.getElem?_cons_zero, List.getElem?_cons_succ, LdV_some, dec_slice, rW.cell]
    refine ⟨by omega, Al_e fun e w6 r6 _ _ f6 => ?_⟩
    refine cm_v4_all (all_ok (l := [_, _]) r6 rfl 2 rfl (by simp)) ?_
    rintro _ _ ⟨rfl, rfl⟩
    refine Al_e fun g w7 r7 _ _ f7 => ?_
    refine cm_v4_all (all_ok (l := [_, _, _, _]) r7 rfl 4 rfl (by simp)) ?_
    rintro _ _ ⟨rfl, rfl⟩
    have e1 : decide ((o.len : Int) ≤ 40) = decide (p.opts.length ≤ 40) := by rw [ho]; exact decide_eq_decide.2 (by omega)
    have e2 : (Int.tmod (o.len : Int) 4 == 0) = decide (p.opts.length % 4 = 0) := by
      rw [ho, Int.tmod_eq_emod_of_nonneg (by omega), show ((p.opts.length : Int) % 4 == 0) = decide ((p.opts.length : Int) % 4 = 0) from rfl]
      exact decide_eq_decide.2 (by omega)
    have e3 : ([[decide (fitsP p.tos 1), decide (fitsP p.ttl 1), decide (fitsP p.proto 1), decide (fitsP p.id 2)].all id, [decide (rightP p.src), decide (rightP p.dst)].all id, decide (0 ≤ p.off ∧ p.off ≤ 65528 ∧ Int.tmod p.off 8 = 0 ∧ (p.mf = true → p.data.length % 8 = 0)),
        [decide ((o.len : Int) ≤ 40), (Int.tmod (o.len : Int) 4 == 0)].all id].all id) = decide p.fine := by
      rw [e1, e2]
      simp only [List.all_cons, List.all_nil, id, Bool.and_true]
      rw [← Bool.decide_and, ← Bool.decide_and, ← Bool.decide_and, ← Bool.decide_and, ← Bool.decide_and, ← Bool.decide_and, ← Bool.decide_and, ← Bool.decide_and]
      rfl
    rw [e3]
    have x7 := (x5.trans fW).trans (f6.trans f7)
    by_cases hf : p.fine
    · simp only [hf, decide_true, Bool.not_true, cond_false]
      have r8 := rW.ext (f6.trans f7)
      simp -zeta only [List.getElem?_cons_zero, List.getElem?_cons_succ, LdV_some, dec_slice, dec_int, dec_bool, r8.cell]
      refine cm_v4_Size (v4_size _ _ _ _ _ _ _ _ _ _ _ (show o.len ≤ 2 ^ 60 by omega) (show d.len ≤ 2 ^ 60 by omega) _) ?_
      rintro _ w8 ⟨rfl, f8⟩
      have r9 := r8.ext f8
      simp -zeta only [List.getElem?_cons_zero, List.getElem?_cons_succ, LdV_some, dec_slice, dec_int, r9.cell]
      rw [wrap_i64 (by omega) (by omega)]
      by_cases hs : 20 + p.opts.length + p.data.length ≤ 65535
      · have : ¬ (20 + (o.len : Int) + (d.len : Int) > 65535) := by omega
        simp only [this, decide_false, cond_false]
        by_cases hs2 : p.off ≤ 65535 - (p.data.length : Int)
        · have : ¬ (p.off > 65535 - (d.len : Int)) := by omega
          simp only [this, decide_false, cond_false]
          exact ⟨by simp [Pkt.check, hf, Pkt.short, hs, hs2], x7.trans f8⟩
        · have : (p.off > 65535 - (d.len : Int)) := by omega
          simp only [this, decide_true, cond_true]
          exact ⟨by simp [Pkt.check, hf, Pkt.short, hs2], x7.trans f8⟩
      · have : (20 + (o.len : Int) + (d.len : Int) > 65535) := by omega
        simp only [this, decide_true, cond_true]
        exact ⟨by simp [Pkt.check, hf, Pkt.short, hs], x7.trans f8⟩
    · simp only [hf, decide_false, Bool.not_false, cond_true]
      exact ⟨by simp [Pkt.check, hf], x7⟩
  simp -zeta only [List.getElem?_cons_zero, List.getElem?_cons_succ, LdV_some, dec_slice, dec_int, dec_bool, r5.cell]
  refine ⟨by omega, ?_⟩
  cases hm : p.mf with
  | false =>
    simp only [Bool.not_false, cond_true]
    refine Al_e fun e w6 r6 _ _ f6 => ?_
    refine cm_v4_all (all_ok (l := [_, _, _, _]) r6 rfl 4 rfl (by simp)) ?_
    rintro _ _ ⟨rfl, rfl⟩
    refine hJ _ _ f6 ?_
    simp only [List.all_cons, List.all_nil, id, Bool.and_true, hm]
    rw [show (Int.tmod p.off 8 == 0) = decide (Int.tmod p.off 8 = 0) from rfl]
    simp [ge_iff_le]
  | true =>
    simp only [Bool.not_true, cond_false]
    refine ⟨by omega, Al_e fun e w6 r6 _ _ f6 => ?_⟩
    refine cm_v4_all (all_ok (l := [_, _, _, _]) r6 rfl 4 rfl (by simp)) ?_
    rintro _ _ ⟨rfl, rfl⟩
    refine hJ _ _ f6 ?_
    have e2 : (Int.tmod (d.len : Int) 8 == 0) = decide (p.data.length % 8 = 0) := by
      rw [hd, Int.tmod_eq_emod_of_nonneg (by omega), show ((p.data.length : Int) % 8 == 0) = decide ((p.data.length : Int) % 8 = 0) from rfl]
      exact decide_eq_decide.2 (by omega)
    simp only [List.all_cons, List.all_nil, id, Bool.and_true, hm, e2]
    rw [show (Int.tmod p.off 8 == 0) = decide (Int.tmod p.off 8 = 0) from rfl]
    simp [ge_iff_le]

def flagsI (p : Pkt) : Int :=
  let a := IntKind.i64.wrap (Int.tdiv p.off 8)
  let b := bif p.df then orI .i64 a 16384 else a
  bif p.mf then orI .i64 b 8192 else b

theorem flags_ok {w : World} (p : Pkt) (o d : SliceV) : c_v4_flags p.tos p.id p.off p.ttl p.proto p.src p.dst p.df p.mf o d w fun r w' => r = flagsI p ∧ Ext w w' := by
  apply ok_v4_flags
  unfold s_v4_flags
  refine Al_e fun a w1 r1 _ _ f1 => ?_
  simp only [Ld_eq, List.getElem?_cons_zero, List.getElem?_cons_succ, LdV_some, dec_int, dec_bool, add_mk, Nat.zero_add, r1.cell]
  refine ⟨by omega, ?_⟩
  unfold flagsI
  cases p.df <;> cases p.mf <;> exact ⟨rfl, f1⟩

theorem flags_bits {p : Pkt} (h : p.fine) : flagsI p = (p.bits : Int) := by
  obtain ⟨_, _, ⟨h1, h2, h3, _⟩, _⟩ := h
  unfold flagsI Pkt.bits
  obtain ⟨x, hx⟩ : ∃ x : Nat, p.off = (x : Int) := ⟨p.off.toNat, by omega⟩
  rw [hx] at h1 h2 h3 ⊢
  rw [Int.tdiv_eq_ediv_of_nonneg (by omega), Int.toNat_natCast]
  have e0 : (x : Int) / 8 = ((x / 8 : Nat) : Int) := by omega
  rw [e0, wrap_i64 (by omega) (by omega)]
  have hq : x / 8 < 8192 := by omega
  generalize x / 8 = q at hq
  have e1 : orI .i64 (q : Int) 16384 = ((16384 + q : Nat) : Int) := by
    have := or_i64 (a := q) (b := 16384) (by omega) (by omega)
    rw [Nat.or_comm, show (16384 : Nat) = 1 * 2 ^ 14 by decide, or_add (by omega)] at this
    exact this
  have e2 : orI .i64 (q : Int) 8192 = ((8192 + q : Nat) : Int) := by
    have := or_i64 (a := q) (b := 8192) (by omega) (by omega)
    rw [Nat.or_comm, show (8192 : Nat) = 1 * 2 ^ 13 by decide, or_add (by omega)] at this
    exact this
  have e3 : orI .i64 ((16384 + q : Nat) : Int) 8192 = ((24576 + q : Nat) : Int) := by
    have := or_i64 (a := 16384 + q) (b := 8192) (by omega) (by omega)
    have h : (16384 + q) ||| 8192 = 24576 + q := by
      rw [show 16384 + q = 2 * 2 ^ 13 ||| q by rw [or_add (by omega)], Nat.or_assoc, Nat.or_comm q, ← Nat.or_assoc, show (2 * 2 ^ 13 ||| 8192 : Nat) = 3 * 2 ^ 13 by decide, or_add (by omega)]
    rw [h] at this
    exact this
  cases p.df <;> cases p.mf <;> simp only [cond_true, cond_false, if_true, if_false, Bool.false_eq_true]
  · omega
  · rw [e2]; omega
  · rw [e1]; omega
  · rw [e1, e3]; omega
end Go.Proofs
