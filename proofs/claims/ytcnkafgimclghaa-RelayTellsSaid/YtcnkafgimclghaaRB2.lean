import Derived.Test.YtcnkafgimclghaaRB1
import Derived.Test.YtcnkafgimclghaaErrPure
/- Packets of version four. -/
namespace Go.Proofs
open Gp Gp.V4
set_option maxRecDepth 100000



theorem v4_head (a0 a1 a2 a3 a4 a5 a6 : Int) (a7 a8 : Bool) (a9 a10 : SliceV) (h : a9.len ≤ 2 ^ 60) (w : World) : c_v4_Head a0 a1 a2 a3 a4 a5 a6 a7 a8 a9 a10 w fun r w' => r = 20 + (a9.len : Int) ∧ Ext w w' := by
  apply ok_v4_Head
  unfold s_v4_Head
  refine Al_e fun a w1 r1 _ _ f1 => ?_
  simp only [Ld_eq, List.getElem?_cons_zero, List.getElem?_cons_succ, LdV_some, dec_slice, add_mk, Nat.zero_add, r1.cell]
  exact ⟨by rw [wrap_i64 (by omega) (by omega)], f1⟩

theorem v4_size (a0 a1 a2 a3 a4 a5 a6 : Int) (a7 a8 : Bool) (a9 a10 : SliceV) (h : a9.len ≤ 2 ^ 60) (h' : a10.len ≤ 2 ^ 60) (w : World) : c_v4_Size a0 a1 a2 a3 a4 a5 a6 a7 a8 a9 a10 w fun r w' => r = 20 + (a9.len : Int) + (a10.len : Int) ∧ Ext w w' := by
  apply ok_v4_Size
  unfold s_v4_Size
  refine Al_e fun a w1 r1 _ _ f1 => ?_
  simp only [Ld_eq, List.getElem?_cons_zero, List.getElem?_cons_succ, LdV_some, dec_slice, dec_int, dec_bool, add_mk, Nat.zero_add, Nat.add_zero, r1.drew.cell]
  refine cm_v4_Head (v4_head _ _ _ _ _ _ _ _ _ _ _ h _) ?_
  rintro r w2 ⟨rfl, f2⟩
  refine ⟨by rw [(r1.drew.ext f2).cell]; rfl, ?_, (f1.trans (Ext.drew _)).trans f2⟩
  rw [wrap_i64 (by omega) (by omega)]

theorem ref05_head_ok (a0 a1 a2 a3 a4 a5 a6 : Int) (a7 a8 : Bool) (a9 a10 : SliceV) (h : a9.len ≤ 2 ^ 60) (w : World) : c_ref05_Head a0 a1 a2 a3 a4 a5 a6 a7 a8 a9 a10 w fun r w' => r = 20 + (a9.len : Int) ∧ Ext w w' := by
  apply ok_ref05_Head
  unfold s_ref05_Head
  refine Al_e fun a w1 r1 _ _ f1 => ?_
  simp only [Ld_eq, List.getElem?_cons_zero, List.getElem?_cons_succ, LdV_some, dec_slice, add_mk, Nat.zero_add, r1.cell]
  exact ⟨by rw [wrap_i64 (by omega) (by omega)], f1⟩

theorem ref05_size_ok (a0 a1 a2 a3 a4 a5 a6 : Int) (a7 a8 : Bool) (a9 a10 : SliceV) (h : a9.len ≤ 2 ^ 60) (h' : a10.len ≤ 2 ^ 60) (w : World) : c_ref05_Size a0 a1 a2 a3 a4 a5 a6 a7 a8 a9 a10 w fun r w' => r = 20 + (a9.len : Int) + (a10.len : Int) ∧ Ext w w' := by
  apply ok_ref05_Size
  unfold s_ref05_Size
  refine Al_e fun a w1 r1 _ _ f1 => ?_
  simp only [Ld_eq, List.getElem?_cons_zero, List.getElem?_cons_succ, LdV_some, dec_slice, dec_int, dec_bool, add_mk, Nat.zero_add, Nat.add_zero, r1.drew.cell]
  refine cm_ref05_Head (ref05_head_ok _ _ _ _ _ _ _ _ _ _ _ h _) ?_
  rintro r w2 ⟨rfl, f2⟩
  refine ⟨by rw [(r1.drew.ext f2).cell]; rfl, ?_, (f1.trans (Ext.drew _)).trans f2⟩
  rw [wrap_i64 (by omega) (by omega)]

theorem check_ok {w : World} (p : Pkt) {o d : SliceV} (ho : o.len = p.opts.length) (hd : d.len = p.data.length) (h1 : p.opts.length ≤ 2 ^ 46) (h2 : p.data.length ≤ 2 ^ 46) :
    c_v4_Check p.tos p.id p.off p.ttl p.proto p.src p.dst p.df p.mf o d w fun r w' => r = p.check ∧ Ext w w' := by
  apply ok_v4_Check
  unfold s_v4_Check
  refine Al_e fun a w1 r1 _ _ f1 => ?_
  have r1d := r1.drew
  simp -zeta only [Ld_eq, List.getElem?_cons_zero, List.getElem?_cons_succ, LdV_some, dec_int, add_mk, Nat.zero_add, Nat.add_zero, r1d.cell]
  refine cm_be_Fits (fits_ok _ _ _) ?_
  rintro _ _ ⟨rfl, rfl⟩
  simp -zeta only [true_and, List.getElem?_cons_zero, List.getElem?_cons_succ, r1d.cell]
  refine cm_be_Fits (fits_ok _ _ _) ?_
  rintro _ _ ⟨rfl, rfl⟩
  simp -zeta only [true_and, List.getElem?_cons_zero, List.getElem?_cons_succ, r1d.cell]
  refine cm_be_Fits (fits_ok _ _ _) ?_
  rintro _ _ ⟨rfl, rfl⟩
  simp -zeta only [true_and, List.getElem?_cons_zero, List.getElem?_cons_succ, r1d.cell]
  refine cm_be_Fits (fits_ok _ _ _) ?_
  rintro _ _ ⟨rfl, rfl⟩
  refine Al_e fun b w2 r2 _ _ f2 => ?_
  refine cm_v4_all (all_ok (l := [decide (fitsP p.tos 1), decide (fitsP p.ttl 1), decide (fitsP p.proto 1), decide (fitsP p.id 2)]) r2 rfl 4 rfl (by simp)) ?_
  rintro _ w2 ⟨rfl, rfl⟩
  have r3 := (r1d.ext f2).drew
  simp -zeta only [List.getElem?_cons_zero, List.getElem?_cons_succ, LdV_some, dec_int, r3.cell]
  refine cm_four_Right (four_right _ _) ?_
  rintro _ _ ⟨rfl, rfl⟩
  simp -zeta only [true_and, List.getElem?_cons_zero, List.getElem?_cons_succ, r3.cell]
  refine cm_four_Right (four_right _ _) ?_
  rintro _ _ ⟨rfl, rfl⟩
  refine Al_e fun c w4 r4 _ _ f4 => ?_
  refine cm_v4_all (all_ok (l := [decide (rightP p.src), decide (rightP p.dst)]) r4 rfl 2 rfl (by simp)) ?_
  rintro _ w4 ⟨rfl, rfl⟩
  have r5 := r3.ext f4
  have x5 : Ext w w4 := (((f1.trans (Ext.drew _)).trans f2).trans (Ext.drew _)).trans f4
  intro J30
  have hJ : ∀ (b : Bool) (W : World), Ext w4 W → b = decide (0 ≤ p.off ∧ p.off ≤ 65528 ∧ Int.tmod p.off 8 = 0 ∧ (p.mf = true → p.data.length % 8 = 0)) → J30 b W := by
    rintro b W fW rfl
    have rW := r5.ext fW
    simp only [J30, cond_true, List.getElem?_cons_zero, List.getElem?_cons_succ, LdV_some, dec_slice, rW.cell]
    refine ⟨by omega, Al_e fun e w6 r6 _ _ f6 => ?_⟩
    refine cm_v4_all (all_ok (l := [_, _]) r6 rfl 2 rfl (by simp)) ?_
    rintro _ _ ⟨rfl, rfl⟩
    refine Al_e fun g w7 r7 _ _ f7 => ?_
    refine cm_v4_all (all_ok (l := [_, _, _, _]) r7 rfl 4 rfl (by simp)) ?_
    rintro _ _ ⟨rfl, rfl⟩
    have e1 : decide ((o.len : Int) ≤ 40) = decide (p.opts.length ≤ 40) := by rw [ho]; exact decide_eq_decide.2 (by omega)
    have e2 : (Int.tmod (o.len : Int) 4 == 0) = decide (p.opts.length % 4 = 0) := by
      rw [ho, Int.tmod_eq_emod_of_nonneg (by omega), show ((p.opts.length : Int) % 4 == 0) = decide ((p.opts.length : Int) % 4 = 0) from rfl]
      exact decide_eq_decide.2 (by omega)
    have e3 : ([[decide (fitsP p.tos 1), decide (fitsP p.ttl 1), decide (fitsP p.proto 1), decide (fitsP p.id 2)].all id, [decide (rightP p.src), decide (rightP p.dst)].all id, decide (0 ≤ p.off ∧ p.off ≤ 65528 ∧ Int.tmod p.off 8 = 0 ∧ (p.mf = true → p.data.length % 8 = 0)),
        [decide ((o.len : Int) ≤ 40), (Int.tmod (o.len : Int) 4 == 0)].all id].all id) = decide p.fine := by
      rw [e1, e2]
      simp only [List.all_cons, List.all_nil, id, Bool.and_true]
      rw [← Bool.decide_and, ← Bool.decide_and, ← Bool.decide_and, ← Bool.decide_and, ← Bool.decide_and, ← Bool.decide_and, ← Bool.decide_and, ← Bool.decide_and]
      rfl
    rw [e3]
    have x7 := (x5.trans fW).trans (f6.trans f7)
    by_cases hf : p.fine
    · simp only [hf, decide_true, Bool.not_true, cond_false]
      have r8 := rW.ext (f6.trans f7)
      simp -zeta only [List.getElem?_cons_zero, List.getElem?_cons_succ, LdV_some, dec_slice, dec_int, dec_bool, r8.cell]
      refine cm_v4_Size (v4_size _ _ _ _ _ _ _ _ _ _ _ (show o.len ≤ 2 ^ 60 by omega) (show d.len ≤ 2 ^ 60 by omega) _) ?_
      rintro _ w8 ⟨rfl, f8⟩
      have r9 := r8.ext f8
      simp -zeta only [List.getElem?_cons_zero, List.getElem?_cons_succ, LdV_some, dec_slice, dec_int, r9.cell]
      rw [wrap_i64 (by omega) (by omega)]
      by_cases hs : 20 + p.opts.length + p.data.length ≤ 65535
      · have : ¬ (20 + (o.len : Int) + (d.len : Int) > 65535) := by omega
        simp only [this, decide_false, cond_false]
        by_cases hs2 : p.off ≤ 65535 - (p.data.length : Int)
        · have : ¬ (p.off > 65535 - (d.len : Int)) := by omega
          simp only [this, decide_false, cond_false]
          exact ⟨by simp [Pkt.check, hf, Pkt.short, hs, hs2], x7.trans f8⟩
        · have : (p.off > 65535 - (d.len : Int)) := by omega
          simp only [this, decide_true, cond_true]
          exact ⟨by simp [Pkt.check, hf, Pkt.short, hs2], x7.trans f8⟩
      · have : (20 + (o.len : Int) + (d.len : Int) > 65535) := by omega
        simp only [this, decide_true, cond_true]
        exact ⟨by simp [Pkt.check, hf, Pkt.short, hs], x7.trans f8⟩
    · simp only [hf, decide_false, Bool.not_false, cond_true]
      exact ⟨by simp [Pkt.check, hf], x7⟩
  simp -zeta only [List.getElem?_cons_zero, List.getElem?_cons_succ, LdV_some, dec_slice, dec_int, dec_bool, r5.cell]
  refine ⟨by omega, ?_⟩
  cases hm : p.mf with
  | false =>
    simp only [Bool.not_false, cond_true]
    refine Al_e fun e w6 r6 _ _ f6 => ?_
    refine cm_v4_all (all_ok (l := [_, _, _, _]) r6 rfl 4 rfl (by simp)) ?_
    rintro _ _ ⟨rfl, rfl⟩
    refine hJ _ _ f6 ?_
    simp only [List.all_cons, List.all_nil, id, Bool.and_true, hm]
    rw [show (Int.tmod p.off 8 == 0) = decide (Int.tmod p.off 8 = 0) from rfl]
    simp [ge_iff_le]
  | true =>
    simp only [Bool.not_true, cond_false]
    refine ⟨by omega, Al_e fun e w6 r6 _ _ f6 => ?_⟩
    refine cm_v4_all (all_ok (l := [_, _, _, _]) r6 rfl 4 rfl (by simp)) ?_
    rintro _ _ ⟨rfl, rfl⟩
    refine hJ _ _ f6 ?_
    have e2 : (Int.tmod (d.len : Int) 8 == 0) = decide (p.data.length % 8 = 0) := by
      rw [hd, Int.tmod_eq_emod_of_nonneg (by omega), show ((p.data.length : Int) % 8 == 0) = decide ((p.data.length : Int) % 8 = 0) from rfl]
      exact decide_eq_decide.2 (by omega)
    simp only [List.all_cons, List.all_nil, id, Bool.and_true, hm, e2]
    rw [show (Int.tmod p.off 8 == 0) = decide (Int.tmod p.off 8 = 0) from rfl]
    simp [ge_iff_le]

def flagsI (p : Pkt) : Int :=
  let a := IntKind.i64.wrap (Int.tdiv p.off 8)
  let b := bif p.df then orI .i64 a 16384 else a
  bif p.mf then orI .i64 b 8192 else b

theorem flags_bits {p : Pkt} (h : p.fine) : flagsI p = (p.bits : Int) := by
  obtain ⟨_, _, ⟨h1, h2, h3, _⟩, _⟩ := h
  unfold flagsI Pkt.bits
  obtain ⟨x, hx⟩ : ∃ x : Nat, p.off = (x : Int) := ⟨p.off.toNat, by omega⟩
  rw [hx] at h1 h2 h3 ⊢
  rw [Int.tdiv_eq_ediv_of_nonneg (by omega), Int.toNat_natCast]
  have e0 : (x : Int) / 8 = ((x / 8 : Nat) : Int) := by omega
  rw [e0, wrap_i64 (by omega) (by omega)]
  have hq : x / 8 < 8192 := by omega
  generalize x / 8 = q at hq
  have e1 : orI .i64 (q : Int) 16384 = ((16384 + q : Nat) : Int) := by
    have := or_i64 (a := q) (b := 16384) (by omega) (by omega)
    rw [Nat.or_comm, show (16384 : Nat) = 1 * 2 ^ 14 by decide, or_add (by omega)] at this
    exact this
  have e2 : orI .i64 (q : Int) 8192 = ((8192 + q : Nat) : Int) := by
    have := or_i64 (a := q) (b := 8192) (by omega) (by omega)
    rw [Nat.or_comm, show (8192 : Nat) = 1 * 2 ^ 13 by decide, or_add (by omega)] at this
    exact this
  have e3 : orI .i64 ((16384 + q : Nat) : Int) 8192 = ((24576 + q : Nat) : Int) := by
    have := or_i64 (a := 16384 + q) (b := 8192) (by omega) (by omega)
    have h : (16384 + q) ||| 8192 = 24576 + q := by
      rw [show 16384 + q = 2 * 2 ^ 13 ||| q by rw [or_add (by omega)], Nat.or_assoc, Nat.or_comm q, ← Nat.or_assoc, show (2 * 2 ^ 13 ||| 8192 : Nat) = 3 * 2 ^ 13 by decide, or_add (by omega)]
    rw [h] at this
    exact this
  cases p.df <;> cases p.mf <;> simp only [cond_true, cond_false, if_true, if_false, Bool.false_eq_true]
  · omega
  · rw [e2]; omega
  · rw [e1]; omega
  · rw [e1, e3]; omega



def fieldsL (p : Pkt) : List (Int × Int) :=
  [(orI .i64 64 (IntKind.i64.wrap (Int.tdiv (20 + (p.opts.length : Int)) 4)), 1), (p.tos, 1), (20 + (p.opts.length : Int) + (p.data.length : Int), 2), (p.id, 2), (flagsI p, 2), (p.ttl, 1), (p.proto, 1), (0, 2), (p.src, 4), (p.dst, 4)]

def fcells (f : Int × Int) : List Value := [.int .i64 f.1, .int .i64 f.2]

theorem fcells_len (f : Int × Int) : (fcells f).length = 2 := rfl

theorem field_head {p : Pkt} (h : p.opts.length ≤ 40) : orI .i64 64 (IntKind.i64.wrap (Int.tdiv (20 + (p.opts.length : Int)) 4)) = ((64 + (20 + p.opts.length) / 4 : Nat) : Int) := by
  rw [Int.tdiv_eq_ediv_of_nonneg (by omega)]
  have e0 : (20 + (p.opts.length : Int)) / 4 = (((20 + p.opts.length) / 4 : Nat) : Int) := by omega
  rw [e0, wrap_i64 (by omega) (by omega)]
  have hq : (20 + p.opts.length) / 4 < 64 := by omega
  generalize (20 + p.opts.length) / 4 = q at hq
  have := or_i64 (a := 64) (b := q) (by omega) (by omega)
  rw [show (64 : Nat) = 1 * 2 ^ 6 by decide, or_add (by omega)] at this
  exact this

/-- A head's numbers, put one behind the other. -/
theorem fields_head {p : Pkt} (h : p.check = 0) : (fieldsL p).foldl (fun l f => putL l f.1 f.2) [] ++ p.opts = p.head 0 := by
  obtain ⟨hf, hs⟩ := check_zero h
  have hb := bits_lt hf
  have hbo := flags_bits hf
  obtain ⟨⟨f1, f2, f3, f4⟩, ⟨r1, r2⟩, ⟨o1, o2, o3, o4⟩, p1, p2⟩ := id hf
  obtain ⟨s1, s2⟩ := hs
  have g : ∀ (n : Int) (k : Nat) (l : List UInt8), fitsP n (k : Int) → putL l n (k : Int) = l ++ beN k n.toNat := fun n k l h => by simp [putL, h]
  have m1 : fitsP ((64 + (20 + p.opts.length) / 4 : Nat) : Int) (1 : Nat) := ⟨⟨by omega, by omega⟩, by omega, by simp; omega⟩
  have m2 : fitsP (20 + (p.opts.length : Int) + (p.data.length : Int)) (2 : Nat) := ⟨⟨by omega, by omega⟩, by omega, by simp; omega⟩
  have m3 : fitsP ((p.bits : Nat) : Int) (2 : Nat) := ⟨⟨by omega, by omega⟩, by omega, by simp; omega⟩
  have m4 : fitsP 0 (2 : Nat) := ⟨⟨by omega, by omega⟩, by omega, by simp⟩
  have m5 : fitsP p.src (4 : Nat) := ⟨⟨by omega, by omega⟩, r1.1, by have := r1.2; simp; omega⟩
  have m6 : fitsP p.dst (4 : Nat) := ⟨⟨by omega, by omega⟩, r2.1, by have := r2.2; simp; omega⟩
  unfold fieldsL
  rw [field_head p1, hbo]
  simp only [List.foldl_cons, List.foldl_nil]
  have q1 := g _ 1 [] m1
  have q2 := fun l => g p.tos 1 l f1
  have q3 := fun l => g _ 2 l m2
  have q4 := fun l => g p.id 2 l f4
  have q5 := fun l => g _ 2 l m3
  have q6 := fun l => g p.ttl 1 l f2
  have q7 := fun l => g p.proto 1 l f3
  have q8 := fun l => g _ 2 l m4
  have q9 := fun l => g _ 4 l m5
  have q10 := fun l => g _ 4 l m6
  simp only [Int.ofNat_one] at q1
  simp only [show ((1 : Nat) : Int) = 1 from rfl, show ((2 : Nat) : Int) = 2 from rfl, show ((4 : Nat) : Int) = 4 from rfl] at q2 q3 q4 q5 q6 q7 q8 q9 q10
  rw [q1, q2, q3, q4, q5, q6, q7, q8, q9, q10]
  unfold Pkt.head
  simp only [Int.toNat_natCast, List.nil_append]
  rw [show (20 + (p.opts.length : Int) + (p.data.length : Int)).toNat = 20 + p.opts.length + p.data.length by omega]
  rfl

theorem head_set (p : Pkt) (s : Nat) : (p.head 0).take 10 ++ beN 2 s ++ (p.head 0).drop 12 = p.head s := by
  rw [head_eq, head_eq]
  simp [beN]

/-- What Build answers. -/
def buildR (p : Pkt) (w w' : World) (r : SliceV) (e : Int) : Prop :=
  e = p.check ∧ (p.check ≠ 0 → r = ⟨none, 0, 0⟩) ∧ (p.check = 0 → Buf w' r (bytesV p.bytes)) ∧ Ext w w' ∧ ∀ b, SliceV.at r b → w.heap.size ≤ b



theorem num_ok {w : World} {s : SliceV} {l : List UInt8} (h : SlB w s l) (hl : l.length ≤ 2 ^ 46) {i k : Nat} (hk : 1 ≤ k ∧ k ≤ 4) (hi : i + k ≤ l.length) (x y : Int) : c_v4_reader_num s x y (i : Int) (k : Int) w fun r w' => r = (num l i k : Int) ∧ Ext w w' := by
  apply ok_v4_reader_num
  unfold s_v4_reader_num
  refine Al_e fun a w1 r1 _ _ f1 => ?_
  simp only [Ld_eq, List.getElem?_cons_zero, LdV_some, dec_slice, r1.cell]
  refine cm_be_Get (get_ok (h.ext f1) (by omega) _ _) ?_
  rintro n e _ ⟨rfl, hr⟩
  exact ⟨getR_in hk hi hr, f1⟩

theorem num_ok' {w : World} {s : SliceV} {l : List UInt8} (h : SlB w s l) (hl : l.length ≤ 2 ^ 46) {i k : Int} (hk : 1 ≤ k ∧ k ≤ 4) (hi : 0 ≤ i ∧ i + k ≤ l.length) (x y : Int) : c_v4_reader_num s x y i k w fun r w' => r = (num l i.toNat k.toNat : Int) ∧ Ext w w' := by
  obtain ⟨m, rfl⟩ : ∃ m : Nat, k = (m : Int) := ⟨k.toNat, by omega⟩
  obtain ⟨o, rfl⟩ : ∃ o : Nat, i = (o : Int) := ⟨i.toNat, by omega⟩
  exact num_ok h hl (by omega) (by omega) x y

/-- The results are this packet. -/
def PktR (w : World) (q : Pkt) (t i o l p s d : Int) (df mf : Bool) (op da : SliceV) : Prop :=
  t = q.tos ∧ i = q.id ∧ o = q.off ∧ l = q.ttl ∧ p = q.proto ∧ s = q.src ∧ d = q.dst ∧ df = q.df ∧ mf = q.mf ∧ SlB w op q.opts ∧ SlB w da q.data

/-- It lies in no block of before. -/
def NewS (w : World) (s : SliceV) : Prop := ∀ x, s.a = some x → w.heap.size ≤ x.block

theorem field_num_lt (l : List UInt8) (i : Nat) : num l i 2 < 65536 := by
  have := numBE_lt ((l.drop i).take 2)
  have h2 : (256 : Nat) ^ ((l.drop i).take 2).length ≤ 256 ^ 2 := Nat.pow_le_pow_right (by omega) (by simp; omega)
  unfold num
  omega

theorem bit_ne {n k : Nat} (hn : n < 2 ^ 63) (hk : k < 63) : (andI .i64 (n : Int) ((2 ^ k : Nat) : Int) != 0) = (n / 2 ^ k % 2 == 1) := by
  have hp : 0 < 2 ^ k := Nat.pow_pos (by omega)
  have hp2 : 2 ^ k < 2 ^ 63 := Nat.pow_lt_pow_right (by omega) hk
  rw [and_i64 hn hp2, and_bit]
  have : n / 2 ^ k % 2 = 0 ∨ n / 2 ^ k % 2 = 1 := by omega
  rcases this with h | h
  · rw [h]; simp
  · rw [h, Nat.one_mul]
    generalize 2 ^ k = q at hp
    have : ((q : Int) != 0) = true := by simp; omega
    rw [this]; rfl

set_option maxRecDepth 100000 in
theorem packet_ok {w : World} {s : SliceV} {l : List UInt8} (hs : SlB w s l) (hl : l.length ≤ 2 ^ 46) (h1 : 20 ≤ hlen l) (h2 : hlen l ≤ l.length) (h3 : hlen l ≤ num l 2 2) :
    c_v4_reader_packet s (hlen l : Int) (num l 2 2 : Int) w fun t i o l' p s' d df mf op da w' => PktR w' (field l) t i o l' p s' d df mf op da ∧ NewS w op ∧ NewS w da ∧ Ext w w' := by
  apply ok_v4_reader_packet
  unfold s_v4_reader_packet
  refine Al_e fun a w1 r1 e1 z1 f1 => Al_e fun b w2 r2 e2 z2 f2 => ?_
  have ra2 := r1.ext f2
  have hsl := hs.1
  simp -zeta only [Ld_eq, List.getElem?_cons_zero, List.getElem?_cons_succ, LdV_some, dec_slice, dec_int, add_mk, Nat.zero_add, Nat.add_zero, ra2.cell]
  have hs2 := (hs.ext f1).ext f2
  refine cm_v4_reader_num (num_ok (i := 6) (k := 2) hs2 hl (by omega) (by omega) _ _) ?_
  rintro _ w3 ⟨rfl, f3⟩
  have x3 : Ext w w3 := (f1.trans f2).trans f3
  have ra3 := ra2.ext f3
  have rb3 := r2.ext f3
  have hs3 := hs2.ext f3
  have hsz3 := f3.size
  intro J
  have hJ : ∀ c W, Row W c [.int .i64 (num l 1 1 : Int), .int .i64 (num l 4 2 : Int), .int .i64 0, .int .i64 (num l 8 1 : Int), .int .i64 (num l 9 1 : Int), .int .i64 (num l 12 4 : Int), .int .i64 (num l 16 4 : Int), .bool false, .bool false, .slice none 0 0, .slice none 0 0] → Ext w3 W → w3.heap.size ≤ c → J ⟨c, 0, none⟩ W := by
    intro c W rc hx hc
    simp only [J, add_mk, Nat.zero_add]
    have n6 := field_num_lt l 6
    refine St_row rc rfl (by simp) fun w4 r4 f4 z4 => St_row r4 rfl (by simp) fun w5 r5 f5 z5 => St_row r5 rfl (by simp) fun w6 r6 f6 z6 => ?_
    have x6 : Ext w3 w6 := hx.new (((f4 (· = c) rfl).trans (f5 (· = c) rfl) fun _ _ e => e).trans (f6 (· = c) rfl) fun _ _ e => e) fun y hy e => by omega
    have ra6 := ra3.ext x6
    have hs6 := hs3.ext x6
    have hsz6 := x6.size
    simp only [List.set_cons_zero, List.set_cons_succ] at r6
    simp only [List.getElem?_cons_zero, List.getElem?_cons_succ, LdV_some, dec_slice, dec_int, ra6.cell]
    refine SubSl_bytes hs6 (by omega) (by omega) (by omega) fun s7 hs7 _ => ?_
    refine cm_slices_Clone_byte_byte (clone_ok hs7 (by simp; omega)) ?_
    rintro o8 w8 ⟨b8, _, f8, n8⟩
    have r8 := r6.ext f8
    refine St_row r8 rfl (by simp) fun w9 r9 f9 z9 => ?_
    have f89 : Ext w6 w8 := f8
    have x9 : Ext w3 w9 := (x6.trans f8).new (f9 (· = c) rfl) fun y hy e => by omega
    have ra9 := ra3.ext x9
    have hs9 := hs3.ext x9
    have hsz8 := f8.size
    have b9 : Buf w9 o8 _ := b8.fr (f9 (· = c) rfl) fun y hy e => by
      have := n8 y hy
      have := r6.lt
      omega
    simp only [List.set_cons_zero, List.set_cons_succ] at r9
    simp only [List.getElem?_cons_zero, List.getElem?_cons_succ, LdV_some, dec_slice, dec_int, ra9.cell]
    have hmin : (if (s.len : Int) < (num l 2 2 : Int) then (s.len : Int) else (num l 2 2 : Int)) = ((min (num l 2 2) l.length : Nat) : Int) := by
      split <;> omega
    rw [hmin]
    refine SubSl_bytes hs9 (by omega) (by omega) (by omega) fun s10 hs10 _ => ?_
    refine cm_slices_Clone_byte_byte (clone_ok hs10 (by simp; omega)) ?_
    rintro d11 w11 ⟨b11, _, f11, n11⟩
    have r11 := r9.ext f11
    have hsz11 := f11.size
    have hcl := r9.lt
    refine St_row r11 rfl (by simp) fun w12 r12 f12 z12 => ?_
    have x12 : Ext w3 w12 := (x9.trans f11).new (f12 (· = c) rfl) fun y hy e => by omega
    have b12 : Buf w12 o8 _ := (b9.ext f11).fr (f12 (· = c) rfl) fun y hy e => by
      have := n8 y hy
      have := r6.lt
      omega
    have d12 : Buf w12 d11 _ := b11.fr (f12 (· = c) rfl) fun y hy e => by
      have := n11 y hy
      omega
    simp only [List.set_cons_zero, List.set_cons_succ] at r12
    simp only [List.getElem?_cons_zero, List.getElem?_cons_succ, LdV_some, dec_slice, dec_int, dec_bool, r12.cell]
    have rb12 := rb3.ext x12
    refine StN_full rb12 rfl rfl fun w13 r13 f13 z13 => ?_
    simp only [List.getElem?_cons_zero, List.getElem?_cons_succ, LdV_some, dec_slice, dec_int, dec_bool, r13.cell]
    have hb3 := rb3.lt
    have e8191 : andI .i64 (num l 6 2 : Int) 8191 = ((num l 6 2 % 8192 : Nat) : Int) := by
      have := and_i64 (a := num l 6 2) (b := 8191) (by omega) (by omega)
      rw [show (8191 : Nat) = 2 ^ 13 - 1 by decide, and_low] at this
      exact this
    have hszx := x3.size
    refine ⟨⟨rfl, rfl, ?_, rfl, rfl, rfl, rfl, ?_, ?_, ?_, ?_⟩, fun x hx => by have := n8 _ (b8.at_eq hx); omega, fun x hx => by have := n11 _ (b11.at_eq hx); omega, ?_⟩
    · rw [e8191, wrap_i64 (by omega) (by omega)]
      simp only [field]; omega
    · exact bit_ne (k := 14) (by omega) (by omega)
    · exact bit_ne (k := 13) (by omega) (by omega)
    · refine SlB.of_buf (b12.fr (f13 (· = b) rfl) fun y hy e => ?_)
      have := n8 y hy
      omega
    · have e : (l.take (min (num l 2 2) l.length)).drop (hlen l) = (field l).data := by
        simp only [field]
        congr 1
        rw [Nat.min_comm, ← List.take_take, List.take_of_length_le (by rw [List.length_take]; omega)]
      have d13 := d12.fr (f13 (· = b) rfl) fun y hy e => by
        have := n11 y hy
        omega
      rw [Int.toNat_natCast, Int.toNat_natCast, e] at d13
      exact SlB.of_buf d13
    · exact (x3.trans x12).new (f13 (· = b) rfl) fun y hy e => by have := f1.size; omega
  have ra3d := ra3.drew
  simp -zeta only [List.getElem?_cons_zero, List.getElem?_cons_succ, LdV_some, dec_slice, dec_int, ra3d.cell]
  have hx := Ext.drew w3
  have l2 : 20 ≤ l.length := by omega
  clear hsz3
  repeat' (first
    | (with_reducible refine And.intro ?_ ?_)
    | ((with_reducible refine cm_v4_reader_num (num_ok' (hs3.ext hx) hl (by omega) (by omega) _ _) ?_); rintro _ W ⟨rfl, f⟩; replace hx := hx.trans f; (try replace rc := rc.ext f); (try simp -zeta only [true_and, List.getElem?_cons_zero, List.getElem?_cons_succ, (ra3.ext hx).cell]))
    | ((with_reducible refine Al_e fun c W rc ec _ f => ?_); have hc := hx.size; rw [← ec] at hc; clear ec; replace hx := hx.trans f; (try simp -zeta only [true_and, List.getElem?_cons_zero, List.getElem?_cons_succ, (ra3.ext hx).cell]))
    | ((with_reducible refine StN_full rc rfl rfl fun W rc2 fc zc => ?_); exact hJ _ W rc2 (hx.new (fc (· = _) rfl) fun y hy e => by omega) hc))



theorem byte_at {w : World} {s : SliceV} {l : List UInt8} (h : SlB w s l) {i : Nat} (hi : i < l.length) {K : Addr → Prop} (hK : ∀ a, w.cell? (a) = some (.int .u8 (l[i].toNat : Int)) → (a.block < w.heap.size) → K a) : AtIx s 1 (i : Int) K := by
  have hsl := h.1
  obtain ⟨a, ha, hc⟩ := h.at_ (List.getElem?_eq_getElem hi)
  exact ⟨a, ha, by omega, by omega, hK _ (by rw [Int.toNat_natCast, Nat.mul_one]; exact hc) (by rw [Int.toNat_natCast, Nat.mul_one]; exact cell_lt hc)⟩

theorem low4 (x : UInt8) : IntKind.i64.wrap ((IntKind.i64.wrap (andI .u8 (x.toNat : Int) 15)) * 4) = ((x.toNat % 16 * 4 : Nat) : Int) := by
  have h := x.toNat_lt
  have := and_u8 (a := x.toNat) (b := 15) (by omega) (by omega)
  rw [show (15 : Nat) = 2 ^ 4 - 1 by decide, and_low] at this
  rw [show (((2 ^ 4 - 1 : Nat) : Nat) : Int) = 15 from rfl] at this
  rw [this, wrap_i64 (n := ((x.toNat % 2 ^ 4 : Nat) : Int)) (by omega) (by omega), wrap_i64 (by omega) (by omega)]
  omega

theorem hlen_eq {l : List UInt8} (h : 0 < l.length) : hlen l = l[0].toNat % 16 * 4 := by
  unfold hlen
  rw [List.getElem?_eq_getElem h]; rfl

theorem ver_eq {l : List UInt8} (h : 0 < l.length) : ver l = l[0].toNat / 16 := by
  unfold ver
  rw [List.getElem?_eq_getElem h]; rfl

theorem open_ok {w : World} {s : SliceV} {l : List UInt8} (hs : SlB w s l) (hl : l.length ≤ 2 ^ 46) (q : Bool) :
    c_v4_open s q w fun b h z e w' => e = openE l q ∧ Ext w w' ∧ (e = 0 → b = s ∧ h = (hlen l : Int) ∧ z = (num l 2 2 : Int)) := by
  apply ok_v4_open
  unfold s_v4_open
  have hsl := hs.1
  refine Al_e fun a w1 r1 e1 z1 f1 => ?_
  by_cases c1 : l.length < 20
  · have c1' : ((s.len : Int) < 20) := by omega
    simp only [c1', decide_true, cond_true]
    refine StN_full r1 rfl rfl fun w2 r2 f2 _ => ?_
    simp only [Ld_eq, List.getElem?_cons_zero, List.getElem?_cons_succ, LdV_some, dec_slice, dec_int, add_mk, Nat.zero_add, Nat.add_zero, r2.cell]
    exact ⟨by simp [openE, c1], f1.new (f2 (· = a) rfl) fun y hy e => by omega, fun h => by cases h⟩
  have c1' : ¬ ((s.len : Int) < 20) := by omega
  simp only [c1', decide_false, cond_false]
  have hs1 := hs.ext f1
  refine byte_at (i := 0) hs1 (by omega) fun a0 hc0 hb0 => ?_
  simp -zeta only [Ld_eq, LdV_some, dec_int, add_mk, Nat.zero_add, Nat.add_zero, hc0, low4, ← hlen_eq (show 0 < l.length by omega)]
  refine Al_f rfl rfl fun b w2 r2 e2 z2 f2 => ?_
  simp -zeta only [List.getElem?_cons_zero, List.getElem?_cons_succ, LdV_some, dec_slice, dec_int, add_mk, Nat.zero_add, Nat.add_zero, r2.cell]
  refine cm_v4_reader_num (num_ok' (hs1.ext f2) hl (by omega) (by omega) _ _) ?_
  rintro _ w3 ⟨rfl, f3⟩
  refine St_row (r2.ext f3) rfl (by simp) fun w4 r4 f4 z4 => ?_
  have hsz3 := f3.size
  have x4 : Ext w1 w4 := (f2.trans f3).new (f4 (· = b) rfl) fun y hy e => by omega
  have x5 : Ext w w4 := f1.trans x4
  have ra := r1.ext x4
  simp only [List.set_cons_zero, List.set_cons_succ, show (Int.toNat 2) = 2 from rfl] at r4
  have hs4 := hs1.ext x4
  have hlt16 : hlen l ≤ 60 := by rw [hlen_eq (show 0 < l.length by omega)]; omega
  have fin : ∀ (e : Int) W, Ext w4 W → e = openE l q → e ≠ 0 → StN [(Value.slice none 0 0), (Value.int .i64 0), (Value.int .i64 0)] W ⟨a, 0, none⟩ 0 fun w28 =>
      LdV .slice (w28.cell? ⟨a, 0, none⟩) fun y29 => LdV (.int .i64) (w28.cell? ⟨a, 1, none⟩) fun y30 => LdV (.int .i64) (w28.cell? ⟨a, 2, none⟩) fun y31 => (e = openE l q ∧ Ext w w28 ∧ (e = 0 → y29 = s ∧ y30 = (hlen l : Int) ∧ y31 = (num l 2 2 : Int))) := by
    intro e W hx he hne
    refine StN_full (ra.ext hx) rfl rfl fun w28 r28 f28 _ => ?_
    simp only [List.getElem?_cons_zero, List.getElem?_cons_succ, LdV_some, dec_slice, dec_int, r28.cell]
    exact ⟨he, (x5.trans hx).new (f28 (· = a) rfl) fun y hy e => by omega, fun h => absurd h hne⟩
  refine byte_at (i := 0) hs4 (by omega) fun a1 hc1 _ => ?_
  have ev : (shrI .u8 (l[0].toNat : Int) 4 != 4) = decide (ver l ≠ 4) := by
    rw [ver_eq (show 0 < l.length by omega)]
    have := shr_u8 (a := l[0].toNat) (k := 4) (by omega)
    rw [show ((4 : Nat) : Int) = 4 from rfl, show (2 : Nat) ^ 4 = 16 by decide] at this
    rw [this]
    generalize l[0].toNat / 16 = q
    by_cases h : q = 4
    · subst h; rfl
    · simp [h]; omega
  simp only [List.getElem?_cons_zero, List.getElem?_cons_succ, LdV_some, dec_slice, dec_int, hc1, r4.cell, ev]
  refine ⟨by omega, ?_⟩
  by_cases v : ver l ≠ 4
  · simp only [v, ne_eq, not_false_eq_true, decide_true, cond_true]
    exact fin 4 w4 (Ext.refl _) (by simp only [openE]; rw [if_neg (by omega), if_pos (.inl v)]) (by omega)
  simp only [v, decide_false, cond_false]
  by_cases h20 : hlen l < 20
  · have h20' : ((hlen l : Int) < 20) := by omega
    simp only [h20', decide_true, cond_true]
    exact fin 4 w4 (Ext.refl _) (by simp only [openE]; rw [if_neg (by omega), if_pos (.inr h20)]) (by omega)
  have h20' : ¬ ((hlen l : Int) < 20) := by omega
  have o1 : openE l q = if l.length < hlen l ∨ (l.length < num l 2 2 ∧ q = false) then 3 else if num l 2 2 < hlen l ∨ 32768 ≤ num l 6 2 then 4 else 0 := by
    simp only [openE]; rw [if_neg (by omega), if_neg (by rintro (h | h); exact v h; omega)]
  simp only [h20', decide_false, cond_false]
  by_cases c3 : l.length < hlen l
  · have c3' : ((hlen l : Int) > (s.len : Int)) := by omega
    simp only [c3', decide_true, cond_true]
    exact fin 3 w4 (Ext.refl _) (by rw [o1, if_pos (.inl c3)]) (by omega)
  have c3' : ¬ ((hlen l : Int) > (s.len : Int)) := by omega
  simp only [c3', decide_false, cond_false]
  by_cases c4 : l.length < num l 2 2 ∧ q = false
  · have c4' : ((num l 2 2 : Int) > (s.len : Int)) := by omega
    simp only [c4', decide_true, c4.2, Bool.not_false, cond_true]
    have := fin 3 w4 (Ext.refl _) (by rw [o1, if_pos (.inr c4)]) (by omega)
    rw [c4.2] at this
    exact this
  have cont : ∀ X Y : Prop, (bif decide ((num l 2 2 : Int) > (s.len : Int)) then (bif !q then X else Y) else Y) = Y := by
    intro X Y
    by_cases c4' : ((num l 2 2 : Int) > (s.len : Int))
    · cases q with
      | true => simp
      | false => exact absurd ⟨by omega, rfl⟩ c4
    · simp only [c4', decide_false, cond_false]
  rw [if_neg (by rintro (h | h); exact c3 h; exact c4 h)] at o1
  simp only [cont]
  by_cases c5 : num l 2 2 < hlen l
  · have c5' : ((num l 2 2 : Int) < (hlen l : Int)) := by omega
    simp only [c5', decide_true, cond_true]
    exact fin 4 w4 (Ext.refl _) (by rw [o1, if_pos (.inl c5)]) (by omega)
  have c5' : ¬ ((num l 2 2 : Int) < (hlen l : Int)) := by omega
  simp only [c5', decide_false, cond_false]
  refine cm_v4_reader_num (num_ok' hs4 hl (by omega) (by omega) _ _) ?_
  rintro _ w5 ⟨rfl, f5⟩
  have n6 := field_num_lt l 6
  have eb : (andI .i64 ((num l (Int.toNat 6) (Int.toNat 2) : Nat) : Int) 32768 != 0) = decide (32768 ≤ num l 6 2) := by
    have := bit_ne (n := num l 6 2) (k := 15) (by omega) (by omega)
    rw [show (((2 ^ 15 : Nat) : Nat) : Int) = 32768 from rfl] at this
    rw [show (Int.toNat 6) = 6 from rfl, show (Int.toNat 2) = 2 from rfl, this]
    by_cases h : 32768 ≤ num l 6 2
    · simp only [h, decide_true, beq_iff_eq]; omega
    · simp only [h, decide_false, beq_eq_false_iff_ne, ne_eq]; omega
  have r5 := r4.ext f5
  simp only [List.getElem?_cons_zero, List.getElem?_cons_succ, LdV_some, dec_slice, dec_int, eb, r5.cell]
  by_cases c6 : 32768 ≤ num l 6 2
  · simp only [c6, decide_true, cond_true]
    exact fin 4 w5 f5 (by rw [o1, if_pos (.inr c6)]) (by omega)
  simp only [c6, decide_false, cond_false]
  refine StN_full (ra.ext f5) rfl rfl fun w28 r28 f28 _ => ?_
  simp only [true_and, List.getElem?_cons_zero, List.getElem?_cons_succ, LdV_some, dec_slice, dec_int, r28.cell]
  exact ⟨by rw [o1, if_neg (by omega)], (x5.trans f5).new (f28 (· = a) rfl) fun y hy e => by omega, fun _ => by trivial⟩

theorem open_zero {l : List UInt8} {q : Bool} (h : openE l q = 0) : 20 ≤ hlen l ∧ hlen l ≤ l.length ∧ hlen l ≤ num l 2 2 ∧ 20 ≤ l.length := by
  unfold openE at h
  split at h
  · omega
  split at h
  · omega
  split at h
  · omega
  split at h
  · omega
  omega

theorem zero_PktR (w : World) : PktR w Pkt.zero 0 0 0 0 0 0 0 false false ⟨none, 0, 0⟩ ⟨none, 0, 0⟩ := ⟨rfl, rfl, rfl, rfl, rfl, rfl, rfl, rfl, rfl, SlB.nil, SlB.nil⟩

theorem field_opts_len {l : List UInt8} : (field l).opts.length ≤ l.length ∧ (field l).data.length ≤ l.length := by
  simp only [field, List.length_drop, List.length_take]; omega



theorem int_beq (a b : Int) : (a == b) = decide (a = b) := rfl

theorem bool_beq (a b : Bool) : (a == b) = decide (a = b) := by cases a <;> cases b <;> rfl

theorem quoted_ok {w : World} {s : SliceV} {l : List UInt8} (hs : SlB w s l) (hl : l.length ≤ 2 ^ 40) :
    c_v4_Quoted s w fun t i o l' p s' d df mf op da e w' => e = readE l true ∧ PktR w' (V4.read l true) t i o l' p s' d df mf op da ∧ Ext w w' := by
  apply ok_v4_Quoted
  unfold s_v4_Quoted
  have hsl := hs.1
  refine Al_e fun a w1 r1 e1 z1 f1 => ?_
  refine cm_v4_open (open_ok (hs.ext f1) (by omega) true) ?_
  rintro b h z e w2 ⟨rfl, f2, h2⟩
  refine Al_f rfl rfl fun c w3 r3 e3 z3 f3 => ?_
  have x3 := f2.trans f3
  have ra := r1.ext x3
  have hsz3 := x3.size
  by_cases ho : openE l true = 0
  · obtain ⟨rfl, rfl, rfl⟩ := h2 ho
    have hz := open_zero ho
    simp only [cond_false, Ld_eq, List.getElem?_cons_zero, List.getElem?_cons_succ, LdV_some, dec_slice, dec_int, add_mk, Nat.zero_add, Nat.add_zero, r3.cell, ho, show ((0 : Int) != 0) = false from rfl]
    refine cm_v4_reader_packet (packet_ok ((hs.ext f1).ext x3) (by omega) hz.1 hz.2.1 hz.2.2.1) ?_
    rintro _ _ _ _ _ _ _ _ _ op da w6 ⟨⟨rfl, rfl, rfl, rfl, rfl, rfl, rfl, rfl, rfl, hop, hda⟩, no, nd, f6⟩
    refine StN_full (ra.ext f6) rfl rfl fun w9 r9 f9 _ => ?_
    simp only [List.getElem?_cons_zero, List.getElem?_cons_succ, LdV_some, dec_slice, dec_int, dec_bool, r9.cell]
    have rd0 : readE l true = 0 := by unfold readE; rw [ho]; simp
    refine ⟨by rw [rd0], ?_, ((f1.trans x3).trans f6).new (f9 (· = a) rfl) fun y hy e => by omega⟩
    unfold V4.read
    rw [if_pos rd0]
    refine ⟨rfl, rfl, rfl, rfl, rfl, rfl, rfl, rfl, rfl, ?_, ?_⟩
    · exact SlB.fr hop (f9 (· = a) rfl) fun x hx _ e => by have := no x hx; omega
    · exact SlB.fr hda (f9 (· = a) rfl) fun x hx _ e => by have := nd x hx; omega
  · have ho' : (openE l true != 0) = true := by simpa using ho
    simp only [ho', cond_true, Ld_eq, add_mk, Nat.zero_add, Nat.add_zero]
    refine StN_full ra rfl rfl fun w9 r9 f9 _ => ?_
    simp only [List.getElem?_cons_zero, List.getElem?_cons_succ, LdV_some, dec_slice, dec_int, dec_bool, r9.cell]
    have rd0 : readE l true = openE l true := by unfold readE; rw [if_pos ho]
    refine ⟨by rw [rd0], ?_, (f1.trans x3).new (f9 (· = a) rfl) fun y hy e => by omega⟩
    unfold V4.read
    rw [rd0, if_neg ho]
    exact zero_PktR _

def bareP (p : Pkt) : Pkt := { p with opts := [], data := [] }



theorem rcheck_ok {w : World} (p : Pkt) {o d : SliceV} (ho : o.len = p.opts.length) (hd : d.len = p.data.length) (h1 : p.opts.length ≤ 2 ^ 46) (h2 : p.data.length ≤ 2 ^ 46) :
    c_ref05_Check p.tos p.id p.off p.ttl p.proto p.src p.dst p.df p.mf o d w fun r w' => r = p.check ∧ Ext w w' := by
  apply ok_ref05_Check
  unfold s_ref05_Check
  refine Al_e fun a w1 r1 _ _ f1 => ?_
  intro J4
  have hJ : ∀ b, b = decide (fitsP p.tos 1 ∧ fitsP p.ttl 1 ∧ fitsP p.proto 1 ∧ fitsP p.id 2) → J4 b w1 := by
    rintro b hb
    simp -zeta only [J4]
    intro J7
    have h7 : ∀ c, c = decide ((rightP p.src ∧ rightP p.dst) ∧ (0 ≤ p.off ∧ p.off ≤ 65528 ∧ Int.tmod p.off 8 = 0)) → J7 c w1 := by
      rintro c hc
      simp -zeta only [J7]
      intro J10
      have h10 : ∀ e, e = decide (p.opts.length ≤ 40 ∧ p.opts.length % 4 = 0) → J10 e := by
        rintro e he
        simp -zeta only [J10]
        intro J12
        have h12 : ∀ g, g = (!decide p.fine) → J12 g := by
          rintro g rfl
          simp only [J12, cond_true, Ld_eq, List.getElem?_cons_zero, List.getElem?_cons_succ, LdV_some, dec_slice, dec_int, dec_bool, add_mk, Nat.zero_add, Nat.add_zero, r1.cell]
          by_cases hf : p.fine
          · simp only [hf, decide_true, Bool.not_true, cond_false]
            refine cm_ref05_Size (ref05_size_ok _ _ _ _ _ _ _ _ _ _ _ (show o.len ≤ 2 ^ 60 by omega) (show d.len ≤ 2 ^ 60 by omega) _) ?_
            rintro _ w8 ⟨rfl, f8⟩
            have r9 := r1.ext f8
            simp only [List.getElem?_cons_zero, List.getElem?_cons_succ, LdV_some, dec_slice, dec_int, r9.cell]
            rw [wrap_i64 (by omega) (by omega)]
            by_cases hs : 20 + p.opts.length + p.data.length ≤ 65535
            · have : ¬ (20 + (o.len : Int) + (d.len : Int) > 65535) := by omega
              simp only [this, decide_false, cond_false]
              by_cases hs2 : p.off ≤ 65535 - (p.data.length : Int)
              · have : ¬ (p.off > 65535 - (d.len : Int)) := by omega
                simp only [this, decide_false, cond_false]
                exact ⟨by simp [Pkt.check, hf, Pkt.short, hs, hs2], f1.trans f8⟩
              · have : (p.off > 65535 - (d.len : Int)) := by omega
                simp only [this, decide_true, cond_true]
                exact ⟨by simp [Pkt.check, hf, Pkt.short, hs2], f1.trans f8⟩
            · have : (20 + (o.len : Int) + (d.len : Int) > 65535) := by omega
              simp only [this, decide_true, cond_true]
              exact ⟨by simp [Pkt.check, hf, Pkt.short, hs], f1.trans f8⟩
          · simp only [hf, decide_false, Bool.not_false, cond_true]
            exact ⟨by simp [Pkt.check, hf], f1⟩
        cases b with
        | false =>
          simp only [Bool.not_false, cond_true]
          exact h12 _ (by rw [decide_eq_false fun h : p.fine => (of_decide_eq_false hb.symm) h.1]; rfl)
        | true =>
        cases c with
        | false =>
          simp only [Bool.not_true, Bool.not_false, cond_false, cond_true]
          exact h12 _ (by rw [decide_eq_false fun h : p.fine => (of_decide_eq_false hc.symm) ⟨h.2.1, h.2.2.1.1, h.2.2.1.2.1, h.2.2.1.2.2.1⟩]; rfl)
        | true =>
        cases e with
        | false =>
          simp only [Bool.not_true, Bool.not_false, cond_false, cond_true]
          exact h12 _ (by rw [decide_eq_false fun h : p.fine => (of_decide_eq_false he.symm) h.2.2.2]; rfl)
        | true =>
        have hb' := of_decide_eq_true hb.symm
        have hc' := of_decide_eq_true hc.symm
        have he' := of_decide_eq_true he.symm
        simp -zeta only [Bool.not_true, cond_false, Ld_eq, List.getElem?_cons_zero, List.getElem?_cons_succ, LdV_some, dec_slice, dec_bool, add_mk, Nat.zero_add, r1.cell]
        cases hm : p.mf with
        | false =>
          simp only [cond_false]
          have hfine : p.fine := ⟨hb', hc'.1, ⟨hc'.2.1, hc'.2.2.1, hc'.2.2.2, fun h => by rw [hm] at h; cases h⟩, he'⟩
          exact h12 _ (by rw [decide_eq_true hfine]; rfl)
        | true =>
          simp only [cond_true]
          refine ⟨by omega, h12 _ ?_⟩
          rw [hd, Int.tmod_eq_emod_of_nonneg (by omega)]
          by_cases hx : p.data.length % 8 = 0
          · have hfine : p.fine := ⟨hb', hc'.1, ⟨hc'.2.1, hc'.2.2.1, hc'.2.2.2, fun _ => hx⟩, he'⟩
            rw [decide_eq_true hfine]
            simp; omega
          · have hfine : ¬ p.fine := fun h => hx (h.2.2.1.2.2.2 hm)
            rw [decide_eq_false hfine]
            simp; omega
      simp -zeta only [Ld_eq, List.getElem?_cons_zero, List.getElem?_cons_succ, LdV_some, dec_slice, add_mk, Nat.zero_add, r1.cell]
      by_cases hx : p.opts.length ≤ 40
      · have : ((o.len : Int) ≤ 40) := by omega
        simp -zeta only [this, decide_true, cond_true]
        refine ⟨by omega, h10 _ ?_⟩
        rw [ho, Int.tmod_eq_emod_of_nonneg (by omega), int_beq]
        exact decide_eq_decide.2 ⟨fun h => ⟨hx, by omega⟩, fun h => by omega⟩
      · have : ¬ ((o.len : Int) ≤ 40) := by omega
        simp -zeta only [this, decide_false, cond_false]
        exact h10 _ (decide_eq_false fun h => hx h.1).symm
    simp -zeta only [Ld_eq, List.getElem?_cons_zero, List.getElem?_cons_succ, LdV_some, dec_int, add_mk, Nat.zero_add, r1.cell]
    refine cm_ref03_Right (ref03_right _ _) ?_
    rintro _ W ⟨rfl, hW⟩; subst hW
    by_cases c1 : rightP p.src
    · simp -zeta only [c1, decide_true, cond_true, List.getElem?_cons_zero, List.getElem?_cons_succ, LdV_some, dec_int, r1.cell]
      refine cm_ref03_Right (ref03_right _ _) ?_
      rintro _ W ⟨rfl, hW⟩; subst hW
      by_cases c2 : rightP p.dst
      · simp -zeta only [c2, decide_true, cond_true, List.getElem?_cons_zero, List.getElem?_cons_succ, LdV_some, dec_int, r1.cell]
        by_cases c3 : p.off ≥ 0
        · simp -zeta only [c3, decide_true, cond_true]
          by_cases c4 : p.off ≤ 65528
          · simp -zeta only [c4, decide_true, cond_true]
            refine ⟨by omega, h7 _ ?_⟩
            rw [int_beq]
            exact decide_eq_decide.2 ⟨fun h => ⟨⟨c1, c2⟩, c3, c4, h⟩, fun h => h.2.2.2⟩
          · simp -zeta only [c4, decide_false, cond_false]
            exact h7 _ (decide_eq_false fun h => c4 h.2.2.1).symm
        · simp -zeta only [c3, decide_false, cond_false]
          exact h7 _ (decide_eq_false fun h => c3 h.2.1).symm
      · simp -zeta only [c2, decide_false, cond_false]
        exact h7 _ (decide_eq_false fun h => c2 h.1.2).symm
    · simp -zeta only [c1, decide_false, cond_false]
      exact h7 _ (decide_eq_false fun h => c1 h.1.1).symm
  simp -zeta only [Ld_eq, List.getElem?_cons_zero, LdV_some, dec_int, add_mk, Nat.zero_add, r1.cell]
  refine cm_ref01_Fits (rfits_ok _ _ _) ?_
  rintro _ W ⟨rfl, hW⟩; subst hW
  by_cases c1 : fitsP p.tos 1
  · simp -zeta only [c1, decide_true, cond_true, List.getElem?_cons_zero, List.getElem?_cons_succ, LdV_some, dec_int, r1.cell]
    refine cm_ref01_Fits (rfits_ok _ _ _) ?_
    rintro _ W ⟨rfl, hW⟩; subst hW
    by_cases c2 : fitsP p.ttl 1
    · simp -zeta only [c2, decide_true, cond_true, List.getElem?_cons_zero, List.getElem?_cons_succ, LdV_some, dec_int, r1.cell]
      refine cm_ref01_Fits (rfits_ok _ _ _) ?_
      rintro _ W ⟨rfl, hW⟩; subst hW
      by_cases c3 : fitsP p.proto 1
      · simp -zeta only [c3, decide_true, cond_true, List.getElem?_cons_zero, List.getElem?_cons_succ, LdV_some, dec_int, r1.cell]
        refine cm_ref01_Fits (rfits_ok _ _ _) ?_
        rintro _ W ⟨rfl, hW⟩; subst hW
        exact hJ _ (decide_eq_decide.2 ⟨fun h => ⟨c1, c2, c3, h⟩, fun h => h.2.2.2⟩)
      · simp -zeta only [c3, decide_false, cond_false]
        exact hJ _ (decide_eq_false fun h => c3 h.2.2.1).symm
    · simp -zeta only [c2, decide_false, cond_false]
      exact hJ _ (decide_eq_false fun h => c2 h.2.1).symm
  · simp -zeta only [c1, decide_false, cond_false]
    exact hJ _ (decide_eq_false fun h => c1 h.1).symm

theorem putL_fits {l : List UInt8} {n k : Nat} (h : fitsP (n : Int) (k : Int)) : putL l (n : Int) (k : Int) = l ++ beN k n := by simp [putL, h]

theorem beN_one (n : Nat) : beN 1 n = [UInt8.ofNat n] := by simp [beN]

theorem u8_of {n : Nat} : IntKind.u8.wrap (n : Int) = ((UInt8.ofNat n).toNat : Int) := by
  rw [IntKind.wrap_u8]; simp

theorem rhead_ok {w : World} {p : Pkt} (hc : p.check = 0) {o d : SliceV} (ho : SlB w o p.opts) (hd : d.len = p.data.length) {z s : Nat} (hz : z = 20 + p.opts.length + p.data.length) (hs : s < 65536) :
    c_ref05_head p.tos p.id p.off p.ttl p.proto p.src p.dst p.df p.mf o d (z : Int) (s : Int) w fun r w' => Buf w' r (bytesV (p.head s)) ∧ Ext w w' ∧ ∀ b, SliceV.at r b → w.heap.size ≤ b := by
  apply ok_ref05_head
  unfold s_ref05_head
  obtain ⟨hf, hsh⟩ := check_zero hc
  have hbl := bits_lt hf
  obtain ⟨⟨g1, g2, g3, g4⟩, ⟨q1, q2⟩, ⟨o1, o2, o3, o4⟩, p1, p2⟩ := id hf
  have g1' := fits1 g1
  have g2' := fits1 g2
  have g3' := fits1 g3
  have g4' := fits2 g4
  have hsh1 := hsh.1
  refine Al_e fun a w1 r1 e1 _ f1 => ?_
  simp -zeta only [Ld_eq, List.getElem?_cons_zero, List.getElem?_cons_succ, LdV_some, dec_int, dec_bool, add_mk, Nat.zero_add, Nat.add_zero, r1.cell]
  refine ⟨by omega, ?_⟩
  intro J7
  have main : ∀ j8 : Int, (bif p.mf then IntKind.i64.wrap (j8 + 8192) else j8) = (p.bits : Int) → J7 j8 := by
    intro j8 hj8
    simp -zeta only [J7]
    intro J9
    have m9 : ∀ j10, j10 = (p.bits : Int) → J9 j10 := by
      rintro _ rfl
      have r1d := r1.drew
      simp only [J9, List.getElem?_cons_zero, List.getElem?_cons_succ, LdV_some, dec_slice, dec_int, dec_bool, r1d.cell]
      refine cm_ref05_Head (ref05_head_ok _ _ _ _ _ _ _ _ _ _ _ (show o.len ≤ 2 ^ 60 by have := ho.1; omega) _) ?_
      rintro _ w2 ⟨rfl, f2⟩
      have r2 := r1d.ext f2
      simp only [true_and, List.getElem?_cons_zero, r2.cell]
      refine ⟨by omega, Al_e fun b w3 r3 e3 _ f3 => ?_⟩
      have ol := ho.1
      rw [Int.tdiv_eq_ediv_of_nonneg (by omega), wrap_i64 (n := (20 + (o.len : Int)) / 4) (by omega) (by omega), wrap_i64 (n := 64 + (20 + (o.len : Int)) / 4) (by omega) (by omega)] at r3
      have e64 : (64 + (20 + (o.len : Int)) / 4) = ((64 + (20 + p.opts.length) / 4 : Nat) : Int) := by omega
      obtain ⟨t, ht⟩ : ∃ t : Nat, p.tos = (t : Int) := ⟨p.tos.toNat, by omega⟩
      rw [e64, u8_of, ht, u8_of] at r3
      have b3 : Buf w3 ⟨some ⟨b, 0, none⟩, 2, 2⟩ (bytesV (beN 1 (64 + (20 + p.opts.length) / 4) ++ beN 1 p.tos.toNat)) := by
        rw [beN_one, beN_one, ht]
        exact SlB.row (l := [UInt8.ofNat (64 + (20 + p.opts.length) / 4), UInt8.ofNat t]) (by simpa [bytesV] using r3)
      have hdr : w1.drew.heap.size = w1.heap.size := rfl
      have s2 := f2.size
      have s1 := f1.size
      have r3a := (r2.ext f3).drew
      simp only [List.getElem?_cons_zero, List.getElem?_cons_succ, LdV_some, dec_int, r3a.cell]
      have b3d : SlB w3.drew ⟨some ⟨b, 0, none⟩, 2, 2⟩ _ := (SlB.of_buf b3).ext (Ext.drew _)
      have put : ∀ {W : World} {t : SliceV} {l : List UInt8} (n : Int) (k : Nat), SlB W t l → l.length ≤ 100 → fitsP n (k : Int) → n < 2 ^ 62 → c_ref01_Put t n (k : Int) W fun r w' => Buf w' r (bytesV (l ++ beN k n.toNat)) ∧ Ext W w' ∧ (∀ b, SliceV.at r b → W.heap.size ≤ b) := by
        intro W t l n k h1 h2 h3 h4
        refine cm_ref01_Put (rput_ok h1 (by omega) n (k : Int) h4) ?_
        rintro r w' ⟨h5, h6, h7⟩
        refine ⟨?_, h6, h7⟩
        simpa [putL, h3] using h5
      have m2 : fitsP ((z : Nat) : Int) (2 : Nat) := ⟨⟨by omega, by omega⟩, by omega, by simp; omega⟩
      have m3 : fitsP ((p.bits : Nat) : Int) (2 : Nat) := ⟨⟨by omega, by omega⟩, by omega, by simp; omega⟩
      have m4 : fitsP ((s : Nat) : Int) (2 : Nat) := ⟨⟨by omega, by omega⟩, by omega, by simp; omega⟩
      have m5 : fitsP p.src (4 : Nat) := ⟨⟨by omega, by omega⟩, q1.1, by have := q1.2; simp; omega⟩
      have m6 : fitsP p.dst (4 : Nat) := ⟨⟨by omega, by omega⟩, q2.1, by have := q2.2; simp; omega⟩
      have q1' := q1.2
      have q2' := q2.2
      refine cm_ref01_Put (put (z : Int) 2 b3d (by simp [beN_len]) m2 (by omega)) ?_
      rintro t4 w4 ⟨b4, f4, _⟩
      simp only [true_and, List.getElem?_cons_zero, List.getElem?_cons_succ, (r3a.ext f4).cell]
      refine cm_ref01_Put (put p.id 2 (SlB.of_buf b4) (by simp [beN_len]) g4 (by omega)) ?_
      rintro t5 w5 ⟨b5, f5, _⟩
      refine cm_ref01_Put (put (p.bits : Int) 2 (SlB.of_buf b5) (by simp [beN_len]) m3 (by omega)) ?_
      rintro t6 w6 ⟨b6, f6, n6⟩
      have r6 := ((r3a.ext f4).ext f5).ext f6
      simp only [List.getElem?_cons_zero, List.getElem?_cons_succ, LdV_some, dec_int, r6.cell]
      refine Al_e fun c w7 r7 e7 _ f7 => ?_
      obtain ⟨u, hu⟩ : ∃ u : Nat, p.ttl = (u : Int) := ⟨p.ttl.toNat, by omega⟩
      obtain ⟨v, hv⟩ : ∃ v : Nat, p.proto = (v : Int) := ⟨p.proto.toNat, by omega⟩
      rw [hu, hv, u8_of, u8_of] at r7
      have b7 : SlB w7 ⟨some ⟨c, 0, none⟩, 2, 2⟩ (beN 1 p.ttl.toNat ++ beN 1 p.proto.toNat) := by
        rw [beN_one, beN_one, hu, hv]
        exact SlB.of_buf (SlB.row (l := [UInt8.ofNat u, UInt8.ofNat v]) (by simpa [bytesV] using r7))
      refine AppSl_bytes (b6.ext f7) b7 (by simp [beN_len]) fun t8 w8 b8 f8 n8 _ => ?_
      have s3 := f3.size
      have s4 := f4.size
      have s5 := f5.size
      have s6 := f6.size
      have s7 := f7.size
      have hdr3 : w3.drew.heap.size = w3.heap.size := rfl
      have x3 : Ext w w3.drew := ((f1.trans (Ext.drew _)).trans f2).trans (f3.trans (Ext.drew _))
      have x7 : Ext w3.drew w7 := ((f4.trans f5).trans f6).trans f7
      have x8 : Ext w3.drew w8 := x7.new f8 fun y hy h => by have := n6 y h; omega
      refine cm_ref01_Put (put (s : Int) 2 (SlB.of_buf b8) (by simp [beN_len]) m4 (by omega)) ?_
      rintro t9 w9 ⟨b9, f9, _⟩
      have r9 := (r3a.ext (x8.trans f9)).drew
      simp only [List.getElem?_cons_zero, List.getElem?_cons_succ, LdV_some, dec_int, r9.cell]
      refine cm_ref01_Put (put p.src 4 ((SlB.of_buf b9).ext (Ext.drew _)) (by simp [beN_len]) m5 (by omega)) ?_
      rintro t10 w10 ⟨b10, f10, _⟩
      simp only [true_and, List.getElem?_cons_zero, List.getElem?_cons_succ, (r9.ext f10).cell]
      refine cm_ref01_Put (put p.dst 4 (SlB.of_buf b10) (by simp [beN_len]) m6 (by omega)) ?_
      rintro t11 w11 ⟨b11, f11, n11⟩
      have r11 := (r9.ext f10).ext f11
      simp only [List.getElem?_cons_zero, List.getElem?_cons_succ, LdV_some, dec_slice, r11.cell]
      have x11 : Ext w w11 := (x3.trans x8).trans ((f9.trans (Ext.drew _)).trans (f10.trans f11))
      refine AppSl_bytes b11 (ho.ext x11) (by simp [beN_len]; omega) fun t12 w12 b12 f12 n12 _ => ?_
      have s11 := x11.size
      have s10 : w.heap.size ≤ w10.heap.size := ((x3.trans x8).trans ((f9.trans (Ext.drew _)).trans f10)).size
      refine ⟨?_, x11.new f12 fun y hy h => by have := n11 y h; omega, fun y hy => ?_⟩
      · have : p.head s = beN 1 (64 + (20 + p.opts.length) / 4) ++ beN 1 p.tos.toNat ++ beN 2 ((z : Int)).toNat ++ beN 2 p.id.toNat ++ beN 2 ((p.bits : Int)).toNat ++ (beN 1 p.ttl.toNat ++ beN 1 p.proto.toNat) ++ beN 2 ((s : Int)).toNat ++ beN 4 p.src.toNat ++ beN 4 p.dst.toNat ++ p.opts := by
          rw [Int.toNat_natCast, Int.toNat_natCast, Int.toNat_natCast, hz]
          simp only [Pkt.head, List.append_assoc]
        rw [this]
        exact b12
      · rcases n12 y hy with h | h
        · have := n11 y h; omega
        · omega
    cases hm : p.mf with
    | false => rw [hm] at hj8; exact m9 _ hj8
    | true => rw [hm] at hj8; exact m9 _ hj8
  have e0 : Int.tdiv p.off 8 = ((p.off.toNat / 8 : Nat) : Int) := by rw [Int.tdiv_eq_ediv_of_nonneg o1]; omega
  simp -zeta only [e0]
  have hq : p.off.toNat / 8 < 8192 := by omega
  rw [wrap_i64 (n := ((p.off.toNat / 8 : Nat) : Int)) (by omega) (by omega)]
  cases hdf : p.df with
  | false =>
    refine main _ ?_
    cases hm : p.mf with
    | false => simp [Pkt.bits, hdf, hm]
    | true => simp only [cond_true]; rw [wrap_i64 (by omega) (by omega)]; simp [Pkt.bits, hdf, hm]
  | true =>
    refine main _ ?_
    rw [wrap_i64 (n := _ + 16384) (by omega) (by omega)]
    cases hm : p.mf with
    | false => simp [Pkt.bits, hdf, hm]
    | true => simp only [cond_true]; rw [wrap_i64 (by omega) (by omega)]; simp [Pkt.bits, hdf, hm]



theorem rbuild_ok {w : World} (p : Pkt) {o d : SliceV} (ho : SlB w o p.opts) (hd : SlB w d p.data) (h1 : p.opts.length ≤ 2 ^ 46) (h2 : p.data.length ≤ 2 ^ 46) :
    c_ref05_Build p.tos p.id p.off p.ttl p.proto p.src p.dst p.df p.mf o d w fun r e w' => buildR p w w' r e := by
  apply ok_ref05_Build
  unfold s_ref05_Build
  refine Al_e fun a w1 r1 e1 z1 f1 => ?_
  simp -zeta only [Ld_eq, List.getElem?_cons_zero, List.getElem?_cons_succ, LdV_some, dec_slice, dec_int, dec_bool, add_mk, Nat.zero_add, Nat.add_zero, r1.cell]
  refine cm_ref05_Check (rcheck_ok p (o := o) (d := d) ho.1 hd.1 h1 h2) ?_
  rintro _ w2 ⟨rfl, f2⟩
  have r2 := (r1.ext f2).drew
  by_cases hc : p.check = 0
  · have hc' : (p.check != 0) = false := by rw [hc]; rfl
    simp -zeta only [cond_false, List.getElem?_cons_zero, List.getElem?_cons_succ, LdV_some, dec_slice, dec_int, dec_bool, r2.cell, hc']
    have hsm := (check_zero hc).2.1
    have ol := ho.1
    have dl := hd.1
    have ez : (20 + (o.len : Int) + (d.len : Int)) = ((20 + p.opts.length + p.data.length : Nat) : Int) := by omega
    refine cm_ref05_Size (ref05_size_ok _ _ _ _ _ _ _ _ _ _ _ (show o.len ≤ 2 ^ 60 by omega) (show d.len ≤ 2 ^ 60 by omega) _) ?_
    rintro _ w3 ⟨rfl, f3⟩
    have r3 := r2.ext f3
    simp -zeta only [true_and, List.getElem?_cons_zero, List.getElem?_cons_succ, r3.cell, ez]
    have x3 : Ext w w3 := ((f1.trans f2).trans (Ext.drew _)).trans f3
    refine cm_ref05_head (rhead_ok (s := 0) hc (ho.ext x3) (d := d) hd.1 rfl (by omega)) ?_
    rintro t4 w4 ⟨b4, f4, n4⟩
    refine Al_e fun c w5 r5 e5 _ f5 => ?_
    have l6 : (p.head 0).length = 20 + p.opts.length := head_len p 0
    refine cm_ref02_Of (rof_ok (parts_one r5 (SlB.of_buf (b4.ext f5))) (by simp) (by intro q hq; simp only [List.mem_singleton] at hq; subst hq; simp only; omega)) ?_
    rintro _ w6 ⟨rfl, f6⟩
    rw [totP_one]
    have e8 : 65535 - fold (tot (p.head 0)) = p.sum := rfl
    rw [e8]
    have hsl : p.sum < 65536 := by unfold Pkt.sum; omega
    have x6 : Ext w3 w6.drew := ((f4.trans f5).trans f6).trans (Ext.drew _)
    have r6 := r3.ext x6
    simp -zeta only [List.getElem?_cons_zero, List.getElem?_cons_succ, LdV_some, dec_slice, dec_int, dec_bool, r6.cell]
    refine cm_ref05_Size (ref05_size_ok _ _ _ _ _ _ _ _ _ _ _ (show o.len ≤ 2 ^ 60 by omega) (show d.len ≤ 2 ^ 60 by omega) _) ?_
    rintro _ w7 ⟨rfl, f7⟩
    have r7 := r6.ext f7
    simp -zeta only [true_and, List.getElem?_cons_zero, List.getElem?_cons_succ, r7.cell, ez]
    have x7 := x3.trans (x6.trans f7)
    refine cm_ref05_head (rhead_ok (s := p.sum) hc (ho.ext x7) (d := d) hd.1 rfl hsl) ?_
    rintro t8 w8 ⟨b8, f8, n8⟩
    have r8 := r7.ext f8
    simp -zeta only [true_and, List.getElem?_cons_zero, List.getElem?_cons_succ, r8.cell]
    have l8 : (p.head p.sum).length = 20 + p.opts.length := head_len p _
    have x8 := x7.trans f8
    have z7 := x7.size
    have z8 := x8.size
    refine AppSl_bytes b8 (hd.ext x8) (by omega) fun s9 w9 b9 f9 n9 _ => ?_
    refine ⟨hc.symm, fun h => absurd hc h, fun _ => b9, x8.new f9 fun y hy h => by have := n8 y h; omega, fun y hy => ?_⟩
    rcases n9 y hy with h | h
    · have := n8 y h; omega
    · omega
  · have hc' : (p.check != 0) = true := by simpa using hc
    simp -zeta only [cond_true, hc']
    exact ⟨rfl, fun _ => rfl, fun h => absurd h hc, f1.trans f2, by rintro b ⟨o, h⟩; cases h⟩

theorem rnum_ok {w : World} {s : SliceV} {l : List UInt8} (h : SlB w s l) (hl : l.length ≤ 2 ^ 46) {i k : Int} (hk : 1 ≤ k ∧ k ≤ 4) (hi : 0 ≤ i ∧ i + k ≤ l.length) : c_ref05_num s i k w fun r w' => r = (num l i.toNat k.toNat : Int) ∧ Ext w w' := by
  obtain ⟨m, rfl⟩ : ∃ m : Nat, k = (m : Int) := ⟨k.toNat, by omega⟩
  obtain ⟨o, rfl⟩ : ∃ o : Nat, i = (o : Int) := ⟨i.toNat, by omega⟩
  apply ok_ref05_num
  unfold s_ref05_num
  refine cm_ref01_Get (rget_ok h (by omega) _ _) ?_
  rintro n e w' ⟨hw, hr⟩
  subst hw
  exact ⟨getR_in (by omega) (by omega) hr, Ext.refl _⟩

theorem num_one {l : List UInt8} {i : Nat} (h : i < l.length) : num l i 1 = l[i].toNat := by
  unfold num
  rw [List.drop_eq_getElem_cons h, List.take_succ_cons]
  simp [numBE]

theorem rfields_ok {w : World} {s t : SliceV} {l m : List UInt8} (hs : SlB w s l) (ht : SlB w t m) (hl : l.length ≤ 2 ^ 46) (hm : m.length ≤ 2 ^ 46) (h1 : 20 ≤ hlen l) (h2 : hlen l ≤ l.length) (hm2 : m = (l.take (num l 2 2)).drop (hlen l)) :
    c_ref05_fields s t w fun t i o l' p s' d df mf op da w' => PktR w' (field l) t i o l' p s' d df mf op da ∧ NewS w op ∧ NewS w da ∧ Ext w w' := by
  apply ok_ref05_fields
  unfold s_ref05_fields
  have hsl := hs.1
  refine Al_e fun b w1 r1 e1 z1 f1 => ?_
  refine byte_at (i := 0) (hs.ext f1) (by omega) fun a0 hc0 _ => ?_
  simp -zeta only [Ld_eq, LdV_some, dec_int, add_mk, Nat.zero_add, Nat.add_zero, hc0]
  refine ⟨by omega, ?_⟩
  refine cm_ref05_num (rnum_ok (hs.ext f1) hl (by omega) (by omega)) ?_
  rintro _ w3 ⟨rfl, f3⟩
  have x3 : Ext w w3 := f1.trans f3
  have rb3 := r1.ext f3
  have hs3 := hs.ext x3
  have hsz3 := f3.size
  have hszx := x3.size
  have n6 := field_num_lt l 6
  have hx0 := l[0].toNat_lt
  have e15 : IntKind.i64.wrap ((IntKind.i64.wrap (Int.tmod (l[0].toNat : Int) 16)) * 4) = (hlen l : Int) := by
    rw [hlen_eq (show 0 < l.length by omega), Int.tmod_eq_emod_of_nonneg (by omega), wrap_i64 (n := (l[0].toNat : Int) % 16) (by omega) (by omega), wrap_i64 (by omega) (by omega)]
    omega
  rw [show (Int.toNat 6) = 6 from rfl, show (Int.toNat 2) = 2 from rfl]
  intro J
  have hJ : ∀ c W, Row W c [.int .i64 (num l 1 1 : Int), .int .i64 (num l 4 2 : Int), .int .i64 ((num l 6 2 % 8192 * 8 : Nat) : Int), .int .i64 (num l 8 1 : Int), .int .i64 (num l 9 1 : Int), .int .i64 (num l 12 4 : Int), .int .i64 (num l 16 4 : Int), .bool false, .bool false, .slice none 0 0, .slice none 0 0] → Ext w3 W → w3.heap.size ≤ c → J ⟨c, 0, none⟩ W := by
    intro c W rc hx hc
    simp only [J, add_mk, Nat.zero_add]
    refine ⟨by omega, by omega, by omega, by omega, ?_⟩
    refine St_row rc rfl (by simp) fun w4 r4 f4 z4 => St_row r4 rfl (by simp) fun w5 r5 f5 z5 => ?_
    have x5 : Ext w3 w5 := hx.new ((f4 (· = c) rfl).trans (f5 (· = c) rfl) fun _ _ e => e) fun y hy e => by omega
    simp only [List.set_cons_zero, List.set_cons_succ] at r5
    have hs5 := hs3.ext x5
    have hsz5 := x5.size
    rw [e15]
    refine SubSl_bytes hs5 (by omega) (by omega) (by omega) fun s7 hs7 _ => ?_
    refine AppSl_bytes (l := []) Buf.nil hs7 (by simp; omega) fun o8 w8 b8 f8 n8 _ => ?_
    have y8 : Ext w5 w8 := f8.new fun y hy ⟨o, h⟩ => by cases h
    have n8' : ∀ y, SliceV.at o8 y → w5.heap.size ≤ y := fun y hy => by
      rcases n8 y hy with ⟨o, h⟩ | h
      · cases h
      · exact h
    have x8 := x5.trans y8
    refine AppSl_bytes (l := []) Buf.nil ((ht.ext x3).ext x8) (by simp; omega) fun d9 w9 b9 f9 n9 _ => ?_
    have y9 : Ext w8 w9 := f9.new fun y hy ⟨o, h⟩ => by cases h
    have n9' : ∀ y, SliceV.at d9 y → w8.heap.size ≤ y := fun y hy => by
      rcases n9 y hy with ⟨o, h⟩ | h
      · cases h
      · exact h
    have hcl := r5.lt
    have z8 := y8.size
    have z9 := y9.size
    refine St_row ((r5.ext y8).ext y9) rfl (by simp) fun w10 r10 f10 z10 => St_row r10 rfl (by simp) fun w11 r11 f11 z11 => ?_
    have f1011 : Fr8 w9 w11 (· = c) := (f10 (· = c) rfl).trans (f11 (· = c) rfl) fun _ _ e => e
    have x11 : Ext w3 w11 := (x8.trans y9).new f1011 fun y hy e => by omega
    simp only [List.set_cons_zero, List.set_cons_succ] at r11
    simp only [List.getElem?_cons_zero, List.getElem?_cons_succ, LdV_some, dec_slice, dec_int, dec_bool, r11.cell]
    have rb11 := rb3.ext x11
    have hb3 := rb3.lt
    refine StN_full rb11 rfl rfl fun w13 r13 f13 z13 => ?_
    simp only [List.getElem?_cons_zero, List.getElem?_cons_succ, LdV_some, dec_slice, dec_int, dec_bool, r13.cell]
    have bit : ∀ k : Nat, 0 < k → k ≤ 16384 → (Int.tmod (IntKind.i64.wrap (Int.tdiv (num l 6 2 : Int) (k : Int))) 2 == 1) = (num l 6 2 / k % 2 == 1) := by
      intro k hk hk2
      rw [Int.tdiv_eq_ediv_of_nonneg (by omega), ← Int.natCast_ediv]
      have := Nat.div_le_self (num l 6 2) k
      generalize num l 6 2 / k = q at this
      rw [wrap_i64 (by omega) (by omega), Int.tmod_eq_emod_of_nonneg (by omega), int_beq]
      by_cases h : q % 2 = 1
      · have : ((q : Int) % 2 = 1) := by omega
        simp [h, this]
      · have : ¬ ((q : Int) % 2 = 1) := by omega
        simp [h, this]
    refine ⟨⟨rfl, rfl, rfl, rfl, rfl, rfl, rfl, bit 16384 (by omega) (by omega), bit 8192 (by omega) (by omega), ?_, ?_⟩, fun x hx => by have := n8' _ (b8.at_eq hx); omega, fun x hx => by have := n9' _ (b9.at_eq hx); omega, ?_⟩
    · have b8' : Buf w13 o8 _ := ((b8.ext y9).fr f1011 fun y hy e => by have := n8' y hy; omega).fr (f13 (· = b) rfl) fun y hy e => by
        have := n8' y hy; omega
      rw [List.nil_append, show Int.toNat (hlen l : Int) = hlen l from rfl, show Int.toNat 20 = 20 from rfl] at b8'
      exact SlB.of_buf b8'
    · have b9' : Buf w13 d9 _ := (b9.fr f1011 fun y hy e => by have := n9' y hy; omega).fr (f13 (· = b) rfl) fun y hy e => by
        have := n9' y hy; omega
      rw [List.nil_append, hm2] at b9'
      exact SlB.of_buf b9'
    · exact (x3.trans x11).new (f13 (· = b) rfl) fun y hy e => by omega
  have hs3d := hs3.ext (Ext.drew w3)
  refine byte_at (i := 1) hs3d (by omega) fun a1 hc1 _ => ?_
  simp -zeta only [LdV_some, dec_int, hc1]
  refine ⟨by omega, byte_at (i := 8) hs3d (by omega) fun a8 hc8 _ => ?_⟩
  simp -zeta only [LdV_some, dec_int, hc8]
  refine byte_at (i := 9) hs3d (by omega) fun a9 hc9 _ => ?_
  simp -zeta only [LdV_some, dec_int, hc9]
  have hx := Ext.refl w3.drew
  have l2 : 20 ≤ l.length := by omega
  have hdr : w3.drew.heap.size = w3.heap.size := rfl
  have t1 := l[1].toNat_lt
  have t8 := l[8].toNat_lt
  have t9 := l[9].toNat_lt
  have v1 : IntKind.i64.wrap (l[1].toNat : Int) = (num l 1 1 : Int) := by rw [wrap_i64 (by omega) (by omega), num_one (by omega)]
  have v8 : IntKind.i64.wrap (l[8].toNat : Int) = (num l 8 1 : Int) := by rw [wrap_i64 (by omega) (by omega), num_one (by omega)]
  have v9 : IntKind.i64.wrap (l[9].toNat : Int) = (num l 9 1 : Int) := by rw [wrap_i64 (by omega) (by omega), num_one (by omega)]
  have v6 : IntKind.i64.wrap ((Int.tmod (num l 6 2 : Int) 8192) * 8) = ((num l 6 2 % 8192 * 8 : Nat) : Int) := by
    rw [Int.tmod_eq_emod_of_nonneg (by omega), wrap_i64 (by omega) (by omega)]; omega
  simp -zeta only [v1, v8, v9, v6]
  repeat' (first
    | (with_reducible refine And.intro ?_ ?_)
    | ((with_reducible refine cm_ref05_num (rnum_ok (hs3d.ext hx) hl (by omega) (by omega)) ?_); rintro _ W ⟨rfl, f⟩; replace hx := hx.trans f; (try replace rc := rc.ext f); (try simp -zeta only [true_and, cell_ext hc1 hx, cell_ext hc8 hx, cell_ext hc9 hx]))
    | ((with_reducible refine Al_e fun c W rc ec _ f => ?_); have hc := Nat.le_trans hx.size (Nat.le_of_eq ec.symm); clear ec; replace hx := hx.trans f; (try simp -zeta only [true_and, cell_ext hc1 hx, cell_ext hc8 hx, cell_ext hc9 hx]))
    | ((with_reducible refine StN_full rc rfl rfl fun W rc2 fc zc => ?_); exact hJ _ W rc2 ((Ext.drew w3).trans (hx.new (fc (· = _) rfl) fun y hy e => by omega)) (by omega)))

/-- What is answered with an error. -/
theorem PktR_fail {w : World} {l : List UInt8} {q : Bool} {e : Int} (h : readE l q = e) (he : e ≠ 0) : PktR w (V4.read l q) 0 0 0 0 0 0 0 false false ⟨none, 0, 0⟩ ⟨none, 0, 0⟩ := by
  unfold V4.read
  rw [h, if_neg he]
  exact zero_PktR _

theorem NewS_nil (w : World) : NewS w ⟨none, 0, 0⟩ := fun _ h => by cases h

set_option maxRecDepth 100000 in
theorem rread_ok {w : World} {s : SliceV} {l : List UInt8} (hs : SlB w s l) (hl : l.length ≤ 2 ^ 40) (q : Bool) :
    c_ref05_read s q w fun t i o l' p s' d df mf op da e w' => e = readE l q ∧ PktR w' (V4.read l q) t i o l' p s' d df mf op da ∧ NewS w op ∧ NewS w da ∧ Ext w w' := by
  apply ok_ref05_read
  unfold s_ref05_read
  have hsl := hs.1
  refine Al_e fun a w1 r1 e1 z1 f1 => ?_
  have fin : ∀ (e : Int) W, Ext w1 W → readE l q = e → e ≠ 0 → StN [(Value.int .i64 0), (Value.int .i64 0), (Value.int .i64 0), (Value.int .i64 0), (Value.int .i64 0), (Value.int .i64 0), (Value.int .i64 0), (Value.bool false), (Value.bool false), (Value.slice none 0 0), (Value.slice none 0 0)] W ⟨a, 0, none⟩ 0 fun w28 =>
      LdV (.int .i64) (w28.cell? ⟨a, 0, none⟩) fun y1 => LdV (.int .i64) (w28.cell? ⟨a, 1, none⟩) fun y2 => LdV (.int .i64) (w28.cell? ⟨a, 2, none⟩) fun y3 => LdV (.int .i64) (w28.cell? ⟨a, 3, none⟩) fun y4 => LdV (.int .i64) (w28.cell? ⟨a, 4, none⟩) fun y5 =>
      LdV (.int .i64) (w28.cell? ⟨a, 5, none⟩) fun y6 => LdV (.int .i64) (w28.cell? ⟨a, 6, none⟩) fun y7 => LdV .bool (w28.cell? ⟨a, 7, none⟩) fun y8 => LdV .bool (w28.cell? ⟨a, 8, none⟩) fun y9 => LdV .slice (w28.cell? ⟨a, 9, none⟩) fun y10 => LdV .slice (w28.cell? ⟨a, 10, none⟩) fun y11 =>
      (e = readE l q ∧ PktR w28 (V4.read l q) y1 y2 y3 y4 y5 y6 y7 y8 y9 y10 y11 ∧ NewS w y10 ∧ NewS w y11 ∧ Ext w w28) := by
    intro e W hx he hne
    refine StN_full (r1.ext hx) rfl rfl fun w28 r28 f28 _ => ?_
    simp only [List.getElem?_cons_zero, List.getElem?_cons_succ, LdV_some, dec_slice, dec_int, dec_bool, r28.cell]
    exact ⟨he.symm, PktR_fail he hne, NewS_nil w, NewS_nil w, (f1.trans hx).new (f28 (· = a) rfl) fun y hy e => by omega⟩
  have ropen : ∀ e, openE l q = e → e ≠ 0 → readE l q = e := by
    intro e h he
    unfold readE; rw [h, if_pos he]
  by_cases c1 : l.length < 20
  · have c1' : ((s.len : Int) < 20) := by omega
    simp only [c1', cond_false, cond_true, Ld_eq, add_mk, Nat.zero_add, Nat.add_zero, decide_true]
    exact fin 3 w1 (Ext.refl _) (ropen 3 (by simp [openE, c1]) (by omega)) (by omega)
  have c1' : ¬ ((s.len : Int) < 20) := by omega
  simp only [c1', decide_false, cond_false]
  have hs1 := (hs.ext f1).ext (Ext.drew w1)
  refine byte_at (i := 0) hs1 (by omega) fun a0 hc0 hb0 => ?_
  have hx0 := l[0].toNat_lt
  have e15 : IntKind.i64.wrap ((IntKind.i64.wrap (Int.tmod (l[0].toNat : Int) 16)) * 4) = (hlen l : Int) := by
    rw [hlen_eq (show 0 < l.length by omega), Int.tmod_eq_emod_of_nonneg (by omega), wrap_i64 (n := (l[0].toNat : Int) % 16) (by omega) (by omega), wrap_i64 (by omega) (by omega)]
    omega
  simp only [cond_true, Ld_eq, LdV_some, dec_int, add_mk, Nat.zero_add, Nat.add_zero, hc0, e15]
  refine ⟨by omega, ?_⟩
  refine cm_ref05_num (rnum_ok hs1 (by omega) (by omega) (by omega)) ?_
  rintro _ w2 ⟨rfl, f2⟩
  have x2 : Ext w1 w2 := (Ext.drew w1).trans f2
  simp only [true_and, cell_ext hc0 f2]
  rw [show (Int.toNat 2) = 2 from rfl]
  have hs2 := hs1.ext f2
  refine byte_at (i := 0) hs2 (by omega) fun a1 hc1 _ => ?_
  have ev : (IntKind.u8.wrap (Int.tdiv (l[0].toNat : Int) 16) != 4) = decide (ver l ≠ 4) := by
    rw [ver_eq (show 0 < l.length by omega), Int.tdiv_eq_ediv_of_nonneg (by omega), IntKind.wrap_u8]
    by_cases h : l[0].toNat / 16 = 4
    · have : ((l[0].toNat : Int) / 16 % 256) = 4 := by omega
      rw [this]; simp [h]
    · have : ¬ ((l[0].toNat : Int) / 16 % 256) = 4 := by omega
      simp [h, this]
  simp only [LdV_some, dec_int, hc1, ev]
  refine ⟨by omega, ?_⟩
  by_cases v : ver l ≠ 4
  · simp only [v, ne_eq, not_false_eq_true, decide_true, cond_true]
    exact fin 4 w2 x2 (ropen 4 (by simp only [openE]; rw [if_neg (by omega), if_pos (.inl v)]) (by omega)) (by omega)
  simp only [v, decide_false, cond_false]
  by_cases h20 : hlen l < 20
  · have h20' : ((hlen l : Int) < 20) := by omega
    simp only [h20', decide_true, cond_true]
    exact fin 4 w2 x2 (ropen 4 (by simp only [openE]; rw [if_neg (by omega), if_pos (.inr h20)]) (by omega)) (by omega)
  have h20' : ¬ ((hlen l : Int) < 20) := by omega
  have o1 : openE l q = if l.length < hlen l ∨ (l.length < num l 2 2 ∧ q = false) then 3 else if num l 2 2 < hlen l ∨ 32768 ≤ num l 6 2 then 4 else 0 := by
    simp only [openE]; rw [if_neg (by omega), if_neg (by rintro (h | h); exact v h; omega)]
  simp only [h20', decide_false, cond_false]
  by_cases c3 : l.length < hlen l
  · have c3' : ((hlen l : Int) > (s.len : Int)) := by omega
    simp only [c3', decide_true, cond_true]
    exact fin 3 w2 x2 (ropen 3 (by rw [o1, if_pos (.inl c3)]) (by omega)) (by omega)
  have c3' : ¬ ((hlen l : Int) > (s.len : Int)) := by omega
  simp only [c3', decide_false, cond_false]
  by_cases c4 : l.length < num l 2 2 ∧ q = false
  · have c4' : ((num l 2 2 : Int) > (s.len : Int)) := by omega
    simp only [c4', decide_true, c4.2, Bool.not_false, cond_true]
    have := fin 3 w2 x2 (ropen 3 (by rw [o1, if_pos (.inr c4)]) (by omega)) (by omega)
    rw [c4.2] at this
    exact this
  have cont : ∀ X Y : Prop, (bif !q then (bif decide ((num l 2 2 : Int) > (s.len : Int)) then X else Y) else Y) = Y := by
    intro X Y
    cases q with
    | true => simp
    | false =>
      have c4' : ¬ ((num l 2 2 : Int) > (s.len : Int)) := fun h => c4 ⟨by omega, rfl⟩
      simp only [c4', decide_false, Bool.not_false, cond_false, cond_true]
  rw [if_neg (by rintro (h | h); exact c3 h; exact c4 h)] at o1
  simp only [cont]
  by_cases c5 : num l 2 2 < hlen l
  · have c5' : ((num l 2 2 : Int) < (hlen l : Int)) := by omega
    simp only [c5', decide_true, cond_true]
    exact fin 4 w2 x2 (ropen 4 (by rw [o1, if_pos (.inl c5)]) (by omega)) (by omega)
  have c5' : ¬ ((num l 2 2 : Int) < (hlen l : Int)) := by omega
  simp only [c5', decide_false, cond_false]
  refine cm_ref05_num (rnum_ok hs2 (by omega) (by omega) (by omega)) ?_
  rintro _ w5 ⟨rfl, f5⟩
  rw [show (Int.toNat 6) = 6 from rfl, show (Int.toNat 2) = 2 from rfl]
  have x5 := x2.trans f5
  by_cases c6 : 32768 ≤ num l 6 2
  · have c6' : ((num l 6 2 : Int) ≥ 32768) := by omega
    simp only [c6', decide_true, cond_true]
    exact fin 4 w5 x5 (ropen 4 (by rw [o1, if_pos (.inr c6)]) (by omega)) (by omega)
  have c6' : ¬ ((num l 6 2 : Int) ≥ 32768) := by omega
  simp only [c6', decide_false, cond_false]
  have ho : openE l q = 0 := by rw [o1, if_neg (by omega)]
  have hz := open_zero ho
  have hs5 := hs2.ext f5
  have hmin : (if (s.len : Int) < (num l 2 2 : Int) then (s.len : Int) else (num l 2 2 : Int)) = ((min (num l 2 2) l.length : Nat) : Int) := by
    split <;> omega
  have hlo := field_opts_len (l := l)
  have cut : ∀ W, Ext w5 W → ∀ K : SliceV → Prop, (∀ s', SlB W s' ((l.take (num l 2 2)).drop (hlen l)) → K s') → SubSl s 1 (hlen l : Int) (if (s.len : Int) < (num l 2 2 : Int) then (s.len : Int) else (num l 2 2 : Int)) K := by
    intro W hx K hK
    rw [hmin]
    refine SubSl_bytes (hs5.ext hx) (by omega) (by omega) (by omega) fun s' hs' _ => hK s' ?_
    rw [Int.toNat_natCast, Int.toNat_natCast, Nat.min_comm, ← List.take_take, List.take_of_length_le (l := l.take (num l 2 2)) (by rw [List.length_take]; omega)] at hs'
    exact hs'
  cases q with
  | true =>
    simp only [Bool.not_true, cond_false]
    refine cut w5 (Ext.refl _) _ fun s6 hs6 => ?_
    refine cm_ref05_fields (rfields_ok hs5 hs6 (by omega) (by simp; omega) hz.1 hz.2.1 rfl) ?_
    rintro _ _ _ _ _ _ _ _ _ op da w7 ⟨⟨rfl, rfl, rfl, rfl, rfl, rfl, rfl, rfl, rfl, hop, hda⟩, no, nd, f7⟩
    refine Al_f rfl rfl fun g w8 r8 e8 z8 f8 => ?_
    simp only [List.getElem?_cons_zero, List.getElem?_cons_succ, LdV_some, dec_slice, dec_int, dec_bool, add_mk, Nat.zero_add, Nat.add_zero, r8.cell]
    have x8 : Ext w1 w8 := (x5.trans f7).trans f8
    refine StN_full (r1.ext x8) rfl rfl fun w9 r9 f9 _ => ?_
    simp only [List.getElem?_cons_zero, List.getElem?_cons_succ, LdV_some, dec_slice, dec_int, dec_bool, r9.cell]
    have rd0 : readE l true = 0 := by unfold readE; rw [ho]; simp
    have s1 := f1.size
    have s5 := x5.size
    refine ⟨by rw [rd0], ?_, fun x hx => by have := no x hx; omega, fun x hx => by have := nd x hx; omega, (f1.trans x8).new (f9 (· = a) rfl) fun y hy e => by omega⟩
    unfold V4.read
    rw [if_pos rd0]
    refine ⟨rfl, rfl, rfl, rfl, rfl, rfl, rfl, rfl, rfl, ?_, ?_⟩
    · exact SlB.fr (hop.ext f8) (f9 (· = a) rfl) fun x hx _ e => by have := no x hx; omega
    · exact SlB.fr (hda.ext f8) (f9 (· = a) rfl) fun x hx _ e => by have := nd x hx; omega
  | false =>
    simp only [Bool.not_false, cond_true]
    refine SubSl_bytes hs5 (by omega) (by omega) (by omega) fun s4 hs4 _ => ?_
    rw [show (Int.toNat 0) = 0 from rfl, List.drop_zero, Int.toNat_natCast] at hs4
    refine Al_e fun d w4 r4 e4 z4 f4 => ?_
    refine cm_ref02_Right (rright_ok (parts_one r4 (hs4.ext f4)) (by simp) (by intro q hq; simp only [List.mem_singleton] at hq; subst hq; simp only [List.length_take]; omega)) ?_
    rintro _ w6 ⟨rfl, f6⟩
    rw [totP_one]
    have x6 : Ext w5 w6 := f4.trans f6
    by_cases hr : fold (tot (l.take (hlen l))) = 65535
    · simp only [hr, decide_true, Bool.not_true, cond_false]
      refine cut w6 x6 _ fun s6 hs6 => ?_
      refine cm_ref05_fields (rfields_ok (hs5.ext x6) hs6 (by omega) (by simp; omega) hz.1 hz.2.1 rfl) ?_
      rintro _ _ _ _ _ _ _ _ _ op da w7 ⟨⟨rfl, rfl, rfl, rfl, rfl, rfl, rfl, rfl, rfl, hop, hda⟩, no, nd, f7⟩
      have hopl := hop.1
      have hdal := hda.1
      refine Al_f rfl rfl fun g w8 r8 e8 z8 f8 => ?_
      simp only [List.getElem?_cons_zero, List.getElem?_cons_succ, LdV_some, dec_slice, dec_int, dec_bool, add_mk, Nat.zero_add, Nat.add_zero, r8.cell]
      refine cm_ref05_Check (rcheck_ok (field l) (o := op) (d := da) hopl hdal (by omega) (by omega)) ?_
      rintro _ w9 ⟨rfl, f9⟩
      have r9 := r8.ext f9
      have x9 : Ext w1 w9 := (((x5.trans x6).trans f7).trans f8).trans f9
      have s1 := f1.size
      have s6 := (x5.trans x6).size
      have rd : readE l false = if (field l).check ≠ 0 then 4 else 0 := by
        unfold readE
        rw [ho, hr]; simp
      by_cases hc : (field l).check = 0
      · simp only [hc, show ((0 : Int) != 0) = false from rfl, cond_false, List.getElem?_cons_zero, List.getElem?_cons_succ, LdV_some, dec_slice, dec_int, dec_bool, r9.cell]
        refine StN_full (r1.ext x9) rfl rfl fun w10 r10 f10 _ => ?_
        simp only [List.getElem?_cons_zero, List.getElem?_cons_succ, LdV_some, dec_slice, dec_int, dec_bool, r10.cell]
        have rd0 : readE l false = 0 := by rw [rd, hc]; simp
        refine ⟨by rw [rd0], ?_, fun x hx => by have := no x hx; omega, fun x hx => by have := nd x hx; omega, (f1.trans x9).new (f10 (· = a) rfl) fun y hy e => by omega⟩
        unfold V4.read
        rw [if_pos rd0]
        refine ⟨rfl, rfl, rfl, rfl, rfl, rfl, rfl, rfl, rfl, ?_, ?_⟩
        · exact SlB.fr ((hop.ext f8).ext f9) (f10 (· = a) rfl) fun x hx _ e => by have := no x hx; omega
        · exact SlB.fr ((hda.ext f8).ext f9) (f10 (· = a) rfl) fun x hx _ e => by have := nd x hx; omega
      · have hc' : ((field l).check != 0) = true := by simpa using hc
        simp only [hc', cond_true]
        exact fin 4 w9 x9 (by rw [rd, if_pos hc]) (by omega)
    · simp only [hr, decide_false, Bool.not_false, cond_true]
      exact fin 5 w6 (x5.trans x6) (by unfold readE; rw [ho]; simp [hr]) (by omega)

theorem rquoted_ok {w : World} {s : SliceV} {l : List UInt8} (hs : SlB w s l) (hl : l.length ≤ 2 ^ 40) :
    c_ref05_Quoted s w fun t i o l' p s' d df mf op da e w' => e = readE l true ∧ PktR w' (V4.read l true) t i o l' p s' d df mf op da ∧ Ext w w' := by
  apply ok_ref05_Quoted
  unfold s_ref05_Quoted
  refine Al_e fun a w1 r1 e1 z1 f1 => ?_
  refine cm_ref05_read (rread_ok (hs.ext f1) hl true) ?_
  rintro _ _ _ _ _ _ _ _ _ op da e w2 ⟨rfl, ⟨rfl, rfl, rfl, rfl, rfl, rfl, rfl, rfl, rfl, hop, hda⟩, no, nd, f2⟩
  refine StN_full (r1.ext f2) rfl rfl fun w9 r9 f9 _ => ?_
  simp only [Ld_eq, List.getElem?_cons_zero, List.getElem?_cons_succ, LdV_some, dec_slice, dec_int, dec_bool, add_mk, Nat.zero_add, Nat.add_zero, r9.cell]
  refine ⟨by trivial, ⟨rfl, rfl, rfl, rfl, rfl, rfl, rfl, rfl, rfl, ?_, ?_⟩, (f1.trans f2).new (f9 (· = a) rfl) fun y hy e => by omega⟩
  · exact SlB.fr hop (f9 (· = a) rfl) fun x hx _ e => by have := no x hx; omega
  · exact SlB.fr hda (f9 (· = a) rfl) fun x hx _ e => by have := nd x hx; omega

theorem strEq_list (l m : List UInt8) : strEq ⟨⟨l⟩⟩ ⟨⟨m⟩⟩ = decide (l = m) := by
  unfold strEq
  rw [ByteArray.toList_eq, ByteArray.toList_eq]
  show (l == m) = decide (l = m)
  by_cases h : l = m <;> simp [h]

theorem rsame_ok {w : World} (p q : Pkt) {o d o' d' : SliceV} (ho : SlB w o p.opts) (hd : SlB w d p.data) (ho' : SlB w o' q.opts) (hd' : SlB w d' q.data) :
    c_ref05_Same p.tos p.id p.off p.ttl p.proto p.src p.dst p.df p.mf o d q.tos q.id q.off q.ttl q.proto q.src q.dst q.df q.mf o' d' w fun r w' => r = decide (p = q) ∧ Ext w w' := by
  apply ok_ref05_Same
  unfold s_ref05_Same
  refine Al_e fun a w1 r1 e1 z1 f1 => Al_e fun b w2 r2 e2 z2 f2 => ?_
  have ra := r1.ext f2
  have x2 := f1.trans f2
  by_cases c1 : p.tos = q.tos
  · simp only [cond_false, cond_true, Ld_eq, List.getElem?_cons_zero, List.getElem?_cons_succ, LdV_some, dec_slice, dec_int, dec_bool, add_mk, Nat.zero_add, ra.cell, r2.cell, int_beq, bool_beq, c1, decide_true]
    by_cases c2 : p.id = q.id
    · simp only [c2, decide_true, cond_true]
      by_cases c3 : p.off = q.off
      · simp only [c3, decide_true, cond_true]
        by_cases c4 : p.ttl = q.ttl
        · simp only [c4, decide_true, cond_true]
          by_cases c5 : p.proto = q.proto
          · simp only [c5, decide_true, cond_true]
            by_cases c6 : p.src = q.src
            · simp only [c6, decide_true, cond_true]
              by_cases c7 : p.dst = q.dst
              · simp only [c7, decide_true, cond_true]
                by_cases c8 : p.df = q.df
                · simp only [c8, decide_true, cond_true]
                  by_cases c9 : p.mf = q.mf
                  · simp only [c9, decide_true, cond_true]
                    refine bytesStr_of (ho.ext x2) (bytesStr_of (ho'.ext x2) ?_)
                    simp only [strEq_list]
                    by_cases c10 : p.opts = q.opts
                    · simp only [c10, decide_true, cond_true]
                      refine bytesStr_of (hd.ext x2) (bytesStr_of (hd'.ext x2) ?_)
                      simp only [strEq_list]
                      refine ⟨decide_eq_decide.2 ⟨fun c11 => ?_, fun h => by rw [h]⟩, x2⟩
                      cases p; cases q
                      simp only at c1 c2 c3 c4 c5 c6 c7 c8 c9 c10 c11
                      simp only [Pkt.mk.injEq]
                      exact ⟨c1, c2, c3, c4, c5, c6, c7, c8, c9, c10, c11⟩
                    · simp only [c10, decide_false, cond_false]
                      exact ⟨(decide_eq_false fun h => c10 (by rw [h])).symm, x2⟩
                  · simp only [c9, decide_false, cond_false]
                    exact ⟨(decide_eq_false fun h => c9 (by rw [h])).symm, x2⟩
                · simp only [c8, decide_false, cond_false]
                  exact ⟨(decide_eq_false fun h => c8 (by rw [h])).symm, x2⟩
              · simp only [c7, decide_false, cond_false]
                exact ⟨(decide_eq_false fun h => c7 (by rw [h])).symm, x2⟩
            · simp only [c6, decide_false, cond_false]
              exact ⟨(decide_eq_false fun h => c6 (by rw [h])).symm, x2⟩
          · simp only [c5, decide_false, cond_false]
            exact ⟨(decide_eq_false fun h => c5 (by rw [h])).symm, x2⟩
        · simp only [c4, decide_false, cond_false]
          exact ⟨(decide_eq_false fun h => c4 (by rw [h])).symm, x2⟩
      · simp only [c3, decide_false, cond_false]
        exact ⟨(decide_eq_false fun h => c3 (by rw [h])).symm, x2⟩
    · simp only [c2, decide_false, cond_false]
      exact ⟨(decide_eq_false fun h => c2 (by rw [h])).symm, x2⟩
  · simp only [cond_false, Ld_eq, List.getElem?_cons_zero, List.getElem?_cons_succ, LdV_some, dec_slice, dec_int, dec_bool, add_mk, Nat.zero_add, ra.cell, r2.cell, int_beq, c1, decide_false]
    exact ⟨(decide_eq_false fun h => c1 (by rw [h])).symm, x2⟩

end Go.Proofs
