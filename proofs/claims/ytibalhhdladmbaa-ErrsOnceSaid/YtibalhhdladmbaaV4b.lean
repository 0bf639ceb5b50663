import Derived.Test.YtibalhhdladmbaaV4a
/- Packets of IPv4, part two: building. -/
namespace Go.Proofs
open Gp Gp.V4
set_option maxRecDepth 100000

def fieldsL (p : Pkt) : List (Int × Int) :=
  [(orI .i64 64 (IntKind.i64.wrap (Int.tdiv (20 + (p.opts.length : Int)) 4)), 1), (p.tos, 1), (20 + (p.opts.length : Int) + (p.data.length : Int), 2), (p.id, 2), (flagsI p, 2), (p.ttl, 1), (p.proto, 1), (0, 2), (p.src, 4), (p.dst, 4)]
def fcells (f : Int × Int) : List Value := [.int .i64 f.1, .int .i64 f.2]
theorem fcells_len (f : Int × Int) : (fcells f).length = 2 := rfl

theorem fields_ok {w : World} (p : Pkt) {o d : SliceV} (ho : o.len = p.opts.length) (hd : d.len = p.data.length) (h1 : p.opts.length ≤ 2 ^ 46) (h2 : p.data.length ≤ 2 ^ 46) :
    c_v4_fields p.tos p.id p.off p.ttl p.proto p.src p.dst p.df p.mf o d w fun r w' => ∃ b, r = ⟨some ⟨b, 0, none⟩, 10, 10⟩ ∧ Row w' b ((fieldsL p).flatMap fcells) ∧ Ext w w' ∧ w.heap.size ≤ b := by
  apply ok_v4_fields
  unfold s_v4_fields
  refine Al_e fun a w1 r1 e1 _ f1 => ?_
  have r1d := r1.drew
  simp -zeta only [Ld_eq, List.getElem?_cons_zero, List.getElem?_cons_succ, LdV_some, dec_slice, dec_int, dec_bool, add_mk, Nat.zero_add, Nat.add_zero, r1d.cell]
  refine cm_v4_Head (v4_head _ _ _ _ _ _ _ _ _ _ _ (show o.len ≤ 2 ^ 60 by omega) _) ?_
  rintro _ w2 ⟨rfl, f2⟩
  have r2 := r1d.ext f2
  simp -zeta only [true_and, List.getElem?_cons_zero, List.getElem?_cons_succ, r2.cell]
  refine ⟨by omega, ?_⟩
  refine cm_v4_Size (v4_size _ _ _ _ _ _ _ _ _ _ _ (show o.len ≤ 2 ^ 60 by omega) (show d.len ≤ 2 ^ 60 by omega) _) ?_
  rintro _ w3 ⟨rfl, f3⟩
  have r3 := r2.ext f3
  simp -zeta only [true_and, List.getElem?_cons_zero, List.getElem?_cons_succ, r3.cell]
  refine cm_v4_flags (flags_ok p o d) ?_
  rintro _ w4 ⟨rfl, f4⟩
  have r4 := r3.ext f4
  simp -zeta only [true_and, List.getElem?_cons_zero, List.getElem?_cons_succ, r4.cell]
  refine Al_e fun b w5 r5 e5 _ f5 => ⟨b, rfl, ?_, ((((f1.trans (Ext.drew _)).trans f2).trans f3).trans f4).trans f5, ?_⟩
  · rw [show o.len = p.opts.length from ho, show d.len = p.data.length from hd] at r5
    exact r5
  · have h1 := f1.size
    have h2 := f2.size
    have h3 := f3.size
    have h4 := f4.size
    have : w1.drew.heap.size = w1.heap.size := rfl
    omega

theorem field_head {p : Pkt} (h : p.opts.length ≤ 40) : orI .i64 64 (IntKind.i64.wrap (Int.tdiv (20 + (p.opts.length : Int)) 4)) = ((64 + (20 + p.opts.length) / 4 : Nat) : Int) := by
  rw [Int.tdiv_eq_ediv_of_nonneg (by omega)]
  have e0 : (20 + (p.opts.length : Int)) / 4 = (((20 + p.opts.length) / 4 : Nat) : Int) := by omega
  rw [e0, wrap_i64 (by omega) (by omega)]
  have hq : (20 + p.opts.length) / 4 < 64 := by omega
  generalize (20 + p.opts.length) / 4 = q at hq
  have := or_i64 (a := 64) (b := q) (by omega) (by omega)
  rw [show (64 : Nat) = 1 * 2 ^ 6 by decide, or_add (by omega)] at this
  exact this

/-- A head's numbers, put one behind the other. -/
theorem fields_head {p : Pkt} (h : p.check = 0) : (fieldsL p).foldl (fun l f => putL l f.1 f.2) [] ++ p.opts = p.head 0 := by
  obtain ⟨hf, hs⟩ := check_zero h
  have hb := bits_lt hf
  have hbo := flags_bits hf
  obtain ⟨⟨f1, f2, f3, f4⟩, ⟨r1, r2⟩, ⟨o1, o2, o3, o4⟩, p1, p2⟩ := id hf
  obtain ⟨s1, s2⟩ := hs
  have g : ∀ (n : Int) (k : Nat) (l : List UInt8), fitsP n (k : Int) → putL l n (k : Int) = l ++ beN k n.toNat := fun n k l h => by simp [putL, h]
  have m1 : fitsP ((64 + (20 + p.opts.length) / 4 : Nat) : Int) (1 : Nat) := ⟨⟨by omega, by omega⟩, by omega, by simp; omega⟩
  have m2 : fitsP (20 + (p.opts.length : Int) + (p.data.length : Int)) (2 : Nat) := ⟨⟨by omega, by omega⟩, by omega, by simp; omega⟩
  have m3 : fitsP ((p.bits : Nat) : Int) (2 : Nat) := ⟨⟨by omega, by omega⟩, by omega, by simp; omega⟩
  have m4 : fitsP 0 (2 : Nat) := ⟨⟨by omega, by omega⟩, by omega, by simp⟩
  have m5 : fitsP p.src (4 : Nat) := ⟨⟨by omega, by omega⟩, r1.1, by have := r1.2; simp; omega⟩
  have m6 : fitsP p.dst (4 : Nat) := ⟨⟨by omega, by omega⟩, r2.1, by have := r2.2; simp; omega⟩
  unfold fieldsL
  rw [field_head p1, hbo]
  simp only [List.foldl_cons, List.foldl_nil]
  have q1 := g _ 1 [] m1
  have q2 := fun l => g p.tos 1 l f1
  have q3 := fun l => g _ 2 l m2
  have q4 := fun l => g p.id 2 l f4
  have q5 := fun l => g _ 2 l m3
  have q6 := fun l => g p.ttl 1 l f2
  have q7 := fun l => g p.proto 1 l f3
  have q8 := fun l => g _ 2 l m4
  have q9 := fun l => g _ 4 l m5
  have q10 := fun l => g _ 4 l m6
  simp only [Int.ofNat_one] at q1
  simp only [show ((1 : Nat) : Int) = 1 from rfl, show ((2 : Nat) : Int) = 2 from rfl, show ((4 : Nat) : Int) = 4 from rfl] at q2 q3 q4 q5 q6 q7 q8 q9 q10
  rw [q1, q2, q3, q4, q5, q6, q7, q8, q9, q10]
  unfold Pkt.head
  simp only [Int.toNat_natCast, List.nil_append]
  rw [show (20 + (p.opts.length : Int) + (p.data.length : Int)).toNat = 20 + p.opts.length + p.data.length by omega]
  rfl

theorem head_set (p : Pkt) (s : Nat) : (p.head 0).take 10 ++ beN 2 s ++ (p.head 0).drop 12 = p.head s := by
  rw [head_eq, head_eq]
  simp [beN]

/-- What Build answers. -/
def buildR (p : Pkt) (w w' : World) (r : SliceV) (e : Int) : Prop :=
  e = p.check ∧ (p.check ≠ 0 → r = ⟨none, 0, 0⟩) ∧ (p.check = 0 → Buf w' r (bytesV p.bytes)) ∧ Ext w w' ∧ ∀ b, SliceV.at r b → w.heap.size ≤ b

theorem build_ok {w : World} (p : Pkt) {o d : SliceV} (ho : SlB w o p.opts) (hd : SlB w d p.data) (h1 : p.opts.length ≤ 2 ^ 46) (h2 : p.data.length ≤ 2 ^ 46) :
    c_v4_Build p.tos p.id p.off p.ttl p.proto p.src p.dst p.df p.mf o d w fun r e w' => buildR p w w' r e := by
  apply ok_v4_Build
  unfold s_v4_Build
  refine Al_e fun a w1 r1 e1 z1 f1 => ?_
  simp -zeta only [Ld_eq, List.getElem?_cons_zero, List.getElem?_cons_succ, LdV_some, dec_slice, dec_int, dec_bool, add_mk, Nat.zero_add, Nat.add_zero, r1.cell]
  refine cm_v4_Check (check_ok p (o := o) (d := d) ho.1 hd.1 h1 h2) ?_
  rintro _ w2 ⟨rfl, f2⟩
  have r2 := r1.ext f2
  by_cases hc : p.check = 0
  · have hc' : (p.check != 0) = false := by rw [hc]; rfl
    simp -zeta only [cond_false, List.getElem?_cons_zero, List.getElem?_cons_succ, LdV_some, dec_slice, dec_int, dec_bool, r2.cell, hc']
    refine cm_v4_fields (fields_ok p (o := o) (d := d) ho.1 hd.1 h1 h2) ?_
    rintro _ w3 ⟨b, rfl, r3, f3, e3⟩
    have hlen : ((fieldsL p).length : Int) = 10 := rfl
    have hsm := (check_zero hc).2.1
    have x3 : Ext w w3 := (f1.trans f2).trans f3
    have put_len : ∀ l n k, (putL l n k).length ≤ l.length + 4 := fun l n k => by
      unfold putL
      split
      · rename_i h
        have := h.1.2
        simp [beN_len]; omega
      · omega
    refine LoopP_inv (fun st W => ∃ i : Nat, i ≤ 10 ∧ st.2.1 = i ∧ Buf W st.1 (bytesV (((fieldsL p).take i).foldl (fun l f => putL l f.1 f.2) [])) ∧ (((fieldsL p).take i).foldl (fun l f => putL l f.1 f.2) []).length ≤ 4 * i ∧ Ext w3 W ∧ ∀ c, SliceV.at st.1 c → w3.heap.size ≤ c)
      (fun st _ => 10 - st.2.1.toNat) ⟨0, by omega, rfl, Buf.nil, by simp, Ext.refl _, by rintro c ⟨_, h⟩; cases h⟩ ?_
    rintro ⟨s, x, ⟨⟩⟩ W ⟨i, hi, rfl, hb, hl, hx, hs⟩ next hnext
    have rb := r3.ext hx
    by_cases hlt : i < 10
    · have hlt' : ((i : Int) < ((10 : Nat) : Int)) := by omega
      simp only [hlt', decide_true, cond_true]
      have hfi : (fieldsL p)[i]? = some (fieldsL p)[i] := List.getElem?_eq_getElem hlt
      generalize (fieldsL p)[i] = f at hfi
      have c0 : W.cell? ⟨b, i * 2, none⟩ = some (.int .i64 f.1) := by
        have := flat_get fcells 2 fcells_len (fieldsL p) i 0 (by omega)
        rw [Nat.add_zero] at this
        rw [rb.cell, this, hfi]; rfl
      have c1 : W.cell? ⟨b, i * 2 + 1, none⟩ = some (.int .i64 f.2) := by
        rw [rb.cell, flat_get fcells 2 fcells_len _ _ 1 (by omega), hfi]; rfl
      simp -zeta only [LdV_some, dec_int, AtIx_some, add_mk, Nat.zero_add, Nat.add_zero, Int.toNat_natCast, c0, c1]
      refine ⟨by omega, by omega, Al_f rfl rfl fun c w4 r4 e4 z4 f4 => ?_⟩
      simp -zeta only [List.getElem?_cons_zero, List.getElem?_cons_succ, LdV_some, dec_int, add_mk, Nat.zero_add, r4.cell]
      refine cm_be_Put (put_ok (SlB.of_buf (hb.ext f4)) (by omega) f.1 f.2) ?_
      rintro s5 w5 ⟨b5, f5, n5⟩
      rw [wrap_i64 (by omega) (by omega)]
      have hsz := hx.size
      have hsz4 := f4.size
      have ef : ((fieldsL p).take (i + 1)).foldl (fun l f => putL l f.1 f.2) [] = putL (((fieldsL p).take i).foldl (fun l f => putL l f.1 f.2) []) f.1 f.2 := by
        rw [List.take_succ_eq_append_getElem hlt, List.foldl_append]
        have : (fieldsL p)[i] = f := by rw [List.getElem?_eq_getElem hlt] at hfi; simpa using hfi
        rw [this]; rfl
      refine hnext _ _ ⟨i + 1, by omega, by simp, by rw [ef]; exact b5, ?_, (hx.trans f4).trans f5, fun y hy => by have := n5 y hy; omega⟩ (by simp only; omega)
      rw [ef]
      have := put_len (((fieldsL p).take i).foldl (fun l f => putL l f.1 f.2) []) f.1 f.2
      omega
    · have hlt' : ¬ ((i : Int) < ((10 : Nat) : Int)) := by omega
      simp only [hlt', decide_false, cond_false]
      have : i = 10 := by omega
      subst this
      rw [show (fieldsL p).take 10 = fieldsL p from rfl] at hb hl
      have rW := r2.ext (f3.trans hx)
      simp -zeta only [List.getElem?_cons_zero, List.getElem?_cons_succ, LdV_some, dec_slice, rW.cell]
      have hsz := hx.size
      have hsz3 := x3.size
      refine AppSl_bytes hb (ho.ext (x3.trans hx)) (by omega) fun s6 w6 b6 f6 n6 _ => ?_
      rw [fields_head hc] at b6
      have x6 : Ext w3 w6 := hx.new f6 fun y hy h => by have := hs y h; omega
      have l6 : (p.head 0).length = 20 + p.opts.length := head_len p 0
      refine Al_e fun c w7 r7 e7 z7 f7 => ?_
      refine cm_sum_Of (of_ok (parts_one r7 (SlB.of_buf (b6.ext f7))) (by simp) (by intro q hq; simp only [List.mem_singleton] at hq; subst hq; simp only; omega)) ?_
      rintro _ w8 ⟨rfl, f8⟩
      rw [totP_one]
      have e8 : 65535 - fold (tot (p.head 0)) = p.sum := rfl
      rw [e8]
      have hsl : p.sum < 65536 := by unfold Pkt.sum; omega
      refine cm_be_Set (set_ok (SlB.of_buf ((b6.ext f7).ext f8)) (by omega) 10 (p.sum : Int) 2) ?_
      rintro s9 e9 w9 ⟨hr9, f9, n9⟩
      obtain ⟨rfl, b9⟩ := setR_in ⟨⟨by omega, by omega⟩, by omega, by simp; omega⟩ (by omega) (by omega) hr9
      rw [show (10 : Int).toNat = 10 from rfl, show (2 : Int).toNat = 2 from rfl, Int.toNat_natCast, show (10 + 2 : Nat) = 12 from rfl, head_set] at b9
      have x9 : Ext w3 w9 := ((x6.trans f7).trans f8).trans f9
      have r9 := r2.ext (f3.trans x9)
      simp only [List.getElem?_cons_zero, List.getElem?_cons_succ, LdV_some, dec_slice, r9.cell]
      have l9 : (p.head p.sum).length = 20 + p.opts.length := head_len p _
      refine AppSl_bytes b9 (hd.ext (x3.trans x9)) (by omega) fun s10 w10 b10 f10 n10 _ => ?_
      have z6 := x6.size
      have z9' := ((x6.trans f7).trans f8).size
      have z9 := x9.size
      refine ⟨hc.symm, fun h => absurd hc h, fun _ => b10, x3.trans (x9.new f10 fun y hy h => by have := n9 y h; omega), fun y hy => ?_⟩
      rcases n10 y hy with h | h
      · have := n9 y h; omega
      · omega
  · have hc' : (p.check != 0) = true := by simpa using hc
    simp -zeta only [cond_true, hc']
    exact ⟨rfl, fun _ => rfl, fun h => absurd h hc, f1.trans f2, by rintro b ⟨o, h⟩; cases h⟩
end Go.Proofs
