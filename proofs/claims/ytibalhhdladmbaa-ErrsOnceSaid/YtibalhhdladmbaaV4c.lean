import Derived.Test.YtibalhhdladmbaaV4b
/- Packets of IPv4, part three: reading. -/
namespace Go.Proofs
open Gp Gp.V4
set_option maxRecDepth 100000

theorem num_ok {w : World} {s : SliceV} {l : List UInt8} (h : SlB w s l) (hl : l.length ≤ 2 ^ 46) {i k : Nat} (hk : 1 ≤ k ∧ k ≤ 4) (hi : i + k ≤ l.length) (x y : Int) : c_v4_reader_num s x y (i : Int) (k : Int) w fun r w' => r = (num l i k : Int) ∧ Ext w w' := by
  apply ok_v4_reader_num
  unfold s_v4_reader_num
  refine Al_e fun a w1 r1 _ _ f1 => ?_
  simp only [Ld_eq, List.getElem?_cons_zero, LdV_some, dec_slice, r1.cell]
  refine cm_be_Get (get_ok (h.ext f1) (by omega) _ _) ?_
  rintro n e _ ⟨rfl, hr⟩
  exact ⟨getR_in hk hi hr, f1⟩

theorem num_ok' {w : World} {s : SliceV} {l : List UInt8} (h : SlB w s l) (hl : l.length ≤ 2 ^ 46) {i k : Int} (hk : 1 ≤ k ∧ k ≤ 4) (hi : 0 ≤ i ∧ i + k ≤ l.length) (x y : Int) : c_v4_reader_num s x y i k w fun r w' => r = (num l i.toNat k.toNat : Int) ∧ Ext w w' := by
  obtain ⟨m, rfl⟩ : ∃ m : Nat, k = (m : Int) := ⟨k.toNat, by omega⟩
  obtain ⟨o, rfl⟩ : ∃ o : Nat, i = (o : Int) := ⟨i.toNat, by omega⟩
  exact num_ok h hl (by omega) (by omega) x y

/-- The results are this packet. -/
def PktR (w : World) (q : Pkt) (t i o l p s d : Int) (df mf : Bool) (op da : SliceV) : Prop :=
  t = q.tos ∧ i = q.id ∧ o = q.off ∧ l = q.ttl ∧ p = q.proto ∧ s = q.src ∧ d = q.dst ∧ df = q.df ∧ mf = q.mf ∧ SlB w op q.opts ∧ SlB w da q.data

/-- It lies in no block of before. -/
def NewS (w : World) (s : SliceV) : Prop := ∀ x, s.a = some x → w.heap.size ≤ x.block

theorem field_num_lt (l : List UInt8) (i : Nat) : num l i 2 < 65536 := by
  have := numBE_lt ((l.drop i).take 2)
  have h2 : (256 : Nat) ^ ((l.drop i).take 2).length ≤ 256 ^ 2 := Nat.pow_le_pow_right (by omega) (by simp; omega)
  unfold num
  omega

theorem bit_ne {n k : Nat} (hn : n < 2 ^ 63) (hk : k < 63) : (andI .i64 (n : Int) ((2 ^ k : Nat) : Int) != 0) = (n / 2 ^ k % 2 == 1) := by
  have hp : 0 < 2 ^ k := Nat.pow_pos (by omega)
  have hp2 : 2 ^ k < 2 ^ 63 := Nat.pow_lt_pow_right (by omega) hk
  rw [and_i64 hn hp2, and_bit]
  have : n / 2 ^ k % 2 = 0 ∨ n / 2 ^ k % 2 = 1 := by omega
  rcases this with h | h
  · rw [h]; simp
  · rw [h, Nat.one_mul]
    generalize 2 ^ k = q at hp
    have : ((q : Int) != 0) = true := by simp; omega
    rw [this]; rfl

set_option maxRecDepth 100000 in
theorem packet_ok {w : World} {s : SliceV} {l : List UInt8} (hs : SlB w s l) (hl : l.length ≤ 2 ^ 46) (h1 : 20 ≤ hlen l) (h2 : hlen l ≤ l.length) (h3 : hlen l ≤ num l 2 2) :
    c_v4_reader_packet s (hlen l : Int) (num l 2 2 : Int) w fun t i o l' p s' d df mf op da w' => PktR w' (field l) t i o l' p s' d df mf op da ∧ NewS w op ∧ NewS w da ∧ Ext w w' := by
  apply ok_v4_reader_packet
  unfold s_v4_reader_packet
  refine Al_e fun a w1 r1 e1 z1 f1 => Al_e fun b w2 r2 e2 z2 f2 => ?_
  have ra2 := r1.ext f2
  have hsl := hs.1
  simp -zeta only [Ld_eq, List.getElem?_cons_zero, List.getElem?_cons_succ, LdV_some, dec_slice, dec_int, add_mk, Nat.zero_add, Nat.add_zero, ra2.cell]
  have hs2 := (hs.ext f1).ext f2
  refine cm_v4_reader_num (num_ok (i := 6) (k := 2) hs2 hl (by omega) (by omega) _ _) ?_
  rintro _ w3 ⟨rfl, f3⟩
  have x3 : Ext w w3 := (f1.trans f2).trans f3
  have ra3 := ra2.ext f3
  have rb3 := r2.ext f3
  have hs3 := hs2.ext f3
  have hsz3 := f3.size
  intro J
  have hJ : ∀ c W, Row W c [.int .i64 (num l 1 1 : Int), .int .i64 (num l 4 2 : Int), .int .i64 0, .int .i64 (num l 8 1 : Int), .int .i64 (num l 9 1 : Int), .int .i64 (num l 12 4 : Int), .int .i64 (num l 16 4 : Int), .bool false, .bool false, .slice none 0 0, .slice none 0 0] → Ext w3 W → w3.heap.size ≤ c → J ⟨c, 0, none⟩ W := by
    intro c W rc hx hc
    simp only [J, add_mk, Nat.zero_add]
    have n6 := field_num_lt l 6
    refine St_row rc rfl (by simp) fun w4 r4 f4 z4 => St_row r4 rfl (by simp) fun w5 r5 f5 z5 => St_row r5 rfl (by simp) fun w6 r6 f6 z6 => ?_
    have x6 : Ext w3 w6 := hx.new (((f4 (· = c) rfl).trans (f5 (· = c) rfl) fun _ _ e => e).trans (f6 (· = c) rfl) fun _ _ e => e) fun y hy e => by omega
    have ra6 := ra3.ext x6
    have hs6 := hs3.ext x6
    have hsz6 := x6.size
    simp only [List.set_cons_zero, List.set_cons_succ] at r6
    simp only [List.getElem?_cons_zero, List.getElem?_cons_succ, LdV_some, dec_slice, dec_int, ra6.cell]
    refine SubSl_bytes hs6 (by omega) (by omega) (by omega) fun s7 hs7 _ => ?_
    refine cm_slices_Clone_byte_byte (clone_ok hs7 (by simp; omega)) ?_
    rintro o8 w8 ⟨b8, _, f8, n8⟩
    have r8 := r6.ext f8
    refine St_row r8 rfl (by simp) fun w9 r9 f9 z9 => ?_
    have f89 : Ext w6 w8 := f8
    have x9 : Ext w3 w9 := (x6.trans f8).new (f9 (· = c) rfl) fun y hy e => by omega
    have ra9 := ra3.ext x9
    have hs9 := hs3.ext x9
    have hsz8 := f8.size
    have b9 : Buf w9 o8 _ := b8.fr (f9 (· = c) rfl) fun y hy e => by
      have := n8 y hy
      have := r6.lt
      omega
    simp only [List.set_cons_zero, List.set_cons_succ] at r9
    simp only [List.getElem?_cons_zero, List.getElem?_cons_succ, LdV_some, dec_slice, dec_int, ra9.cell]
    have hmin : (if (s.len : Int) < (num l 2 2 : Int) then (s.len : Int) else (num l 2 2 : Int)) = ((min (num l 2 2) l.length : Nat) : Int) := by
      split <;> omega
    rw [hmin]
    refine SubSl_bytes hs9 (by omega) (by omega) (by omega) fun s10 hs10 _ => ?_
    refine cm_slices_Clone_byte_byte (clone_ok hs10 (by simp; omega)) ?_
    rintro d11 w11 ⟨b11, _, f11, n11⟩
    have r11 := r9.ext f11
    have hsz11 := f11.size
    have hcl := r9.lt
    refine St_row r11 rfl (by simp) fun w12 r12 f12 z12 => ?_
    have x12 : Ext w3 w12 := (x9.trans f11).new (f12 (· = c) rfl) fun y hy e => by omega
    have b12 : Buf w12 o8 _ := (b9.ext f11).fr (f12 (· = c) rfl) fun y hy e => by
      have := n8 y hy
      have := r6.lt
      omega
    have d12 : Buf w12 d11 _ := b11.fr (f12 (· = c) rfl) fun y hy e => by
      have := n11 y hy
      omega
    simp only [List.set_cons_zero, List.set_cons_succ] at r12
    simp only [List.getElem?_cons_zero, List.getElem?_cons_succ, LdV_some, dec_slice, dec_int, dec_bool, r12.cell]
    have rb12 := rb3.ext x12
    refine StN_full rb12 rfl rfl fun w13 r13 f13 z13 => ?_
    simp only [List.getElem?_cons_zero, List.getElem?_cons_succ, LdV_some, dec_slice, dec_int, dec_bool, r13.cell]
    have hb3 := rb3.lt
    have e8191 : andI .i64 (num l 6 2 : Int) 8191 = ((num l 6 2 % 8192 : Nat) : Int) := by
      have := and_i64 (a := num l 6 2) (b := 8191) (by omega) (by omega)
      rw [show (8191 : Nat) = 2 ^ 13 - 1 by decide, and_low] at this
      exact this
    have hszx := x3.size
    refine ⟨⟨rfl, rfl, ?_, rfl, rfl, rfl, rfl, ?_, ?_, ?_, ?_⟩, fun x hx => by have := n8 _ (b8.at_eq hx); omega, fun x hx => by have := n11 _ (b11.at_eq hx); omega, ?_⟩
    · rw [e8191, wrap_i64 (by omega) (by omega)]
      simp only [field]; omega
    · exact bit_ne (k := 14) (by omega) (by omega)
    · exact bit_ne (k := 13) (by omega) (by omega)
    · refine SlB.of_buf (b12.fr (f13 (· = b) rfl) fun y hy e => ?_)
      have := n8 y hy
      omega
    · have e : (l.take (min (num l 2 2) l.length)).drop (hlen l) = (field l).data := by
        simp only [field]
        congr 1
        rw [Nat.min_comm, ← List.take_take, List.take_of_length_le (by rw [List.length_take]; omega)]
      have d13 := d12.fr (f13 (· = b) rfl) fun y hy e => by
        have := n11 y hy
        omega
      rw [Int.toNat_natCast, Int.toNat_natCast, e] at d13
      exact SlB.of_buf d13
    · exact (x3.trans x12).new (f13 (· = b) rfl) fun y hy e => by have := f1.size; omega
  have ra3d := ra3.drew
  simp -zeta only [List.getElem?_cons_zero, List.getElem?_cons_succ, LdV_some, dec_slice, dec_int, ra3d.cell]
  have hx := Ext.drew w3
  have l2 : 20 ≤ l.length := by omega
  clear hsz3
  repeat' (first
    | (with_reducible refine And.intro ?_ ?_)
    | ((with_reducible refine cm_v4_reader_num (num_ok' (hs3.ext hx) hl (by omega) (by omega) _ _) ?_); rintro _ W ⟨rfl, f⟩; replace hx := hx.trans f; (try replace rc := rc.ext f); (try simp -zeta only [true_and, List.getElem?_cons_zero, List.getElem?_cons_succ, (ra3.ext hx).cell]))
    | ((with_reducible refine Al_e fun c W rc ec _ f => ?_); have hc := hx.size; rw [← ec] at hc; clear ec; replace hx := hx.trans f; (try simp -zeta only [true_and, List.getElem?_cons_zero, List.getElem?_cons_succ, (ra3.ext hx).cell]))
    | ((with_reducible refine StN_full rc rfl rfl fun W rc2 fc zc => ?_); exact hJ _ W rc2 (hx.new (fc (· = _) rfl) fun y hy e => by omega) hc))
end Go.Proofs
