import Derived.Test.YtibalhhdladmbaaErr2
import Derived.Test.YtibalhhdladmbaaV4Law
/- What is told of faults, part three: the laws. -/
namespace Go.Proofs
open Gp Gp.V4
set_option maxRecDepth 100000

theorem iparse_ok {w : World} {s : SliceV} (m : Msg) (hc : m.check = 0) (hs : SlB w s m.bytes) : c_icmp_Parse s w fun k c r d e w' => k = m.kind ∧ e = 0 ∧ SlB w' d m.data ∧ Ext w w' := by
  apply ok_icmp_Parse
  unfold s_icmp_Parse
  have hsl := hs.1
  have hml : m.bytes.length = 8 + m.data.length := body_len _ _
  obtain ⟨⟨g1, g2, g3⟩, hdl⟩ := mcheck_zero hc
  have g1' := fits1 g1
  refine Al_e fun a w1 r1 e1 z1 f1 => ?_
  have c1 : ¬ ((s.len : Int) < 8) := by omega
  have c2 : ¬ ((s.len : Int) > 65535) := by omega
  simp only [c1, c2, decide_false, cond_false]
  refine Al_e fun b w2 r2 e2 z2 f2 => ?_
  have hs2 := (hs.ext f1).ext f2
  refine cm_sum_Right (sright_ok (parts_one r2 hs2) (by simp) (by intro q hq; simp only [List.mem_singleton] at hq; subst hq; simp only; omega)) ?_
  rintro _ w3 ⟨rfl, f3⟩
  rw [totP_one, msum_right]
  simp only [decide_true, Bool.not_true, cond_false]
  have hs3 := hs2.ext f3
  refine cm_be_Get (get_ok hs3 (by omega) 4 4) ?_
  rintro n e4 w4 ⟨hw, hr4⟩
  subst hw
  have hs4 := hs3.ext (Ext.drew _)
  refine byte_at (i := 0) hs4 (by omega) fun a0 hc0 _ => ?_
  simp only [Ld_eq, LdV_some, dec_int, add_mk, Nat.zero_add, Nat.add_zero, hc0]
  refine byte_at (i := 1) hs4 (by omega) fun a1 hc1 _ => ?_
  simp only [LdV_some, dec_int, hc1]
  refine SubSl_bytes hs4 (by omega) (by omega) (by omega) fun s5 hs5 _ => ?_
  rw [show Int.toNat 8 = 8 from rfl, Int.toNat_natCast, List.take_of_length_le (l := m.bytes) (by omega)] at hs5
  refine cm_slices_Clone_byte_byte (clone_ok hs5 (by simp; omega)) ?_
  rintro d w6 ⟨b6, _, f6, n6⟩
  simp only [true_and, cell_ext hc0 f6, cell_ext hc1 f6]
  have x6 : Ext w1 w6 := (f2.trans f3).trans ((Ext.drew _).trans f6)
  refine StN_full (r1.ext x6) rfl rfl fun w7 r7 f7 _ => ?_
  simp only [List.getElem?_cons_zero, List.getElem?_cons_succ, LdV_some, dec_slice, dec_int, r7.cell]
  have e0 : m.bytes[0] = UInt8.ofNat m.kind.toNat := by
    have : m.bytes[0]? = some (UInt8.ofNat m.kind.toNat) := by unfold Msg.bytes; rw [body_eq]; rfl
    rw [List.getElem?_eq_getElem (by omega)] at this
    simpa using this
  have ed : m.bytes.drop 8 = m.data := by unfold Msg.bytes; rw [body_eq]; rfl
  rw [ed] at b6
  have z4 : w1.heap.size ≤ w4.drew.heap.size := (f2.trans f3).size
  refine ⟨?_, SlB.of_buf (b6.fr (f7 (· = a) rfl) fun y hy e => by have := n6 y hy; omega), (f1.trans x6).new (f7 (· = a) rfl) fun y hy e => by omega⟩
  rw [e0]
  rw [wrap_i64 (by omega) (by have := (UInt8.ofNat m.kind.toNat).toNat_lt; omega)]
  simp
  omega

theorem prefix_ok {w : World} {s t : SliceV} {l m : List UInt8} (hs : SlB w s l) (ht : SlB w t m) (h : m = l.take m.length) (hle : m.length ≤ l.length) : c_bytes_HasPrefix s t w fun r w' => r = true ∧ Ext w w' := by
  apply ok_bytes_HasPrefix
  unfold s_bytes_HasPrefix
  have sl := hs.1
  have tl := ht.1
  have c : ((s.len : Int) ≥ (t.len : Int)) := by omega
  simp only [c, decide_true, cond_true]
  refine SubSl_bytes hs (by omega) (by omega) (by omega) fun s2 hs2 _ => ?_
  rw [show Int.toNat 0 = 0 from rfl, List.drop_zero, Int.toNat_natCast, tl, ← h] at hs2
  refine cm_bytes_Equal (equal_ok hs2 ht) ?_
  rintro _ w3 ⟨rfl, hw⟩
  subst hw
  exact ⟨by simp, Ext.refl _⟩

/-! ### A datagram -/
theorem rmod_ok (a b : Int) (ha : 0 ≤ a ∧ a < 2 ^ 62) (hb : 0 < b ∧ b ≤ 2 ^ 40) (w : World) : c_ref07_mod a b w fun r w' => r = a % b ∧ w' = w := by
  apply ok_ref07_mod
  unfold s_ref07_mod
  refine ⟨by omega, by omega, ?_, rfl⟩
  rw [Int.tmod_eq_emod_of_nonneg ha.1]
  have h1 := Int.emod_nonneg a (b := b) (by omega)
  have h2 := Int.emod_lt_of_pos a hb.1
  rw [wrap_i64 (by omega) (by omega), Int.tmod_eq_emod_of_nonneg (by omega), Int.add_emod_right, Int.emod_emod]

theorem rpseudo_ok {w : World} {src dst proto z : Int} (h1 : 0 ≤ src ∧ src < 2 ^ 62) (h2 : 0 ≤ dst ∧ dst < 2 ^ 62) (h3 : 0 ≤ proto ∧ proto < 2 ^ 62) (h4 : 0 ≤ z ∧ z < 2 ^ 62) :
    c_ref07_Pseudo src dst proto z w fun r w' => (∃ l : List UInt8, SlB w' r l ∧ l.length ≤ 100) ∧ Ext w w' := by
  apply ok_ref07_Pseudo
  unfold s_ref07_Pseudo
  have put_len : ∀ l n k, (putL l n k).length ≤ l.length + 4 := fun l n k => by
    unfold putL
    split
    · rename_i h
      have := h.1.2
      simp [beN_len]; omega
    · omega
  have em : ∀ (a b : Int), 0 < b → b ≤ 2 ^ 40 → a % b < 2 ^ 62 := fun a b hb hb2 => by
    have := Int.emod_lt_of_pos a hb; omega
  refine cm_ref07_mod (rmod_ok _ _ h1 (by omega) w) ?_
  rintro _ w0 ⟨rfl, hw⟩
  subst hw
  refine cm_ref01_Put (rput_ok SlB.nil (by simp) _ 4 (em _ _ (by omega) (by omega))) ?_
  rintro t1 w1 ⟨b1, f1, n1⟩
  refine cm_ref07_mod (rmod_ok _ _ h2 (by omega) w1) ?_
  rintro _ w2 ⟨rfl, hw⟩
  subst hw
  have l1 := put_len [] (src % 4294967296) 4
  simp only [List.length_nil] at l1
  refine cm_ref01_Put (rput_ok (SlB.of_buf b1) (by omega) _ 4 (em _ _ (by omega) (by omega))) ?_
  rintro t2 w2 ⟨b2, f2, n2⟩
  have l2 := put_len (putL [] (src % 4294967296) 4) (dst % 4294967296) 4
  generalize putL (putL [] (src % 4294967296) 4) (dst % 4294967296) 4 = q2 at b2 l2
  refine Al_e fun c w3 r3 e3 z3 f3 => ?_
  have b3 : SlB w3 ⟨some ⟨c, 0, none⟩, 1, 1⟩ [0] := SlB.of_buf (SlB.row (l := [0]) (by simpa [bytesV] using r3))
  refine AppSl_bytes (b2.ext f3) b3 (by simp; omega) fun t4 w4 b4 f4 n4 _ => ?_
  have z1' := f1.size
  have x4 : Ext w0 w4 := (f1.trans (f2.trans f3)).new f4 fun y hy h => by have := n2 y h; omega
  refine cm_ref07_mod (rmod_ok _ _ h3 (by omega) w4) ?_
  rintro _ w5 ⟨rfl, hw⟩
  subst hw
  refine cm_ref01_Put (rput_ok (SlB.of_buf b4) (by simp; omega) _ 1 (em _ _ (by omega) (by omega))) ?_
  rintro t5 w5 ⟨b5, f5, n5⟩
  have l5 := put_len (q2 ++ [0]) (proto % 256) 1
  generalize putL (q2 ++ [0]) (proto % 256) 1 = q5 at b5 l5
  simp only [List.length_append, List.length_singleton] at l5
  refine cm_ref07_mod (rmod_ok _ _ h4 (by omega) w5) ?_
  rintro _ w6 ⟨rfl, hw⟩
  subst hw
  refine cm_ref01_Put (rput_ok (SlB.of_buf b5) (by omega) _ 2 (em _ _ (by omega) (by omega))) ?_
  rintro t6 w6 ⟨b6, f6, n6⟩
  have l6 := put_len q5 (z % 65536) 2
  exact ⟨⟨_, SlB.of_buf b6, by omega⟩, (x4.trans f5).trans f6⟩

theorem udpb_ok {w : World} {d : SliceV} {l : List UInt8} (hd : SlB w d l) (hl : l.length ≤ 65527) {src dst : Nat} (h1 : src < 65536) (h2 : dst < 65536) (b : Bool) {s : Nat} (hs : s < 65536) :
    c_ref07_bytes (src : Int) (dst : Int) b d (s : Int) w fun r w' => SlB w' r (beN 2 src ++ beN 2 dst ++ beN 2 (8 + l.length) ++ beN 2 s ++ l) ∧ Ext w w' := by
  apply ok_ref07_bytes
  unfold s_ref07_bytes
  have dl := hd.1
  have put : ∀ {W : World} {t : SliceV} {l : List UInt8} (n k : Nat), SlB W t l → l.length ≤ 100 → fitsP (n : Int) (k : Int) → n < 2 ^ 62 → c_ref01_Put t (n : Int) (k : Int) W fun r w' => Buf w' r (bytesV (l ++ beN k n)) ∧ Ext W w' ∧ (∀ b, SliceV.at r b → W.heap.size ≤ b) := by
    intro W t l n k h1 h2 h3 h4
    refine cm_ref01_Put (rput_ok h1 (by omega) (n : Int) (k : Int) (by omega)) ?_
    rintro r w' ⟨h5, h6, h7⟩
    refine ⟨?_, h6, h7⟩
    simpa [putL, h3] using h5
  have fit : ∀ n : Nat, n < 65536 → fitsP (n : Int) ((2 : Nat) : Int) := fun n h => ⟨⟨by omega, by omega⟩, by omega, by simp; omega⟩
  refine Al_e fun a w1 r1 e1 z1 f1 => ?_
  have r1d := r1.drew
  simp only [Ld_eq, List.getElem?_cons_zero, List.getElem?_cons_succ, LdV_some, dec_int, add_mk, Nat.zero_add, r1d.cell]
  refine cm_ref01_Put (put src 2 SlB.nil (by simp) (fit _ h1) (by omega)) ?_
  rintro t2 w2 ⟨b2, f2, n2⟩
  simp only [true_and, List.getElem?_cons_zero, List.getElem?_cons_succ, (r1d.ext f2).cell]
  refine cm_ref01_Put (put dst 2 (SlB.of_buf b2) (by simp [beN_len]) (fit _ h2) (by omega)) ?_
  rintro t3 w3 ⟨b3, f3, n3⟩
  have r3 := (r1d.ext f2).ext f3
  simp only [List.getElem?_cons_zero, List.getElem?_cons_succ, LdV_some, dec_slice, r3.cell]
  rw [wrap_i64 (by omega) (by omega), show (8 + (d.len : Int)) = ((8 + l.length : Nat) : Int) by omega]
  refine cm_ref01_Put (put (8 + l.length) 2 (SlB.of_buf b3) (by simp [beN_len]) (fit _ (by omega)) (by omega)) ?_
  rintro t4 w4 ⟨b4, f4, n4⟩
  refine cm_ref01_Put (put s 2 (SlB.of_buf b4) (by simp [beN_len]) (fit _ hs) (by omega)) ?_
  rintro t5 w5 ⟨b5, f5, n5⟩
  have r5 := (r3.ext f4).ext f5
  simp only [List.getElem?_cons_zero, List.getElem?_cons_succ, LdV_some, dec_slice, r5.cell]
  have x4 : Ext w w4 := (f1.trans (Ext.drew _)).trans ((f2.trans f3).trans f4)
  have z4 := x4.size
  refine AppSl_bytes b5 (hd.ext (x4.trans f5)) (by simp [beN_len]; omega) fun t6 w6 b6 f6 n6 _ => ?_
  exact ⟨SlB.of_buf (by simpa using b6), (x4.trans f5).new f6 fun y hy h => by have := n5 y h; omega⟩

theorem udp_ok {w : World} {d : SliceV} {l : List UInt8} (hd : SlB w d l) (hl : l.length ≤ 65527) {a b src dst : Nat} (ha : a < 2 ^ 40) (hb : b < 2 ^ 40) (h1 : src < 65536) (h2 : dst < 65536) :
    c_ref07_Build (a : Int) (b : Int) (src : Int) (dst : Int) false d w fun r e w' => e = 0 ∧ (∃ m : List UInt8, SlB w' r m ∧ m.length = 8 + l.length) ∧ Ext w w' := by
  apply ok_ref07_Build
  unfold s_ref07_Build
  have dl := hd.1
  refine Al_e fun c w1 r1 e1 z1 f1 => ?_
  simp only [Ld_eq, List.getElem?_cons_zero, List.getElem?_cons_succ, LdV_some, dec_slice, dec_int, dec_bool, add_mk, Nat.zero_add, Nat.add_zero, r1.cell]
  have fit : ∀ n : Nat, n < 65536 → fitsP (n : Int) 2 := fun n h => ⟨⟨by omega, by omega⟩, by omega, by simp; omega⟩
  have hchk : c_ref07_Check (src : Int) (dst : Int) false ⟨d.a, d.len, d.cap⟩ w1 fun r w' => r = 0 ∧ Ext w1 w' := by
    apply ok_ref07_Check
    unfold s_ref07_Check
    refine Al_e fun c w2 r2 e2 z2 f2 => ?_
    simp only [cond_true, Ld_eq, List.getElem?_cons_zero, LdV_some, dec_int, add_mk, Nat.zero_add, r2.cell]
    refine cm_ref01_Fits (rfits_ok _ _ _) ?_
    rintro r w3 ⟨hr, hw⟩
    rw [decide_eq_true (fit _ h1)] at hr
    subst hr hw
    simp only [Bool.not_true, cond_false, List.getElem?_cons_zero, List.getElem?_cons_succ, LdV_some, dec_int, r2.cell]
    refine cm_ref01_Fits (rfits_ok _ _ _) ?_
    rintro r w3 ⟨hr, hw⟩
    rw [decide_eq_true (fit _ h2)] at hr
    subst hr hw
    have : ¬ ((d.len : Int) > 65527) := by omega
    simp only [Bool.not_true, this, decide_false, cond_false, List.getElem?_cons_zero, List.getElem?_cons_succ, LdV_some, dec_slice, r2.cell]
    exact ⟨by trivial, f2⟩
  refine cm_ref07_Check hchk ?_
  rintro _ w2 ⟨rfl, f2⟩
  have r2 := r1.ext f2
  simp only [show ((0 : Int) != 0) = false from rfl, cond_false, List.getElem?_cons_zero, List.getElem?_cons_succ, LdV_some, dec_slice, dec_int, dec_bool, r2.cell]
  refine cm_ref07_bytes (udpb_ok (s := 0) ((hd.ext f1).ext f2) hl h1 h2 false (by omega)) ?_
  rintro t3 w3 ⟨b3, f3⟩
  have l3 := b3.1
  simp only [List.length_append, beN_len] at l3
  simp only [cond_false, List.getElem?_cons_zero, List.getElem?_cons_succ, LdV_some, dec_bool, (r2.ext f3).cell]
  refine cm_ref07_Pseudo (rpseudo_ok (by omega) (by omega) (by omega) (by omega)) ?_
  rintro t4 w4 ⟨⟨q4, b4, l4⟩, f4⟩
  refine Al_e fun g w5 r5 e5 z5 f5 => ?_
  have hp : Parts w5 ⟨some ⟨g, 0, none⟩, 2, 2⟩ [(t4, q4), (t3, beN 2 src ++ beN 2 dst ++ beN 2 (8 + l.length) ++ beN 2 0 ++ l)] := by
    refine ⟨rfl, fun i p hi => ?_⟩
    match i with
    | 0 =>
      simp at hi
      subst hi
      exact ⟨g, 0, rfl, by rw [r5.cell]; rfl, b4.ext f5⟩
    | 1 =>
      simp at hi
      subst hi
      exact ⟨g, 0, rfl, by rw [r5.cell]; rfl, by simpa using (b3.ext f4).ext f5⟩
    | i + 2 => simp at hi
  refine cm_ref02_Of (rof_ok hp (by simp) (by
    intro q hq
    simp only [List.mem_cons, List.not_mem_nil, or_false] at hq
    rcases hq with rfl | rfl
    · simp only; omega
    · simp only [List.length_append, beN_len]; omega)) ?_
  rintro _ w6 ⟨rfl, f6⟩
  generalize hsv : 65535 - fold (totP [(t4, q4), (t3, beN 2 src ++ beN 2 dst ++ beN 2 (8 + l.length) ++ beN 2 0 ++ l)]) = sv
  have hsv2 : sv < 65536 := by omega
  have y6 := f3.trans (f4.trans (f5.trans f6))
  have x6 := (f1.trans f2).trans y6
  have fin : ∀ v : Nat, v < 65536 → c_ref07_bytes (src : Int) (dst : Int) false ⟨d.a, d.len, d.cap⟩ (v : Int) w6 fun r w' => True ∧ (∃ m : List UInt8, SlB w' r m ∧ m.length = 8 + l.length) ∧ Ext w w' := by
    intro v hv
    refine cm_ref07_bytes (udpb_ok (d := d) (hd.ext x6) hl h1 h2 false hv) ?_
    rintro t7 w7 ⟨b7, f7⟩
    exact ⟨trivial, ⟨_, b7, by simp [beN_len]; omega⟩, x6.trans f7⟩
  simp only [List.getElem?_cons_zero, List.getElem?_cons_succ, LdV_some, dec_slice, dec_int, dec_bool, (r2.ext y6).cell]
  by_cases h0 : sv = 0
  · simp only [h0, show (((0 : Nat) : Int) == 0) = true from rfl, cond_true]
    have h9 := fin 65535 (by omega)
    rw [show ((65535 : Nat) : Int) = 65535 from rfl] at h9
    exact h9
  · have : ((sv : Int) == 0) = false := by rw [int_beq]; exact decide_eq_false (by omega)
    simp only [this, cond_false]
    exact fin sv hsv2

theorem datagram_ok {w : World} {d : SliceV} {l : List UInt8} (hd : SlB w d l) (hl : l.length ≤ 60000) {a b src dst ttl : Nat} (ha : a < 4294967296) (hb : b < 4294967296) (h1 : src < 65536) (h2 : dst < 65536) (h3 : ttl < 256) :
    c_plain_Datagram (a : Int) (b : Int) (src : Int) (dst : Int) (ttl : Int) d w fun r w' => (∃ p : Pkt, p.check = 0 ∧ SlB w' r p.bytes ∧ p.off = 0 ∧ p.proto = 17 ∧ p.src = (a : Int) ∧ p.dst = (b : Int) ∧ p.opts = [] ∧ p.data.length = 8 + l.length) ∧ Ext w w' := by
  apply ok_plain_Datagram
  unfold s_plain_Datagram
  refine cm_ref07_Build (udp_ok hd (by omega) (by omega) (by omega) h1 h2) ?_
  rintro r _ w1 ⟨rfl, ⟨m, hm, lm⟩, f1⟩
  refine cm_ref05_Build (rbuild_ok (⟨0, 0, 0, ttl, 17, a, b, false, false, [], m⟩ : Pkt) (o := ⟨none, 0, 0⟩) (d := r) SlB.nil hm (by simp) (by show m.length ≤ 2 ^ 46; omega)) ?_
  rintro t e w2 ⟨he, _, hb2, f2, _⟩
  have hc : (⟨0, 0, 0, ttl, 17, a, b, false, false, [], m⟩ : Pkt).check = 0 := by
    have fine : (⟨0, 0, 0, ttl, 17, a, b, false, false, [], m⟩ : Pkt).fine :=
      ⟨⟨⟨⟨by omega, by omega⟩, by simp, by simp⟩, ⟨⟨by omega, by omega⟩, by simp, by simp; omega⟩, ⟨⟨by omega, by omega⟩, by simp, by simp⟩, ⟨⟨by omega, by omega⟩, by simp, by simp⟩⟩,
        ⟨⟨by simp, by simp; omega⟩, ⟨by simp, by simp; omega⟩⟩, ⟨by simp, by simp, by simp, by simp⟩, by simp, by simp⟩
    have sh : (⟨0, 0, 0, ttl, 17, a, b, false, false, [], m⟩ : Pkt).short := ⟨by simp; omega, by simp; omega⟩
    unfold Pkt.check
    rw [if_pos fine, if_pos sh]
  exact ⟨⟨_, hc, SlB.of_buf (hb2 hc), rfl, rfl, rfl, rfl, rfl, lm⟩, f1.trans f2⟩

theorem awake28_ok (w : World) : c_law28_awake w fun r w' => r = true ∧ Ext w w' := by
  apply ok_law28_awake
  unfold s_law28_awake
  refine cm_plain_Datagram (datagram_ok (a := 167772161) (b := 3221225985) (src := 5) (dst := 6) (ttl := 1) (l := []) SlB.nil (by simp) (by omega) (by omega) (by omega) (by omega) (by omega)) ?_
  rintro r w1 ⟨⟨p, hc, hr, po, pp, ps, pd, pop, pl⟩, f1⟩
  obtain ⟨hq1, hq2⟩ := read_quoted hc
  have hm : mayB p.bytes = true := by
    refine mayB_iff.2 ⟨hq1, ?_⟩
    rw [hq2, po, ps, pd]
    refine ⟨by omega, by decide, by decide, ?_⟩
    unfold plainB
    rw [if_neg (by rw [pp]; omega)]
  have me : makeE 3221225473 11 0 0 p.bytes = 0 := by
    rw [make_quote (by omega) (by omega) (by omega), if_pos hm]
  have bl : p.bytes.length = 28 := by
    unfold Pkt.bytes
    rw [List.length_append, head_len, pop, pl]; rfl
  refine cm_errs_Make (make_ok hr (by omega) 3221225473 11 0 0) ?_
  have er : makeR 3221225473 11 0 0 p.bytes = makeP 3221225473 11 0 0 p.bytes := by unfold makeR; rw [if_pos me]
  rw [me, er]
  rintro _ _ _ _ _ _ _ _ _ op da _ w2 ⟨rfl, ⟨rfl, rfl, rfl, rfl, rfl, rfl, rfl, rfl, rfl, hop, hda⟩, f2⟩
  refine Al_f rfl rfl fun b w3 r3 e3 z3 f3 => ?_
  simp only [show ((0 : Int) == 0) = true from rfl, cond_true]
  refine cm_errs_May (may_ok ((hr.ext f2).ext f3) (by omega)) ?_
  rintro _ w4 ⟨rfl, f4⟩
  have e6 : ((makeP 3221225473 11 0 0 p.bytes).dst == 167772161) = true := by
    rw [int_beq]
    refine decide_eq_true ?_
    rw [makeP_dst, hq2, ps]; rfl
  have dl : da.len = (makeP 3221225473 11 0 0 p.bytes).data.length := hda.1
  have rl := hr.1
  have e7 : ((da.len : Int) == IntKind.i64.wrap (8 + (r.len : Int))) = true := by
    rw [wrap_i64 (by omega) (by omega), int_beq]
    refine decide_eq_true ?_
    have h1 : (makeM 11 0 0 p.bytes).bytes.length = 8 + (makeM 11 0 0 p.bytes).data.length := body_len _ _
    rw [makeP_data] at dl
    rw [makeM_data] at h1
    have h2 : (field p.bytes).size = 28 := by rw [hq2]; unfold Pkt.size; rw [pop, pl]; rfl
    rw [h2, List.length_take] at h1
    omega
  simp only [hm, cond_true, cond_true, Ld_eq, List.getElem?_cons_zero, List.getElem?_cons_succ, LdV_some, dec_slice, dec_int, add_mk, Nat.zero_add, (r3.ext f4).cell, e6, e7]
  apply ok_errs_Most
  unfold s_errs_Most
  exact ⟨rfl, ((f1.trans f2).trans f3).trans f4⟩

theorem emake_ok {w : World} {s : SliceV} {l : List UInt8} (hs : SlB w s l) (a b c d : Int) : c_law28_ErrsMake a b c d s w fun r w' => r = true ∧ Ext w w' := by
  apply ok_law28_ErrsMake
  unfold s_law28_ErrsMake
  have hsl := hs.1
  by_cases c1 : l.length > 3000
  · have : ((s.len : Int) > 3000) := by omega
    simp only [this, decide_true, cond_true]
    exact awake28_ok w
  have : ¬ ((s.len : Int) > 3000) := by omega
  simp only [this, decide_false, cond_false]
  refine cm_errs_Make (make_ok hs (by omega) a b c d) ?_
  rintro _ _ _ _ _ _ _ _ _ op da _ w1 ⟨rfl, ⟨rfl, rfl, rfl, rfl, rfl, rfl, rfl, rfl, rfl, hop, hda⟩, f1⟩
  refine Al_f rfl rfl fun b2 w2 r2 e2 z2 f2 => ?_
  have x2 := f1.trans f2
  refine cm_ref28_Make (rmake_ok (hs.ext x2) (by omega) a b c d) ?_
  rintro _ _ _ _ _ _ _ _ _ op3 da3 _ w3 ⟨rfl, ⟨rfl, rfl, rfl, rfl, rfl, rfl, rfl, rfl, rfl, hop3, hda3⟩, f3⟩
  refine Al_f rfl rfl fun b4 w4 r4 e4 z4 f4 => ?_
  have x4 := x2.trans (f3.trans f4)
  refine cm_errs_May (may_ok (hs.ext x4) (by omega)) ?_
  rintro _ w5 ⟨rfl, f5⟩
  refine cm_ref28_May (rmay_ok ((hs.ext x4).ext f5) (by omega)) ?_
  rintro _ w6 ⟨rfl, f6⟩
  have y6 := f5.trans f6
  have y26 := f3.trans (f4.trans y6)
  simp only [bool_beq, int_beq, decide_true, cond_true, Ld_eq, List.getElem?_cons_zero, List.getElem?_cons_succ, LdV_some, dec_slice, dec_int, dec_bool, add_mk, Nat.zero_add, Nat.add_zero, (r2.ext y26).cell, (r4.ext y6).cell]
  refine cm_ref05_Same (rsame_ok (makeR a b c d l) (makeR a b c d l) (hop.ext (f2.trans y26)) (hda.ext (f2.trans y26)) (hop3.ext (f4.trans y6)) (hda3.ext (f4.trans y6))) ?_
  rintro _ w7 ⟨rfl, f7⟩
  simp only [decide_true, cond_true]
  refine cm_law28_awake (awake28_ok _) ?_
  rintro _ w8 ⟨rfl, f8⟩
  exact ⟨by trivial, ((x4.trans y6).trans f7).trans f8⟩

theorem eonce_ok {w : World} {s : SliceV} {l : List UInt8} (hs : SlB w s l) (a b c d : Int) : c_law28_ErrsOnce a b c d s w fun r w' => r = true ∧ Ext w w' := by
  apply ok_law28_ErrsOnce
  unfold s_law28_ErrsOnce
  have hsl := hs.1
  by_cases c1 : l.length > 3000
  · have : ((s.len : Int) > 3000) := by omega
    simp only [this, decide_true, cond_true]
    exact awake28_ok w
  have : ¬ ((s.len : Int) > 3000) := by omega
  simp only [this, decide_false, cond_false]
  refine cm_errs_Make (make_ok hs (by omega) a b c d) ?_
  rintro _ _ _ _ _ _ _ _ _ op da _ w1 ⟨rfl, ⟨rfl, rfl, rfl, rfl, rfl, rfl, rfl, rfl, rfl, hop, hda⟩, f1⟩
  refine Al_f rfl rfl fun b2 w2 r2 e2 z2 f2 => ?_
  have x2 := f1.trans f2
  by_cases c2 : makeE a b c d l = 0
  · have hE : (makeE a b c d l != 0) = false := by simp [c2]
    simp only [hE, cond_false]
    refine cm_icmp_Fault (fault_ok _ _) ?_
    rintro _ w3 ⟨rfl, f3⟩
    by_cases c3 : faultP b
    · obtain ⟨hm1, hm2, hm3⟩ := makeE_zero c2
      have er : makeR a b c d l = makeP a b c d l := by unfold makeR; rw [if_pos c2]
      have r3 := r2.ext f3
      rw [er] at hop hda r3
      simp only [c3, decide_true, Bool.not_true, cond_false, Ld_eq, List.getElem?_cons_zero, List.getElem?_cons_succ, LdV_some, dec_slice, dec_int, dec_bool, add_mk, Nat.zero_add, Nat.add_zero, r3.cell]
      have hml : (makeM b c d l).bytes.length = 8 + (makeM b c d l).data.length := body_len _ _
      have hdl := (mcheck_zero hm2).2
      refine cm_v4_Build (build_ok (makeP a b c d l) (o := op) (d := da) ((hop.ext f2).ext f3) ((hda.ext f2).ext f3) (by simp [makeP]) (by rw [makeP_data]; omega)) ?_
      rintro r4 _ w4 ⟨rfl, _, hb4, f4, _⟩
      have hb4 := SlB.of_buf (hb4 hm3)
      have hno := may_fault c2 c3
      have hbl : (makeP a b c d l).bytes.length = 20 + (makeM b c d l).bytes.length := by
        unfold Pkt.bytes
        rw [List.length_append, head_len, makeP_data, makeP_opts]; rfl
      refine cm_errs_Make (make_ok hb4 (by omega) a 3 1 0) ?_
      have he11 : makeE a 3 1 0 (makeP a b c d l).bytes = 11 := by unfold makeE; rw [hno]; simp
      rw [he11]
      generalize makeR a 3 1 0 (makeP a b c d l).bytes = R
      rintro _ _ _ _ _ _ _ _ _ op5 da5 _ w5 ⟨rfl, ⟨rfl, rfl, rfl, rfl, rfl, rfl, rfl, rfl, rfl, _, _⟩, f5⟩
      refine Al_f rfl rfl fun b6 w6 r6 e6 z6 f6 => ?_
      simp only [hm3, show ((0 : Int) == 0) = true from rfl, cond_true]
      refine cm_errs_May (may_ok ((hb4.ext f5).ext f6) (by omega)) ?_
      rintro _ w7 ⟨rfl, f7⟩
      simp only [hno, Bool.not_false, cond_true, show ((11 : Int) == 11) = true from rfl]
      refine cm_law28_awake (awake28_ok _) ?_
      rintro _ w8 ⟨rfl, f8⟩
      exact ⟨by trivial, (((x2.trans f3).trans f4).trans (f5.trans f6)).trans (f7.trans f8)⟩
    · simp only [c3, decide_false, Bool.not_false, cond_true]
      refine cm_law28_awake (awake28_ok _) ?_
      rintro _ w8 ⟨rfl, f8⟩
      exact ⟨by trivial, (x2.trans f3).trans f8⟩
  · have hE : (makeE a b c d l != 0) = true := by simpa using c2
    simp only [hE, cond_true]
    refine cm_law28_awake (awake28_ok _) ?_
    rintro _ w8 ⟨rfl, f8⟩
    exact ⟨by trivial, x2.trans f8⟩

theorem equote_ok {w : World} {s : SliceV} {l : List UInt8} (hs : SlB w s l) {a b c : Int} (ha : 0 ≤ a ∧ a < 4294967296) (hb : 0 ≤ b ∧ b < 256) (hc : 0 ≤ c ∧ c < 256) : c_law28_ErrsQuote a b c s w fun r w' => r = true ∧ Ext w w' := by
  apply ok_law28_ErrsQuote
  unfold s_law28_ErrsQuote
  have hsl := hs.1
  rw [wrap_i64 (n := a) (by omega) (by omega), wrap_i64 (n := b) (by omega) (by omega), wrap_i64 (n := c) (by omega) (by omega)]
  by_cases c1 : l.length > 3000
  · have : ((s.len : Int) > 3000) := by omega
    simp only [this, decide_true, cond_true]
    exact awake28_ok w
  have : ¬ ((s.len : Int) > 3000) := by omega
  simp only [this, decide_false, cond_false]
  refine cm_errs_Make (make_ok hs (by omega) a b c 0) ?_
  rintro _ _ _ _ _ _ _ _ _ op da _ w1 ⟨rfl, ⟨rfl, rfl, rfl, rfl, rfl, rfl, rfl, rfl, rfl, hop, hda⟩, f1⟩
  refine Al_f rfl rfl fun b2 w2 r2 e2 z2 f2 => ?_
  have x2 := f1.trans f2
  have hmk := make_quote (l := l) ha hb hc
  by_cases hm : mayB l = true
  · rw [if_pos hm] at hmk
    obtain ⟨_, hm2, hm3⟩ := makeE_zero hmk
    have er : makeR a b c 0 l = makeP a b c 0 l := by unfold makeR; rw [if_pos hmk]
    rw [er] at hop hda r2
    have hq := mayB_iff.1 hm
    have hz := field_size (read_open hq.1)
    simp only [hmk, show ((0 : Int) != 0) = false from rfl, cond_false, Ld_eq, List.getElem?_cons_zero, List.getElem?_cons_succ, LdV_some, dec_slice, add_mk, Nat.zero_add, Nat.add_zero, r2.cell]
    refine cm_icmp_Parse (iparse_ok (makeM b c 0 l) hm2 (s := da) (hda.ext f2)) ?_
    rintro k1 k2 k3 d4 _ w4 ⟨hk1, rfl, hd4, f4⟩
    rw [makeM_kind] at hk1
    refine Al_f rfl rfl fun b5 w5 r5 e5 z5 f5 => ?_
    have x5 := x2.trans (f4.trans f5)
    refine cm_v4_Quoted (quoted_ok (hs.ext x5) (by omega)) ?_
    have rd : V4.read l true = field l := by unfold V4.read; rw [if_pos hq.1]
    rw [rd]
    rintro _ _ _ _ _ _ _ _ _ op6 da6 _ w6 ⟨rfl, ⟨rfl, rfl, rfl, rfl, rfl, rfl, rfl, rfl, rfl, hop6, hda6⟩, f6⟩
    refine Al_f rfl rfl fun b7 w7 r7 e7 z7 f7 => ?_
    have y7 := (f6.trans f7).trans (Ext.drew w7)
    have r2' := r2.ext (f4.trans (f5.trans y7))
    have r5' := r5.ext y7
    have r7' := r7.drew
    have ed := makeP_dst a b c 0 l
    have es := makeP_src a b c 0 l
    simp only [hq.1, show ((0 : Int) == 0) = true from rfl, cond_true, List.getElem?_cons_zero, List.getElem?_cons_succ, LdV_some, dec_slice, dec_int, add_mk, Nat.zero_add, Nat.add_zero, r2'.cell, r7'.cell, r5'.cell, int_beq, ed, es, decide_true]
    apply ok_errs_Most
    unfold s_errs_Most
    have dl4 := hd4.1
    have hmd := makeM_data b c 0 l
    have hmdl : (makeM b c 0 l).data.length = min (field l).size 548 := by rw [hmd, List.length_take]; omega
    have c5 : ((d4.len : Int) ≤ 548) := by omega
    simp only [true_and, cond_true, List.getElem?_cons_zero, List.getElem?_cons_succ, LdV_some, dec_slice, dec_int, dec_bool, r5'.cell, r7'.cell, c5, decide_true]
    have ol6 := hop6.1
    have dl6 := hda6.1
    have hlo := field_opts_len (l := l)
    have hzz : (field l).size = 20 + (field l).opts.length + (field l).data.length := rfl
    refine cm_v4_Size (v4_size _ _ _ _ _ _ _ _ _ _ _ (show op6.len ≤ 2 ^ 60 by omega) (show da6.len ≤ 2 ^ 60 by omega) _) ?_
    rintro _ w8 ⟨rfl, f8⟩
    have c6 : ((d4.len : Int) ≥ (if 20 + (({ a := op6.a, len := op6.len, cap := op6.cap } : SliceV).len : Int) + (({ a := da6.a, len := da6.len, cap := da6.cap } : SliceV).len : Int) < 28 then 20 + (({ a := op6.a, len := op6.len, cap := op6.cap } : SliceV).len : Int) + (({ a := da6.a, len := da6.len, cap := da6.cap } : SliceV).len : Int) else 28)) := by
      simp only [ol6, dl6]
      split <;> omega
    simp only [true_and, cond_true, List.getElem?_cons_zero, List.getElem?_cons_succ, LdV_some, dec_slice, (r5'.ext f8).cell, decide_eq_true c6]
    have x8 : Ext w w8 := (x5.trans y7).trans f8
    refine cm_bytes_HasPrefix (prefix_ok (t := d4) (hs.ext x8) (((hd4.ext f5).ext y7).ext f8) (by rw [hmdl, hmd]) (by omega)) ?_
    rintro _ w9 ⟨rfl, f9⟩
    simp only [cond_true, cond_true, List.getElem?_cons_zero, List.getElem?_cons_succ, LdV_some, dec_slice, dec_int, dec_bool, (r5'.ext (f8.trans f9)).cell, (r2'.ext (f8.trans f9)).cell, hk1, decide_true]
    have opl := hop.1
    have dal := hda.1
    have hml : (makeP a b c 0 l).data.length = 8 + (makeM b c 0 l).data.length := by rw [makeP_data]; exact body_len _ _
    have hol : (makeP a b c 0 l).opts.length = 0 := by rw [makeP_opts]; rfl
    refine cm_v4_Size (v4_size _ _ _ _ _ _ _ _ _ _ _ (show op.len ≤ 2 ^ 60 by omega) (show da.len ≤ 2 ^ 60 by omega) _) ?_
    rintro _ w10 ⟨rfl, f10⟩
    have c7 : (20 + (({ a := op.a, len := op.len, cap := op.cap } : SliceV).len : Int) + (({ a := da.a, len := da.len, cap := da.cap } : SliceV).len : Int) ≤ 576) := by
      simp only [opl, dal]; omega
    simp only [decide_eq_true c7, cond_true]
    refine cm_law28_awake (awake28_ok _) ?_
    rintro _ w11 ⟨rfl, f11⟩
    exact ⟨by trivial, (x8.trans f9).trans (f10.trans f11)⟩
  · rw [if_neg hm] at hmk
    have hm' : mayB l = false := by simpa using hm
    simp only [hmk, show ((11 : Int) != 0) = true from rfl, show ((11 : Int) == 11) = true from rfl, cond_true]
    refine cm_errs_May (may_ok (hs.ext x2) (by omega)) ?_
    rintro _ w3 ⟨rfl, f3⟩
    simp only [hm', Bool.not_false, cond_true]
    refine cm_law28_awake (awake28_ok _) ?_
    rintro _ w4 ⟨rfl, f4⟩
    exact ⟨by trivial, (x2.trans f3).trans f4⟩
end Go.Proofs
