import Derived.Test.YtibalhhdladmbaaV4c
/- Packets of IPv4, part four: reading whole packets, and comparing. -/
namespace Go.Proofs
open Gp Gp.V4
set_option maxRecDepth 100000

theorem byte_at {w : World} {s : SliceV} {l : List UInt8} (h : SlB w s l) {i : Nat} (hi : i < l.length) {K : Addr → Prop} (hK : ∀ a, w.cell? (a) = some (.int .u8 (l[i].toNat : Int)) → (a.block < w.heap.size) → K a) : AtIx s 1 (i : Int) K := by
  have hsl := h.1
  obtain ⟨a, ha, hc⟩ := h.at_ (List.getElem?_eq_getElem hi)
  exact ⟨a, ha, by omega, by omega, hK _ (by rw [Int.toNat_natCast, Nat.mul_one]; exact hc) (by rw [Int.toNat_natCast, Nat.mul_one]; exact cell_lt hc)⟩

theorem low4 (x : UInt8) : IntKind.i64.wrap ((IntKind.i64.wrap (andI .u8 (x.toNat : Int) 15)) * 4) = ((x.toNat % 16 * 4 : Nat) : Int) := by
  have h := x.toNat_lt
  have := and_u8 (a := x.toNat) (b := 15) (by omega) (by omega)
  rw [show (15 : Nat) = 2 ^ 4 - 1 by decide, and_low] at this
  rw [show (((2 ^ 4 - 1 : Nat) : Nat) : Int) = 15 from rfl] at this
  rw [this, wrap_i64 (n := ((x.toNat % 2 ^ 4 : Nat) : Int)) (by omega) (by omega), wrap_i64 (by omega) (by omega)]
  omega

theorem hlen_eq {l : List UInt8} (h : 0 < l.length) : hlen l = l[0].toNat % 16 * 4 := by
  unfold hlen
  rw [List.getElem?_eq_getElem h]; rfl
theorem ver_eq {l : List UInt8} (h : 0 < l.length) : ver l = l[0].toNat / 16 := by
  unfold ver
  rw [List.getElem?_eq_getElem h]; rfl

theorem open_ok {w : World} {s : SliceV} {l : List UInt8} (hs : SlB w s l) (hl : l.length ≤ 2 ^ 46) (q : Bool) :
    c_v4_open s q w fun b h z e w' => e = openE l q ∧ Ext w w' ∧ (e = 0 → b = s ∧ h = (hlen l : Int) ∧ z = (num l 2 2 : Int)) := by
  apply ok_v4_open
  unfold s_v4_open
  have hsl := hs.1
  refine Al_e fun a w1 r1 e1 z1 f1 => ?_
  by_cases c1 : l.length < 20
  · have c1' : ((s.len : Int) < 20) := by omega
    simp only [c1', decide_true, cond_true]
    refine StN_full r1 rfl rfl fun w2 r2 f2 _ => ?_
    simp only [Ld_eq, List.getElem?_cons_zero, List.getElem?_cons_succ, LdV_some, dec_slice, dec_int, add_mk, Nat.zero_add, Nat.add_zero, r2.cell]
    exact ⟨by simp [openE, c1], f1.new (f2 (· = a) rfl) fun y hy e => by omega, fun h => by cases h⟩
  have c1' : ¬ ((s.len : Int) < 20) := by omega
  simp only [c1', decide_false, cond_false]
  have hs1 := hs.ext f1
  refine byte_at (i := 0) hs1 (by omega) fun a0 hc0 hb0 => ?_
  simp -zeta only [Ld_eq, LdV_some, dec_int, add_mk, Nat.zero_add, Nat.add_zero, hc0, low4, ← hlen_eq (show 0 < l.length by omega)]
  refine Al_f rfl rfl fun b w2 r2 e2 z2 f2 => ?_
  simp -zeta only [List.getElem?_cons_zero, List.getElem?_cons_succ, LdV_some, dec_slice, dec_int, add_mk, Nat.zero_add, Nat.add_zero, r2.cell]
  refine cm_v4_reader_num (num_ok' (hs1.ext f2) hl (by omega) (by omega) _ _) ?_
  rintro _ w3 ⟨rfl, f3⟩
  refine St_row (r2.ext f3) rfl (by simp) fun w4 r4 f4 z4 => ?_
  have hsz3 := f3.size
  have x4 : Ext w1 w4 := (f2.trans f3).new (f4 (· = b) rfl) fun y hy e => by omega
  have x5 : Ext w w4 := f1.trans x4
  have ra := r1.ext x4
  simp only [List.set_cons_zero, List.set_cons_succ, show (Int.toNat 2) = 2 from rfl] at r4
  have hs4 := hs1.ext x4
  have hlt16 : hlen l ≤ 60 := by rw [hlen_eq (show 0 < l.length by omega)]; omega
  have fin : ∀ (e : Int) W, Ext w4 W → e = openE l q → e ≠ 0 → StN [(Value.slice none 0 0), (Value.int .i64 0), (Value.int .i64 0)] W ⟨a, 0, none⟩ 0 fun w28 =>
      LdV .slice (w28.cell? ⟨a, 0, none⟩) fun y29 => LdV (.int .i64) (w28.cell? ⟨a, 1, none⟩) fun y30 => LdV (.int .i64) (w28.cell? ⟨a, 2, none⟩) fun y31 => (e = openE l q ∧ Ext w w28 ∧ (e = 0 → y29 = s ∧ y30 = (hlen l : Int) ∧ y31 = (num l 2 2 : Int))) := by
    intro e W hx he hne
    refine StN_full (ra.ext hx) rfl rfl fun w28 r28 f28 _ => ?_
    simp only [List.getElem?_cons_zero, List.getElem?_cons_succ, LdV_some, dec_slice, dec_int, r28.cell]
    exact ⟨he, (x5.trans hx).new (f28 (· = a) rfl) fun y hy e => by omega, fun h => absurd h hne⟩
  refine byte_at (i := 0) hs4 (by omega) fun a1 hc1 _ => ?_
  have ev : (shrI .u8 (l[0].toNat : Int) 4 != 4) = decide (ver l ≠ 4) := by
    rw [ver_eq (show 0 < l.length by omega)]
    have := shr_u8 (a := l[0].toNat) (k := 4) (by omega)
    rw [show ((4 : Nat) : Int) = 4 from rfl, show (2 : Nat) ^ 4 = 16 by decide] at this
    rw [this]
    generalize l[0].toNat / 16 = q
    by_cases h : q = 4
    · subst h; rfl
    · simp [h]; omega
  simp only [List.getElem?_cons_zero, List.getElem?_cons_succ, LdV_some, dec_slice, dec_int, hc1, r4.cell, ev]
  refine ⟨by omega, ?_⟩
  by_cases v : ver l ≠ 4
  · simp only [v, ne_eq, not_false_eq_true, decide_true, cond_true]
    exact fin 4 w4 (Ext.refl _) (by simp only [openE]; rw [if_neg (by omega), if_pos (.inl v)]) (by omega)
  simp only [v, decide_false, cond_false]
  by_cases h20 : hlen l < 20
  · have h20' : ((hlen l : Int) < 20) := by omega
    simp only [h20', decide_true, cond_true]
    exact fin 4 w4 (Ext.refl _) (by simp only [openE]; rw [if_neg (by omega), if_pos (.inr h20)]) (by omega)
  have h20' : ¬ ((hlen l : Int) < 20) := by omega
  have o1 : openE l q = if l.length < hlen l ∨ (l.length < num l 2 2 ∧ q = false) then 3 else if num l 2 2 < hlen l ∨ 32768 ≤ num l 6 2 then 4 else 0 := by
    simp only [openE]; rw [if_neg (by omega), if_neg (by rintro (h | h); exact v h; omega)]
  simp only [h20', decide_false, cond_false]
  by_cases c3 : l.length < hlen l
  · have c3' : ((hlen l : Int) > (s.len : Int)) := by omega
    simp only [c3', decide_true, cond_true]
    exact fin 3 w4 (Ext.refl _) (by rw [o1, if_pos (.inl c3)]) (by omega)
  have c3' : ¬ ((hlen l : Int) > (s.len : Int)) := by omega
  simp only [c3', decide_false, cond_false]
  by_cases c4 : l.length < num l 2 2 ∧ q = false
  · have c4' : ((num l 2 2 : Int) > (s.len : Int)) := by omega
    simp only [c4', decide_true, c4.2, Bool.not_false, cond_true]
    have := fin 3 w4 (Ext.refl _) (by rw [o1, if_pos (.inr c4)]) (by omega)
    rw [c4.2] at this
    exact this
  have cont : ∀ X Y : Prop, (bif decide ((num l 2 2 : Int) > (s.len : Int)) then (bif !q then X else Y) else Y) = Y := by
    intro X Y
    by_cases c4' : ((num l 2 2 : Int) > (s.len : Int))
    · cases q with
      | true => simp
      | false => exact absurd ⟨by omega, rfl⟩ c4
    · simp only [c4', decide_false, cond_false]
  rw [if_neg (by rintro (h | h); exact c3 h; exact c4 h)] at o1
  simp only [cont]
  by_cases c5 : num l 2 2 < hlen l
  · have c5' : ((num l 2 2 : Int) < (hlen l : Int)) := by omega
    simp only [c5', decide_true, cond_true]
    exact fin 4 w4 (Ext.refl _) (by rw [o1, if_pos (.inl c5)]) (by omega)
  have c5' : ¬ ((num l 2 2 : Int) < (hlen l : Int)) := by omega
  simp only [c5', decide_false, cond_false]
  refine cm_v4_reader_num (num_ok' hs4 hl (by omega) (by omega) _ _) ?_
  rintro _ w5 ⟨rfl, f5⟩
  have n6 := field_num_lt l 6
  have eb : (andI .i64 ((num l (Int.toNat 6) (Int.toNat 2) : Nat) : Int) 32768 != 0) = decide (32768 ≤ num l 6 2) := by
    have := bit_ne (n := num l 6 2) (k := 15) (by omega) (by omega)
    rw [show (((2 ^ 15 : Nat) : Nat) : Int) = 32768 from rfl] at this
    rw [show (Int.toNat 6) = 6 from rfl, show (Int.toNat 2) = 2 from rfl, this]
    by_cases h : 32768 ≤ num l 6 2
    · simp only [h, decide_true, beq_iff_eq]; omega
    · simp only [h, decide_false, beq_eq_false_iff_ne, ne_eq]; omega
  have r5 := r4.ext f5
  simp only [List.getElem?_cons_zero, List.getElem?_cons_succ, LdV_some, dec_slice, dec_int, eb, r5.cell]
  by_cases c6 : 32768 ≤ num l 6 2
  · simp only [c6, decide_true, cond_true]
    exact fin 4 w5 f5 (by rw [o1, if_pos (.inr c6)]) (by omega)
  simp only [c6, decide_false, cond_false]
  refine StN_full (ra.ext f5) rfl rfl fun w28 r28 f28 _ => ?_
  simp only [true_and, List.getElem?_cons_zero, List.getElem?_cons_succ, LdV_some, dec_slice, dec_int, r28.cell]
  exact ⟨by rw [o1, if_neg (by omega)], (x5.trans f5).new (f28 (· = a) rfl) fun y hy e => by omega, fun _ => by trivial⟩

theorem open_zero {l : List UInt8} {q : Bool} (h : openE l q = 0) : 20 ≤ hlen l ∧ hlen l ≤ l.length ∧ hlen l ≤ num l 2 2 ∧ 20 ≤ l.length := by
  unfold openE at h
  split at h
  · omega
  split at h
  · omega
  split at h
  · omega
  split at h
  · omega
  omega

theorem zero_PktR (w : World) : PktR w Pkt.zero 0 0 0 0 0 0 0 false false ⟨none, 0, 0⟩ ⟨none, 0, 0⟩ := ⟨rfl, rfl, rfl, rfl, rfl, rfl, rfl, rfl, rfl, SlB.nil, SlB.nil⟩

theorem field_opts_len {l : List UInt8} : (field l).opts.length ≤ l.length ∧ (field l).data.length ≤ l.length := by
  simp only [field, List.length_drop, List.length_take]; omega

set_option maxRecDepth 100000 in
theorem parse_ok {w : World} {s : SliceV} {l : List UInt8} (hs : SlB w s l) (hl : l.length ≤ 2 ^ 40) :
    c_v4_Parse s w fun t i o l' p s' d df mf op da e w' => e = readE l false ∧ PktR w' (V4.read l false) t i o l' p s' d df mf op da ∧ Ext w w' := by
  apply ok_v4_Parse
  unfold s_v4_Parse
  have hsl := hs.1
  refine Al_e fun a w1 r1 e1 z1 f1 => ?_
  refine cm_v4_open (open_ok (hs.ext f1) (by omega) false) ?_
  rintro b h z e w2 ⟨rfl, f2, h2⟩
  refine Al_f rfl rfl fun c w3 r3 e3 z3 f3 => ?_
  have x3 := f2.trans f3
  have ra := r1.ext x3
  by_cases ho : openE l false = 0
  · obtain ⟨rfl, rfl, rfl⟩ := h2 ho
    have hz := open_zero ho
    simp only [cond_false, Ld_eq, List.getElem?_cons_zero, List.getElem?_cons_succ, LdV_some, dec_int, add_mk, Nat.zero_add, Nat.add_zero, r3.cell, ho, show ((0 : Int) != 0) = false from rfl]
    refine SubSl_bytes ((hs.ext f1).ext x3) (by omega) (by omega) (by omega) fun s4 hs4 _ => ?_
    rw [show (Int.toNat 0) = 0 from rfl, List.drop_zero, Int.toNat_natCast] at hs4
    refine Al_e fun d w4 r4 e4 z4 f4 => ?_
    refine cm_sum_Right (sright_ok (parts_one r4 (hs4.ext f4)) (by simp) (by intro q hq; simp only [List.mem_singleton] at hq; subst hq; simp only [List.length_take]; omega)) ?_
    rintro _ w5 ⟨rfl, f5⟩
    rw [totP_one]
    have x5 := x3.trans (f4.trans f5)
    have hsz5 := x5.size
    by_cases hr : fold (tot (l.take (hlen l))) = 65535
    · simp only [hr, decide_true, Bool.not_true, cond_false]
      have r5 := r3.ext (f4.trans f5)
      simp only [List.getElem?_cons_zero, List.getElem?_cons_succ, LdV_some, dec_slice, dec_int, r5.cell]
      refine cm_v4_reader_packet (packet_ok ((hs.ext f1).ext x5) (by omega) hz.1 hz.2.1 hz.2.2.1) ?_
      rintro _ _ _ _ _ _ _ _ _ op da w6 ⟨⟨rfl, rfl, rfl, rfl, rfl, rfl, rfl, rfl, rfl, hop, hda⟩, no, nd, f6⟩
      have hlo := field_opts_len (l := l)
      have hopl := hop.1
      have hdal := hda.1
      refine Al_f rfl rfl fun g w7 r7 e7 z7 f7 => ?_
      simp only [List.getElem?_cons_zero, List.getElem?_cons_succ, LdV_some, dec_slice, dec_int, dec_bool, add_mk, Nat.zero_add, Nat.add_zero, r7.cell]
      refine cm_v4_Check (check_ok (field l) (o := op) (d := da) hopl hdal (by omega) (by omega)) ?_
      rintro _ w8 ⟨rfl, f8⟩
      have r8 := r7.ext f8
      have x8 : Ext w w8 := ((((f1.trans x5).trans f6).trans f7).trans f8)
      have x8' : Ext w1 w8 := (((x5.trans f6).trans f7).trans f8)
      have rd : readE l false = if (field l).check ≠ 0 then 4 else 0 := by
        unfold readE
        rw [ho, hr]; simp
      by_cases hc : (field l).check = 0
      · simp only [hc, show ((0 : Int) != 0) = false from rfl, cond_false, List.getElem?_cons_zero, List.getElem?_cons_succ, LdV_some, dec_slice, dec_int, dec_bool, r8.cell]
        refine StN_full (r1.ext x8') rfl rfl fun w9 r9 f9 _ => ?_
        simp only [List.getElem?_cons_zero, List.getElem?_cons_succ, LdV_some, dec_slice, dec_int, dec_bool, r9.cell]
        have rd0 : readE l false = 0 := by rw [rd, hc]; simp
        refine ⟨by rw [rd0], ?_, x8.new (f9 (· = a) rfl) fun y hy e => by omega⟩
        unfold V4.read
        rw [if_pos rd0]
        have hsz6 := f6.size
        refine ⟨rfl, rfl, rfl, rfl, rfl, rfl, rfl, rfl, rfl, ?_, ?_⟩
        · exact SlB.fr ((hop.ext f7).ext f8) (f9 (· = a) rfl) fun x hx _ e => by have := no x hx; omega
        · exact SlB.fr ((hda.ext f7).ext f8) (f9 (· = a) rfl) fun x hx _ e => by have := nd x hx; omega
      · have hc' : ((field l).check != 0) = true := by simpa using hc
        simp only [hc', cond_true]
        refine StN_full (r1.ext x8') rfl rfl fun w9 r9 f9 _ => ?_
        simp only [List.getElem?_cons_zero, List.getElem?_cons_succ, LdV_some, dec_slice, dec_int, dec_bool, r9.cell]
        have rd0 : readE l false = 4 := by rw [rd, if_pos hc]
        refine ⟨by rw [rd0], ?_, x8.new (f9 (· = a) rfl) fun y hy e => by omega⟩
        unfold V4.read
        rw [rd0]
        exact zero_PktR _
    · simp only [hr, decide_false, Bool.not_false, cond_true]
      refine StN_full (r1.ext x5) rfl rfl fun w9 r9 f9 _ => ?_
      simp only [List.getElem?_cons_zero, List.getElem?_cons_succ, LdV_some, dec_slice, dec_int, dec_bool, r9.cell]
      have rd0 : readE l false = 5 := by unfold readE; rw [ho]; simp [hr]
      refine ⟨by rw [rd0], ?_, (f1.trans x5).new (f9 (· = a) rfl) fun y hy e => by omega⟩
      unfold V4.read
      rw [rd0]
      exact zero_PktR _
  · have ho' : (openE l false != 0) = true := by simpa using ho
    simp only [ho', cond_true, Ld_eq, add_mk, Nat.zero_add, Nat.add_zero]
    refine StN_full ra rfl rfl fun w9 r9 f9 _ => ?_
    simp only [List.getElem?_cons_zero, List.getElem?_cons_succ, LdV_some, dec_slice, dec_int, dec_bool, r9.cell]
    have rd0 : readE l false = openE l false := by unfold readE; rw [if_pos ho]
    refine ⟨by rw [rd0], ?_, (f1.trans x3).new (f9 (· = a) rfl) fun y hy e => by omega⟩
    unfold V4.read
    rw [rd0, if_neg ho]
    exact zero_PktR _
end Go.Proofs
