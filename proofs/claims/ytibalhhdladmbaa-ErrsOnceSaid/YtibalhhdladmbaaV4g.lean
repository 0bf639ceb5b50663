import Derived.Test.YtibalhhdladmbaaV4f
/- Packets of IPv4, part seven: the document's functions, building and reading. -/
namespace Go.Proofs
open Gp Gp.V4
set_option maxRecDepth 100000

theorem rbuild_ok {w : World} (p : Pkt) {o d : SliceV} (ho : SlB w o p.opts) (hd : SlB w d p.data) (h1 : p.opts.length ≤ 2 ^ 46) (h2 : p.data.length ≤ 2 ^ 46) :
    c_ref05_Build p.tos p.id p.off p.ttl p.proto p.src p.dst p.df p.mf o d w fun r e w' => buildR p w w' r e := by
  apply ok_ref05_Build
  unfold s_ref05_Build
  refine Al_e fun a w1 r1 e1 z1 f1 => ?_
  simp -zeta only [Ld_eq, List.getElem?_cons_zero, List.getElem?_cons_succ, LdV_some, dec_slice, dec_int, dec_bool, add_mk, Nat.zero_add, Nat.add_zero, r1.cell]
  refine cm_ref05_Check (rcheck_ok p (o := o) (d := d) ho.1 hd.1 h1 h2) ?_
  rintro _ w2 ⟨rfl, f2⟩
  have r2 := (r1.ext f2).drew
  by_cases hc : p.check = 0
  · have hc' : (p.check != 0) = false := by rw [hc]; rfl
    simp -zeta only [cond_false, List.getElem?_cons_zero, List.getElem?_cons_succ, LdV_some, dec_slice, dec_int, dec_bool, r2.cell, hc']
    have hsm := (check_zero hc).2.1
    have ol := ho.1
    have dl := hd.1
    have ez : (20 + (o.len : Int) + (d.len : Int)) = ((20 + p.opts.length + p.data.length : Nat) : Int) := by omega
    refine cm_ref05_Size (ref05_size_ok _ _ _ _ _ _ _ _ _ _ _ (show o.len ≤ 2 ^ 60 by omega) (show d.len ≤ 2 ^ 60 by omega) _) ?_
    rintro _ w3 ⟨rfl, f3⟩
    have r3 := r2.ext f3
    simp -zeta only [true_and, List.getElem?_cons_zero, List.getElem?_cons_succ, r3.cell, ez]
    have x3 : Ext w w3 := ((f1.trans f2).trans (Ext.drew _)).trans f3
    refine cm_ref05_head (rhead_ok (s := 0) hc (ho.ext x3) (d := d) hd.1 rfl (by omega)) ?_
    rintro t4 w4 ⟨b4, f4, n4⟩
    refine Al_e fun c w5 r5 e5 _ f5 => ?_
    have l6 : (p.head 0).length = 20 + p.opts.length := head_len p 0
    refine cm_ref02_Of (rof_ok (parts_one r5 (SlB.of_buf (b4.ext f5))) (by simp) (by intro q hq; simp only [List.mem_singleton] at hq; subst hq; simp only; omega)) ?_
    rintro _ w6 ⟨rfl, f6⟩
    rw [totP_one]
    have e8 : 65535 - fold (tot (p.head 0)) = p.sum := rfl
    rw [e8]
    have hsl : p.sum < 65536 := by unfold Pkt.sum; omega
    have x6 : Ext w3 w6.drew := ((f4.trans f5).trans f6).trans (Ext.drew _)
    have r6 := r3.ext x6
    simp -zeta only [List.getElem?_cons_zero, List.getElem?_cons_succ, LdV_some, dec_slice, dec_int, dec_bool, r6.cell]
    refine cm_ref05_Size (ref05_size_ok _ _ _ _ _ _ _ _ _ _ _ (show o.len ≤ 2 ^ 60 by omega) (show d.len ≤ 2 ^ 60 by omega) _) ?_
    rintro _ w7 ⟨rfl, f7⟩
    have r7 := r6.ext f7
    simp -zeta only [true_and, List.getElem?_cons_zero, List.getElem?_cons_succ, r7.cell, ez]
    have x7 := x3.trans (x6.trans f7)
    refine cm_ref05_head (rhead_ok (s := p.sum) hc (ho.ext x7) (d := d) hd.1 rfl hsl) ?_
    rintro t8 w8 ⟨b8, f8, n8⟩
    have r8 := r7.ext f8
    simp -zeta only [true_and, List.getElem?_cons_zero, List.getElem?_cons_succ, r8.cell]
    have l8 : (p.head p.sum).length = 20 + p.opts.length := head_len p _
    have x8 := x7.trans f8
    have z7 := x7.size
    have z8 := x8.size
    refine AppSl_bytes b8 (hd.ext x8) (by omega) fun s9 w9 b9 f9 n9 _ => ?_
    refine ⟨hc.symm, fun h => absurd hc h, fun _ => b9, x8.new f9 fun y hy h => by have := n8 y h; omega, fun y hy => ?_⟩
    rcases n9 y hy with h | h
    · have := n8 y h; omega
    · omega
  · have hc' : (p.check != 0) = true := by simpa using hc
    simp -zeta only [cond_true, hc']
    exact ⟨rfl, fun _ => rfl, fun h => absurd h hc, f1.trans f2, by rintro b ⟨o, h⟩; cases h⟩

theorem rnum_ok {w : World} {s : SliceV} {l : List UInt8} (h : SlB w s l) (hl : l.length ≤ 2 ^ 46) {i k : Int} (hk : 1 ≤ k ∧ k ≤ 4) (hi : 0 ≤ i ∧ i + k ≤ l.length) : c_ref05_num s i k w fun r w' => r = (num l i.toNat k.toNat : Int) ∧ Ext w w' := by
  obtain ⟨m, rfl⟩ : ∃ m : Nat, k = (m : Int) := ⟨k.toNat, by omega⟩
  obtain ⟨o, rfl⟩ : ∃ o : Nat, i = (o : Int) := ⟨i.toNat, by omega⟩
  apply ok_ref05_num
  unfold s_ref05_num
  refine cm_ref01_Get (rget_ok h (by omega) _ _) ?_
  rintro n e w' ⟨hw, hr⟩
  subst hw
  exact ⟨getR_in (by omega) (by omega) hr, Ext.refl _⟩

theorem num_one {l : List UInt8} {i : Nat} (h : i < l.length) : num l i 1 = l[i].toNat := by
  unfold num
  rw [List.drop_eq_getElem_cons h, List.take_succ_cons]
  simp [numBE]

theorem rfields_ok {w : World} {s t : SliceV} {l m : List UInt8} (hs : SlB w s l) (ht : SlB w t m) (hl : l.length ≤ 2 ^ 46) (hm : m.length ≤ 2 ^ 46) (h1 : 20 ≤ hlen l) (h2 : hlen l ≤ l.length) (hm2 : m = (l.take (num l 2 2)).drop (hlen l)) :
    c_ref05_fields s t w fun t i o l' p s' d df mf op da w' => PktR w' (field l) t i o l' p s' d df mf op da ∧ NewS w op ∧ NewS w da ∧ Ext w w' := by
  apply ok_ref05_fields
  unfold s_ref05_fields
  have hsl := hs.1
  refine Al_e fun b w1 r1 e1 z1 f1 => ?_
  refine byte_at (i := 0) (hs.ext f1) (by omega) fun a0 hc0 _ => ?_
  simp -zeta only [Ld_eq, LdV_some, dec_int, add_mk, Nat.zero_add, Nat.add_zero, hc0]
  refine ⟨by omega, ?_⟩
  refine cm_ref05_num (rnum_ok (hs.ext f1) hl (by omega) (by omega)) ?_
  rintro _ w3 ⟨rfl, f3⟩
  have x3 : Ext w w3 := f1.trans f3
  have rb3 := r1.ext f3
  have hs3 := hs.ext x3
  have hsz3 := f3.size
  have hszx := x3.size
  have n6 := field_num_lt l 6
  have hx0 := l[0].toNat_lt
  have e15 : IntKind.i64.wrap ((IntKind.i64.wrap (Int.tmod (l[0].toNat : Int) 16)) * 4) = (hlen l : Int) := by
    rw [hlen_eq (show 0 < l.length by omega), Int.tmod_eq_emod_of_nonneg (by omega), wrap_i64 (n := (l[0].toNat : Int) % 16) (by omega) (by omega), wrap_i64 (by omega) (by omega)]
    omega
  rw [show (Int.toNat 6) = 6 from rfl, show (Int.toNat 2) = 2 from rfl]
  intro J
  have hJ : ∀ c W, Row W c [.int .i64 (num l 1 1 : Int), .int .i64 (num l 4 2 : Int), .int .i64 ((num l 6 2 % 8192 * 8 : Nat) : Int), .int .i64 (num l 8 1 : Int), .int .i64 (num l 9 1 : Int), .int .i64 (num l 12 4 : Int), .int .i64 (num l 16 4 : Int), .bool false, .bool false, .slice none 0 0, .slice none 0 0] → Ext w3 W → w3.heap.size ≤ c → J ⟨c, 0, none⟩ W := by
    intro c W rc hx hc
    simp only [J, add_mk, Nat.zero_add]
    refine ⟨by omega, by omega, by omega, by omega, ?_⟩
    refine St_row rc rfl (by simp) fun w4 r4 f4 z4 => St_row r4 rfl (by simp) fun w5 r5 f5 z5 => ?_
    have x5 : Ext w3 w5 := hx.new ((f4 (· = c) rfl).trans (f5 (· = c) rfl) fun _ _ e => e) fun y hy e => by omega
    simp only [List.set_cons_zero, List.set_cons_succ] at r5
    have hs5 := hs3.ext x5
    have hsz5 := x5.size
    rw [e15]
    refine SubSl_bytes hs5 (by omega) (by omega) (by omega) fun s7 hs7 _ => ?_
    refine AppSl_bytes (l := []) Buf.nil hs7 (by simp; omega) fun o8 w8 b8 f8 n8 _ => ?_
    have y8 : Ext w5 w8 := f8.new fun y hy ⟨o, h⟩ => by cases h
    have n8' : ∀ y, SliceV.at o8 y → w5.heap.size ≤ y := fun y hy => by
      rcases n8 y hy with ⟨o, h⟩ | h
      · cases h
      · exact h
    have x8 := x5.trans y8
    refine AppSl_bytes (l := []) Buf.nil ((ht.ext x3).ext x8) (by simp; omega) fun d9 w9 b9 f9 n9 _ => ?_
    have y9 : Ext w8 w9 := f9.new fun y hy ⟨o, h⟩ => by cases h
    have n9' : ∀ y, SliceV.at d9 y → w8.heap.size ≤ y := fun y hy => by
      rcases n9 y hy with ⟨o, h⟩ | h
      · cases h
      · exact h
    have hcl := r5.lt
    have z8 := y8.size
    have z9 := y9.size
    refine St_row ((r5.ext y8).ext y9) rfl (by simp) fun w10 r10 f10 z10 => St_row r10 rfl (by simp) fun w11 r11 f11 z11 => ?_
    have f1011 : Fr8 w9 w11 (· = c) := (f10 (· = c) rfl).trans (f11 (· = c) rfl) fun _ _ e => e
    have x11 : Ext w3 w11 := (x8.trans y9).new f1011 fun y hy e => by omega
    simp only [List.set_cons_zero, List.set_cons_succ] at r11
    simp only [List.getElem?_cons_zero, List.getElem?_cons_succ, LdV_some, dec_slice, dec_int, dec_bool, r11.cell]
    have rb11 := rb3.ext x11
    have hb3 := rb3.lt
    refine StN_full rb11 rfl rfl fun w13 r13 f13 z13 => ?_
    simp only [List.getElem?_cons_zero, List.getElem?_cons_succ, LdV_some, dec_slice, dec_int, dec_bool, r13.cell]
    have bit : ∀ k : Nat, 0 < k → k ≤ 16384 → (Int.tmod (IntKind.i64.wrap (Int.tdiv (num l 6 2 : Int) (k : Int))) 2 == 1) = (num l 6 2 / k % 2 == 1) := by
      intro k hk hk2
      rw [Int.tdiv_eq_ediv_of_nonneg (by omega), ← Int.natCast_ediv]
      have := Nat.div_le_self (num l 6 2) k
      generalize num l 6 2 / k = q at this
      rw [wrap_i64 (by omega) (by omega), Int.tmod_eq_emod_of_nonneg (by omega), int_beq]
      by_cases h : q % 2 = 1
      · have : ((q : Int) % 2 = 1) := by omega
        simp [h, this]
      · have : ¬ ((q : Int) % 2 = 1) := by omega
        simp [h, this]
    refine ⟨⟨rfl, rfl, rfl, rfl, rfl, rfl, rfl, bit 16384 (by omega) (by omega), bit 8192 (by omega) (by omega), ?_, ?_⟩, fun x hx => by have := n8' _ (b8.at_eq hx); omega, fun x hx => by have := n9' _ (b9.at_eq hx); omega, ?_⟩
    · have b8' : Buf w13 o8 _ := ((b8.ext y9).fr f1011 fun y hy e => by have := n8' y hy; omega).fr (f13 (· = b) rfl) fun y hy e => by
        have := n8' y hy; omega
      rw [List.nil_append, show Int.toNat (hlen l : Int) = hlen l from rfl, show Int.toNat 20 = 20 from rfl] at b8'
      exact SlB.of_buf b8'
    · have b9' : Buf w13 d9 _ := (b9.fr f1011 fun y hy e => by have := n9' y hy; omega).fr (f13 (· = b) rfl) fun y hy e => by
        have := n9' y hy; omega
      rw [List.nil_append, hm2] at b9'
      exact SlB.of_buf b9'
    · exact (x3.trans x11).new (f13 (· = b) rfl) fun y hy e => by omega
  have hs3d := hs3.ext (Ext.drew w3)
  refine byte_at (i := 1) hs3d (by omega) fun a1 hc1 _ => ?_
  simp -zeta only [LdV_some, dec_int, hc1]
  refine ⟨by omega, byte_at (i := 8) hs3d (by omega) fun a8 hc8 _ => ?_⟩
  simp -zeta only [LdV_some, dec_int, hc8]
  refine byte_at (i := 9) hs3d (by omega) fun a9 hc9 _ => ?_
  simp -zeta only [LdV_some, dec_int, hc9]
  have hx := Ext.refl w3.drew
  have l2 : 20 ≤ l.length := by omega
  have hdr : w3.drew.heap.size = w3.heap.size := rfl
  have t1 := l[1].toNat_lt
  have t8 := l[8].toNat_lt
  have t9 := l[9].toNat_lt
  have v1 : IntKind.i64.wrap (l[1].toNat : Int) = (num l 1 1 : Int) := by rw [wrap_i64 (by omega) (by omega), num_one (by omega)]
  have v8 : IntKind.i64.wrap (l[8].toNat : Int) = (num l 8 1 : Int) := by rw [wrap_i64 (by omega) (by omega), num_one (by omega)]
  have v9 : IntKind.i64.wrap (l[9].toNat : Int) = (num l 9 1 : Int) := by rw [wrap_i64 (by omega) (by omega), num_one (by omega)]
  have v6 : IntKind.i64.wrap ((Int.tmod (num l 6 2 : Int) 8192) * 8) = ((num l 6 2 % 8192 * 8 : Nat) : Int) := by
    rw [Int.tmod_eq_emod_of_nonneg (by omega), wrap_i64 (by omega) (by omega)]; omega
  simp -zeta only [v1, v8, v9, v6]
  repeat' (first
    | (with_reducible refine And.intro ?_ ?_)
    | ((with_reducible refine cm_ref05_num (rnum_ok (hs3d.ext hx) hl (by omega) (by omega)) ?_); rintro _ W ⟨rfl, f⟩; replace hx := hx.trans f; (try replace rc := rc.ext f); (try simp -zeta only [true_and, cell_ext hc1 hx, cell_ext hc8 hx, cell_ext hc9 hx]))
    | ((with_reducible refine Al_e fun c W rc ec _ f => ?_); have hc := Nat.le_trans hx.size (Nat.le_of_eq ec.symm); clear ec; replace hx := hx.trans f; (try simp -zeta only [true_and, cell_ext hc1 hx, cell_ext hc8 hx, cell_ext hc9 hx]))
    | ((with_reducible refine StN_full rc rfl rfl fun W rc2 fc zc => ?_); exact hJ _ W rc2 ((Ext.drew w3).trans (hx.new (fc (· = _) rfl) fun y hy e => by omega)) (by omega)))

/-- What is answered with an error. -/
theorem PktR_fail {w : World} {l : List UInt8} {q : Bool} {e : Int} (h : readE l q = e) (he : e ≠ 0) : PktR w (V4.read l q) 0 0 0 0 0 0 0 false false ⟨none, 0, 0⟩ ⟨none, 0, 0⟩ := by
  unfold V4.read
  rw [h, if_neg he]
  exact zero_PktR _

theorem NewS_nil (w : World) : NewS w ⟨none, 0, 0⟩ := fun _ h => by cases h

set_option maxRecDepth 100000 in
theorem rread_ok {w : World} {s : SliceV} {l : List UInt8} (hs : SlB w s l) (hl : l.length ≤ 2 ^ 40) (q : Bool) :
    c_ref05_read s q w fun t i o l' p s' d df mf op da e w' => e = readE l q ∧ PktR w' (V4.read l q) t i o l' p s' d df mf op da ∧ NewS w op ∧ NewS w da ∧ Ext w w' := by
  apply ok_ref05_read
  unfold s_ref05_read
  have hsl := hs.1
  refine Al_e fun a w1 r1 e1 z1 f1 => ?_
  have fin : ∀ (e : Int) W, Ext w1 W → readE l q = e → e ≠ 0 → StN [(Value.int .i64 0), (Value.int .i64 0), (Value.int .i64 0), (Value.int .i64 0), (Value.int .i64 0), (Value.int .i64 0), (Value.int .i64 0), (Value.bool false), (Value.bool false), (Value.slice none 0 0), (Value.slice none 0 0)] W ⟨a, 0, none⟩ 0 fun w28 =>
      LdV (.int .i64) (w28.cell? ⟨a, 0, none⟩) fun y1 => LdV (.int .i64) (w28.cell? ⟨a, 1, none⟩) fun y2 => LdV (.int .i64) (w28.cell? ⟨a, 2, none⟩) fun y3 => LdV (.int .i64) (w28.cell? ⟨a, 3, none⟩) fun y4 => LdV (.int .i64) (w28.cell? ⟨a, 4, none⟩) fun y5 =>
      LdV (.int .i64) (w28.cell? ⟨a, 5, none⟩) fun y6 => LdV (.int .i64) (w28.cell? ⟨a, 6, none⟩) fun y7 => LdV .bool (w28.cell? ⟨a, 7, none⟩) fun y8 => LdV .bool (w28.cell? ⟨a, 8, none⟩) fun y9 => LdV .slice (w28.cell? ⟨a, 9, none⟩) fun y10 => LdV .slice (w28.cell? ⟨a, 10, none⟩) fun y11 =>
      (e = readE l q ∧ PktR w28 (V4.read l q) y1 y2 y3 y4 y5 y6 y7 y8 y9 y10 y11 ∧ NewS w y10 ∧ NewS w y11 ∧ Ext w w28) := by
    intro e W hx he hne
    refine StN_full (r1.ext hx) rfl rfl fun w28 r28 f28 _ => ?_
    simp only [List.getElem?_cons_zero, List.getElem?_cons_succ, LdV_some, dec_slice, dec_int, dec_bool, r28.cell]
    exact ⟨he.symm, PktR_fail he hne, NewS_nil w, NewS_nil w, (f1.trans hx).new (f28 (· = a) rfl) fun y hy e => by omega⟩
  have ropen : ∀ e, openE l q = e → e ≠ 0 → readE l q = e := by
    intro e h he
    unfold readE; rw [h, if_pos he]
  by_cases c1 : l.length < 20
  · have c1' : ((s.len : Int) < 20) := by omega
    simp only [c1', cond_false, cond_true, Ld_eq, add_mk, Nat.zero_add, Nat.add_zero, decide_true]
    exact fin 3 w1 (Ext.refl _) (ropen 3 (by simp [openE, c1]) (by omega)) (by omega)
  have c1' : ¬ ((s.len : Int) < 20) := by omega
  simp only [c1', decide_false, cond_false]
  have hs1 := (hs.ext f1).ext (Ext.drew w1)
  refine byte_at (i := 0) hs1 (by omega) fun a0 hc0 hb0 => ?_
  have hx0 := l[0].toNat_lt
  have e15 : IntKind.i64.wrap ((IntKind.i64.wrap (Int.tmod (l[0].toNat : Int) 16)) * 4) = (hlen l : Int) := by
    rw [hlen_eq (show 0 < l.length by omega), Int.tmod_eq_emod_of_nonneg (by omega), wrap_i64 (n := (l[0].toNat : Int) % 16) (by omega) (by omega), wrap_i64 (by omega) (by omega)]
    omega
  simp only [cond_true, Ld_eq, LdV_some, dec_int, add_mk, Nat.zero_add, Nat.add_zero, hc0, e15]
  refine ⟨by omega, ?_⟩
  refine cm_ref05_num (rnum_ok hs1 (by omega) (by omega) (by omega)) ?_
  rintro _ w2 ⟨rfl, f2⟩
  have x2 : Ext w1 w2 := (Ext.drew w1).trans f2
  simp only [true_and, cell_ext hc0 f2]
  rw [show (Int.toNat 2) = 2 from rfl]
  have hs2 := hs1.ext f2
  refine byte_at (i := 0) hs2 (by omega) fun a1 hc1 _ => ?_
  have ev : (IntKind.u8.wrap (Int.tdiv (l[0].toNat : Int) 16) != 4) = decide (ver l ≠ 4) := by
    rw [ver_eq (show 0 < l.length by omega), Int.tdiv_eq_ediv_of_nonneg (by omega), IntKind.wrap_u8]
    by_cases h : l[0].toNat / 16 = 4
    · have : ((l[0].toNat : Int) / 16 % 256) = 4 := by omega
      rw [this]; simp [h]
    · have : ¬ ((l[0].toNat : Int) / 16 % 256) = 4 := by omega
      simp [h, this]
  simp only [LdV_some, dec_int, hc1, ev]
  refine ⟨by omega, ?_⟩
  by_cases v : ver l ≠ 4
  · simp only [v, ne_eq, not_false_eq_true, decide_true, cond_true]
    exact fin 4 w2 x2 (ropen 4 (by simp only [openE]; rw [if_neg (by omega), if_pos (.inl v)]) (by omega)) (by omega)
  simp only [v, decide_false, cond_false]
  by_cases h20 : hlen l < 20
  · have h20' : ((hlen l : Int) < 20) := by omega
    simp only [h20', decide_true, cond_true]
    exact fin 4 w2 x2 (ropen 4 (by simp only [openE]; rw [if_neg (by omega), if_pos (.inr h20)]) (by omega)) (by omega)
  have h20' : ¬ ((hlen l : Int) < 20) := by omega
  have o1 : openE l q = if l.length < hlen l ∨ (l.length < num l 2 2 ∧ q = false) then 3 else if num l 2 2 < hlen l ∨ 32768 ≤ num l 6 2 then 4 else 0 := by
    simp only [openE]; rw [if_neg (by omega), if_neg (by rintro (h | h); exact v h; omega)]
  simp only [h20', decide_false, cond_false]
  by_cases c3 : l.length < hlen l
  · have c3' : ((hlen l : Int) > (s.len : Int)) := by omega
    simp only [c3', decide_true, cond_true]
    exact fin 3 w2 x2 (ropen 3 (by rw [o1, if_pos (.inl c3)]) (by omega)) (by omega)
  have c3' : ¬ ((hlen l : Int) > (s.len : Int)) := by omega
  simp only [c3', decide_false, cond_false]
  by_cases c4 : l.length < num l 2 2 ∧ q = false
  · have c4' : ((num l 2 2 : Int) > (s.len : Int)) := by omega
    simp only [c4', decide_true, c4.2, Bool.not_false, cond_true]
    have := fin 3 w2 x2 (ropen 3 (by rw [o1, if_pos (.inr c4)]) (by omega)) (by omega)
    rw [c4.2] at this
    exact this
  have cont : ∀ X Y : Prop, (bif !q then (bif decide ((num l 2 2 : Int) > (s.len : Int)) then X else Y) else Y) = Y := by
    intro X Y
    cases q with
    | true => simp
    | false =>
      have c4' : ¬ ((num l 2 2 : Int) > (s.len : Int)) := fun h => c4 ⟨by omega, rfl⟩
      simp only [c4', decide_false, Bool.not_false, cond_false, cond_true]
  rw [if_neg (by rintro (h | h); exact c3 h; exact c4 h)] at o1
  simp only [cont]
  by_cases c5 : num l 2 2 < hlen l
  · have c5' : ((num l 2 2 : Int) < (hlen l : Int)) := by omega
    simp only [c5', decide_true, cond_true]
    exact fin 4 w2 x2 (ropen 4 (by rw [o1, if_pos (.inl c5)]) (by omega)) (by omega)
  have c5' : ¬ ((num l 2 2 : Int) < (hlen l : Int)) := by omega
  simp only [c5', decide_false, cond_false]
  refine cm_ref05_num (rnum_ok hs2 (by omega) (by omega) (by omega)) ?_
  rintro _ w5 ⟨rfl, f5⟩
  rw [show (Int.toNat 6) = 6 from rfl, show (Int.toNat 2) = 2 from rfl]
  have x5 := x2.trans f5
  by_cases c6 : 32768 ≤ num l 6 2
  · have c6' : ((num l 6 2 : Int) ≥ 32768) := by omega
    simp only [c6', decide_true, cond_true]
    exact fin 4 w5 x5 (ropen 4 (by rw [o1, if_pos (.inr c6)]) (by omega)) (by omega)
  have c6' : ¬ ((num l 6 2 : Int) ≥ 32768) := by omega
  simp only [c6', decide_false, cond_false]
  have ho : openE l q = 0 := by rw [o1, if_neg (by omega)]
  have hz := open_zero ho
  have hs5 := hs2.ext f5
  have hmin : (if (s.len : Int) < (num l 2 2 : Int) then (s.len : Int) else (num l 2 2 : Int)) = ((min (num l 2 2) l.length : Nat) : Int) := by
    split <;> omega
  have hlo := field_opts_len (l := l)
  have cut : ∀ W, Ext w5 W → ∀ K : SliceV → Prop, (∀ s', SlB W s' ((l.take (num l 2 2)).drop (hlen l)) → K s') → SubSl s 1 (hlen l : Int) (if (s.len : Int) < (num l 2 2 : Int) then (s.len : Int) else (num l 2 2 : Int)) K := by
    intro W hx K hK
    rw [hmin]
    refine SubSl_bytes (hs5.ext hx) (by omega) (by omega) (by omega) fun s' hs' _ => hK s' ?_
    rw [Int.toNat_natCast, Int.toNat_natCast, Nat.min_comm, ← List.take_take, List.take_of_length_le (l := l.take (num l 2 2)) (by rw [List.length_take]; omega)] at hs'
    exact hs'
  cases q with
  | true =>
    simp only [Bool.not_true, cond_false]
    refine cut w5 (Ext.refl _) _ fun s6 hs6 => ?_
    refine cm_ref05_fields (rfields_ok hs5 hs6 (by omega) (by simp; omega) hz.1 hz.2.1 rfl) ?_
    rintro _ _ _ _ _ _ _ _ _ op da w7 ⟨⟨rfl, rfl, rfl, rfl, rfl, rfl, rfl, rfl, rfl, hop, hda⟩, no, nd, f7⟩
    refine Al_f rfl rfl fun g w8 r8 e8 z8 f8 => ?_
    simp only [List.getElem?_cons_zero, List.getElem?_cons_succ, LdV_some, dec_slice, dec_int, dec_bool, add_mk, Nat.zero_add, Nat.add_zero, r8.cell]
    have x8 : Ext w1 w8 := (x5.trans f7).trans f8
    refine StN_full (r1.ext x8) rfl rfl fun w9 r9 f9 _ => ?_
    simp only [List.getElem?_cons_zero, List.getElem?_cons_succ, LdV_some, dec_slice, dec_int, dec_bool, r9.cell]
    have rd0 : readE l true = 0 := by unfold readE; rw [ho]; simp
    have s1 := f1.size
    have s5 := x5.size
    refine ⟨by rw [rd0], ?_, fun x hx => by have := no x hx; omega, fun x hx => by have := nd x hx; omega, (f1.trans x8).new (f9 (· = a) rfl) fun y hy e => by omega⟩
    unfold V4.read
    rw [if_pos rd0]
    refine ⟨rfl, rfl, rfl, rfl, rfl, rfl, rfl, rfl, rfl, ?_, ?_⟩
    · exact SlB.fr (hop.ext f8) (f9 (· = a) rfl) fun x hx _ e => by have := no x hx; omega
    · exact SlB.fr (hda.ext f8) (f9 (· = a) rfl) fun x hx _ e => by have := nd x hx; omega
  | false =>
    simp only [Bool.not_false, cond_true]
    refine SubSl_bytes hs5 (by omega) (by omega) (by omega) fun s4 hs4 _ => ?_
    rw [show (Int.toNat 0) = 0 from rfl, List.drop_zero, Int.toNat_natCast] at hs4
    refine Al_e fun d w4 r4 e4 z4 f4 => ?_
    refine cm_ref02_Right (rright_ok (parts_one r4 (hs4.ext f4)) (by simp) (by intro q hq; simp only [List.mem_singleton] at hq; subst hq; simp only [List.length_take]; omega)) ?_
    rintro _ w6 ⟨rfl, f6⟩
    rw [totP_one]
    have x6 : Ext w5 w6 := f4.trans f6
    by_cases hr : fold (tot (l.take (hlen l))) = 65535
    · simp only [hr, decide_true, Bool.not_true, cond_false]
      refine cut w6 x6 _ fun s6 hs6 => ?_
      refine cm_ref05_fields (rfields_ok (hs5.ext x6) hs6 (by omega) (by simp; omega) hz.1 hz.2.1 rfl) ?_
      rintro _ _ _ _ _ _ _ _ _ op da w7 ⟨⟨rfl, rfl, rfl, rfl, rfl, rfl, rfl, rfl, rfl, hop, hda⟩, no, nd, f7⟩
      have hopl := hop.1
      have hdal := hda.1
      refine Al_f rfl rfl fun g w8 r8 e8 z8 f8 => ?_
      simp only [List.getElem?_cons_zero, List.getElem?_cons_succ, LdV_some, dec_slice, dec_int, dec_bool, add_mk, Nat.zero_add, Nat.add_zero, r8.cell]
      refine cm_ref05_Check (rcheck_ok (field l) (o := op) (d := da) hopl hdal (by omega) (by omega)) ?_
      rintro _ w9 ⟨rfl, f9⟩
      have r9 := r8.ext f9
      have x9 : Ext w1 w9 := (((x5.trans x6).trans f7).trans f8).trans f9
      have s1 := f1.size
      have s6 := (x5.trans x6).size
      have rd : readE l false = if (field l).check ≠ 0 then 4 else 0 := by
        unfold readE
        rw [ho, hr]; simp
      by_cases hc : (field l).check = 0
      · simp only [hc, show ((0 : Int) != 0) = false from rfl, cond_false, List.getElem?_cons_zero, List.getElem?_cons_succ, LdV_some, dec_slice, dec_int, dec_bool, r9.cell]
        refine StN_full (r1.ext x9) rfl rfl fun w10 r10 f10 _ => ?_
        simp only [List.getElem?_cons_zero, List.getElem?_cons_succ, LdV_some, dec_slice, dec_int, dec_bool, r10.cell]
        have rd0 : readE l false = 0 := by rw [rd, hc]; simp
        refine ⟨by rw [rd0], ?_, fun x hx => by have := no x hx; omega, fun x hx => by have := nd x hx; omega, (f1.trans x9).new (f10 (· = a) rfl) fun y hy e => by omega⟩
        unfold V4.read
        rw [if_pos rd0]
        refine ⟨rfl, rfl, rfl, rfl, rfl, rfl, rfl, rfl, rfl, ?_, ?_⟩
        · exact SlB.fr ((hop.ext f8).ext f9) (f10 (· = a) rfl) fun x hx _ e => by have := no x hx; omega
        · exact SlB.fr ((hda.ext f8).ext f9) (f10 (· = a) rfl) fun x hx _ e => by have := nd x hx; omega
      · have hc' : ((field l).check != 0) = true := by simpa using hc
        simp only [hc', cond_true]
        exact fin 4 w9 x9 (by rw [rd, if_pos hc]) (by omega)
    · simp only [hr, decide_false, Bool.not_false, cond_true]
      exact fin 5 w6 (x5.trans x6) (by unfold readE; rw [ho]; simp [hr]) (by omega)

theorem rparse_ok {w : World} {s : SliceV} {l : List UInt8} (hs : SlB w s l) (hl : l.length ≤ 2 ^ 40) :
    c_ref05_Parse s w fun t i o l' p s' d df mf op da e w' => e = readE l false ∧ PktR w' (V4.read l false) t i o l' p s' d df mf op da ∧ Ext w w' := by
  apply ok_ref05_Parse
  unfold s_ref05_Parse
  refine Al_e fun a w1 r1 e1 z1 f1 => ?_
  refine cm_ref05_read (rread_ok (hs.ext f1) hl false) ?_
  rintro _ _ _ _ _ _ _ _ _ op da e w2 ⟨rfl, ⟨rfl, rfl, rfl, rfl, rfl, rfl, rfl, rfl, rfl, hop, hda⟩, no, nd, f2⟩
  refine StN_full (r1.ext f2) rfl rfl fun w9 r9 f9 _ => ?_
  simp only [Ld_eq, List.getElem?_cons_zero, List.getElem?_cons_succ, LdV_some, dec_slice, dec_int, dec_bool, add_mk, Nat.zero_add, Nat.add_zero, r9.cell]
  refine ⟨by trivial, ⟨rfl, rfl, rfl, rfl, rfl, rfl, rfl, rfl, rfl, ?_, ?_⟩, (f1.trans f2).new (f9 (· = a) rfl) fun y hy e => by omega⟩
  · exact SlB.fr hop (f9 (· = a) rfl) fun x hx _ e => by have := no x hx; omega
  · exact SlB.fr hda (f9 (· = a) rfl) fun x hx _ e => by have := nd x hx; omega

theorem rquoted_ok {w : World} {s : SliceV} {l : List UInt8} (hs : SlB w s l) (hl : l.length ≤ 2 ^ 40) :
    c_ref05_Quoted s w fun t i o l' p s' d df mf op da e w' => e = readE l true ∧ PktR w' (V4.read l true) t i o l' p s' d df mf op da ∧ Ext w w' := by
  apply ok_ref05_Quoted
  unfold s_ref05_Quoted
  refine Al_e fun a w1 r1 e1 z1 f1 => ?_
  refine cm_ref05_read (rread_ok (hs.ext f1) hl true) ?_
  rintro _ _ _ _ _ _ _ _ _ op da e w2 ⟨rfl, ⟨rfl, rfl, rfl, rfl, rfl, rfl, rfl, rfl, rfl, hop, hda⟩, no, nd, f2⟩
  refine StN_full (r1.ext f2) rfl rfl fun w9 r9 f9 _ => ?_
  simp only [Ld_eq, List.getElem?_cons_zero, List.getElem?_cons_succ, LdV_some, dec_slice, dec_int, dec_bool, add_mk, Nat.zero_add, Nat.add_zero, r9.cell]
  refine ⟨by trivial, ⟨rfl, rfl, rfl, rfl, rfl, rfl, rfl, rfl, rfl, ?_, ?_⟩, (f1.trans f2).new (f9 (· = a) rfl) fun y hy e => by omega⟩
  · exact SlB.fr hop (f9 (· = a) rfl) fun x hx _ e => by have := no x hx; omega
  · exact SlB.fr hda (f9 (· = a) rfl) fun x hx _ e => by have := nd x hx; omega

theorem strEq_list (l m : List UInt8) : strEq ⟨⟨l⟩⟩ ⟨⟨m⟩⟩ = decide (l = m) := by
  unfold strEq
  rw [ByteArray.toList_eq, ByteArray.toList_eq]
  show (l == m) = decide (l = m)
  by_cases h : l = m <;> simp [h]

theorem rsame_ok {w : World} (p q : Pkt) {o d o' d' : SliceV} (ho : SlB w o p.opts) (hd : SlB w d p.data) (ho' : SlB w o' q.opts) (hd' : SlB w d' q.data) :
    c_ref05_Same p.tos p.id p.off p.ttl p.proto p.src p.dst p.df p.mf o d q.tos q.id q.off q.ttl q.proto q.src q.dst q.df q.mf o' d' w fun r w' => r = decide (p = q) ∧ Ext w w' := by
  apply ok_ref05_Same
  unfold s_ref05_Same
  refine Al_e fun a w1 r1 e1 z1 f1 => Al_e fun b w2 r2 e2 z2 f2 => ?_
  have ra := r1.ext f2
  have x2 := f1.trans f2
  by_cases c1 : p.tos = q.tos
  · simp only [cond_false, cond_true, Ld_eq, List.getElem?_cons_zero, List.getElem?_cons_succ, LdV_some, dec_slice, dec_int, dec_bool, add_mk, Nat.zero_add, ra.cell, r2.cell, int_beq, bool_beq, c1, decide_true]
    by_cases c2 : p.id = q.id
    · simp only [c2, decide_true, cond_true]
      by_cases c3 : p.off = q.off
      · simp only [c3, decide_true, cond_true]
        by_cases c4 : p.ttl = q.ttl
        · simp only [c4, decide_true, cond_true]
          by_cases c5 : p.proto = q.proto
          · simp only [c5, decide_true, cond_true]
            by_cases c6 : p.src = q.src
            · simp only [c6, decide_true, cond_true]
              by_cases c7 : p.dst = q.dst
              · simp only [c7, decide_true, cond_true]
                by_cases c8 : p.df = q.df
                · simp only [c8, decide_true, cond_true]
                  by_cases c9 : p.mf = q.mf
                  · simp only [c9, decide_true, cond_true]
                    refine bytesStr_of (ho.ext x2) (bytesStr_of (ho'.ext x2) ?_)
                    simp only [strEq_list]
                    by_cases c10 : p.opts = q.opts
                    · simp only [c10, decide_true, cond_true]
                      refine bytesStr_of (hd.ext x2) (bytesStr_of (hd'.ext x2) ?_)
                      simp only [strEq_list]
                      refine ⟨decide_eq_decide.2 ⟨fun c11 => ?_, fun h => by rw [h]⟩, x2⟩
                      cases p; cases q
                      simp only at c1 c2 c3 c4 c5 c6 c7 c8 c9 c10 c11
                      simp only [Pkt.mk.injEq]
                      exact ⟨c1, c2, c3, c4, c5, c6, c7, c8, c9, c10, c11⟩
                    · simp only [c10, decide_false, cond_false]
                      exact ⟨(decide_eq_false fun h => c10 (by rw [h])).symm, x2⟩
                  · simp only [c9, decide_false, cond_false]
                    exact ⟨(decide_eq_false fun h => c9 (by rw [h])).symm, x2⟩
                · simp only [c8, decide_false, cond_false]
                  exact ⟨(decide_eq_false fun h => c8 (by rw [h])).symm, x2⟩
              · simp only [c7, decide_false, cond_false]
                exact ⟨(decide_eq_false fun h => c7 (by rw [h])).symm, x2⟩
            · simp only [c6, decide_false, cond_false]
              exact ⟨(decide_eq_false fun h => c6 (by rw [h])).symm, x2⟩
          · simp only [c5, decide_false, cond_false]
            exact ⟨(decide_eq_false fun h => c5 (by rw [h])).symm, x2⟩
        · simp only [c4, decide_false, cond_false]
          exact ⟨(decide_eq_false fun h => c4 (by rw [h])).symm, x2⟩
      · simp only [c3, decide_false, cond_false]
        exact ⟨(decide_eq_false fun h => c3 (by rw [h])).symm, x2⟩
    · simp only [c2, decide_false, cond_false]
      exact ⟨(decide_eq_false fun h => c2 (by rw [h])).symm, x2⟩
  · simp only [cond_false, Ld_eq, List.getElem?_cons_zero, List.getElem?_cons_succ, LdV_some, dec_slice, dec_int, dec_bool, add_mk, Nat.zero_add, ra.cell, r2.cell, int_beq, c1, decide_false]
    exact ⟨(decide_eq_false fun h => c1 (by rw [h])).symm, x2⟩
end Go.Proofs
