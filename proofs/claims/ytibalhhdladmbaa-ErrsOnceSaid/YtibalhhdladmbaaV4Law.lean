import Derived.Test.YtibalhhdladmbaaV4g
/- The laws of packets of IPv4. -/
namespace Go.Proofs
open Gp Gp.V4
set_option maxRecDepth 100000

def wakePkt : Pkt := ⟨0, 0, 0, 9, 17, 167772161, 3221225985, false, false, [], [7]⟩

theorem wake_check : wakePkt.check = 0 := by decide +kernel
theorem wake_len : wakePkt.bytes.length = 21 := by rw [Pkt.bytes, List.length_append, head_len]; rfl
theorem wake_first : wakePkt.bytes[0]? = some 69 := by
  unfold Pkt.bytes
  rw [head_eq]
  simp only [List.cons_append, List.getElem?_cons_zero]
  rfl

theorem awake05_ok (w : World) : c_law05_awake w fun r w' => r = true ∧ Ext w w' := by
  apply ok_law05_awake
  unfold s_law05_awake
  refine Al_e fun a w1 r1 e1 z1 f1 => ?_
  have hd : SlB w1 ⟨some ⟨a, 0, none⟩, 1, 1⟩ wakePkt.data := SlB.of_buf (SlB.row (l := [7]) (by simpa [bytesV] using r1))
  refine cm_v4_Build (build_ok wakePkt (o := ⟨none, 0, 0⟩) SlB.nil hd (by decide) (by decide)) ?_
  rintro r3 e3 w2 ⟨rfl, _, hb, f2, n2⟩
  have hb := SlB.of_buf (hb wake_check)
  have rb := read_build wake_check []
  rw [List.append_nil] at rb
  have rd : V4.read wakePkt.bytes false = wakePkt := by
    unfold V4.read
    rw [if_pos rb.1]; exact rb.2.1
  refine cm_v4_Parse (parse_ok hb (by rw [wake_len]; decide)) ?_
  rw [rd, rb.1]
  rintro _ _ _ _ _ _ _ _ _ op da _ w3 ⟨rfl, ⟨rfl, rfl, rfl, rfl, rfl, rfl, rfl, rfl, rfl, hop, hda⟩, f3⟩
  refine Al_f rfl rfl fun c w4 r4 e4 z4 f4 => ?_
  have hb4 := (hb.ext f3).ext f4
  have hl := hb4.1
  rw [wake_len] at hl
  rw [wake_check, hl]
  simp only [show ((0 : Int) == 0) = true from rfl, show (((21 : Nat) : Int) == 21) = true from rfl, cond_true]
  have h0 : 0 < wakePkt.bytes.length := by rw [wake_len]; decide
  refine byte_at (i := 0) hb4 h0 fun a5 h5 _ => ?_
  have e69 : wakePkt.bytes[0] = 69 := by
    have := wake_first
    rw [List.getElem?_eq_getElem h0] at this
    simpa using this
  rw [e69] at h5
  have e69' : (((69 : UInt8).toNat : Int) == 69) = true := rfl
  have e9 : (wakePkt.ttl == 9) = true := rfl
  simp only [cond_true, Ld_eq, List.getElem?_cons_zero, List.getElem?_cons_succ, LdV_some, dec_slice, dec_int, dec_bool, add_mk, Nat.zero_add, Nat.add_zero, h5, e69', r4.cell, e9]
  have hop' := hop.1
  have hda' := hda.1
  refine cm_v4_Size (v4_size _ _ _ _ _ _ _ _ _ _ _ (show op.len ≤ 2 ^ 60 by rw [hop']; decide) (show da.len ≤ 2 ^ 60 by rw [hda']; decide) _) ?_
  rintro _ w6 ⟨rfl, f6⟩
  have es : ((20 + (op.len : Int) + (da.len : Int)) == 21) = true := by rw [hop', hda']; rfl
  have r6 := r4.ext f6
  simp only [es, cond_true, List.getElem?_cons_zero, List.getElem?_cons_succ, LdV_some, dec_slice, dec_int, dec_bool, r6.cell]
  refine cm_v4_Whole (v4_whole _ _ _ _ _ _ _ _ _ _ _ _) ?_
  rintro _ w7 ⟨rfl, f7⟩
  exact ⟨rfl, ((((f1.trans f2).trans f3).trans f4).trans f6).trans f7⟩

theorem far_ok (a0 a1 a2 a3 a4 a5 a6 : Int) (a7 a8 : Bool) (o d : SliceV) (w : World) : c_law05_far a0 a1 a2 a3 a4 a5 a6 a7 a8 o d w fun r w' => r = decide (d.len > 3000 ∨ o.len > 200) ∧ Ext w w' := by
  apply ok_law05_far
  unfold s_law05_far
  refine Al_e fun a w1 r1 e1 z1 f1 => ?_
  simp only [Ld_eq, List.getElem?_cons_zero, List.getElem?_cons_succ, LdV_some, dec_slice, add_mk, Nat.zero_add, r1.cell]
  by_cases c1 : d.len > 3000
  · have : ((d.len : Int) > 3000) := by omega
    simp only [this, decide_true, cond_true]
    exact ⟨(decide_eq_true (.inl c1)).symm, f1⟩
  · have : ¬ ((d.len : Int) > 3000) := by omega
    simp only [this, decide_false, cond_false]
    exact ⟨decide_eq_decide.2 ⟨fun h => .inr (by omega), fun h => by omega⟩, f1⟩

set_option maxRecDepth 100000 in
theorem again_ok {w : World} {s : SliceV} {l : List UInt8} (hs : SlB w s l) : c_law05_V4Again s w fun r w' => r = true ∧ Ext w w' := by
  apply ok_law05_V4Again
  unfold s_law05_V4Again
  have hsl := hs.1
  by_cases c1 : l.length > 3000
  · have : ((s.len : Int) > 3000) := by omega
    simp only [this, decide_true, cond_true]
    exact awake05_ok w
  have : ¬ ((s.len : Int) > 3000) := by omega
  simp only [this, decide_false, cond_false]
  refine cm_v4_Parse (parse_ok hs (by omega)) ?_
  rintro _ _ _ _ _ _ _ _ _ op da _ w1 ⟨rfl, ⟨rfl, rfl, rfl, rfl, rfl, rfl, rfl, rfl, rfl, hop, hda⟩, f1⟩
  refine Al_f rfl rfl fun c w2 r2 e2 z2 f2 => ?_
  by_cases c2 : readE l false = 0
  · simp only [c2, show ((0 : Int) != 0) = false from rfl, cond_false, cond_true, Ld_eq, List.getElem?_cons_zero, List.getElem?_cons_succ, LdV_some, dec_slice, dec_int, dec_bool, add_mk, Nat.zero_add, Nat.add_zero, r2.cell]
    obtain ⟨b1, b2, b3, b4, b5⟩ := build_read c2
    have rd : V4.read l false = field l := by unfold V4.read; rw [if_pos c2]
    rw [rd] at hop hda ⊢
    have hlo := field_opts_len (l := l)
    refine cm_v4_Build (build_ok (field l) (hop.ext f2) (hda.ext f2) (by omega) (by omega)) ?_
    rintro r e w3 ⟨rfl, _, hb, f3, n3⟩
    have hb := hb b1
    have hbl := hb.1
    rw [bytesV_len] at hbl
    have c3 : ¬ ((r.len : Int) > (s.len : Int)) := by omega
    have c4 : ¬ ((r.len : Int) < 20) := by omega
    simp only [b1, show ((0 : Int) != 0) = false from rfl, c3, c4, decide_false, cond_false]
    have x3 : Ext w w3 := (f1.trans f2).trans f3
    have hr := SlB.of_buf hb
    refine SubSl_bytes hr (by omega) (by omega) (by omega) fun s4 hs4 _ => SubSl_bytes (hs.ext x3) (by omega) (by omega) (by omega) fun s5 hs5 _ => ?_
    simp only [show (Int.toNat 0) = 0 from rfl, show (Int.toNat 10) = 10 from rfl, List.drop_zero] at hs4 hs5
    refine cm_bytes_Equal (equal_ok (hs4.ext (Ext.drew _)) (hs5.ext (Ext.drew _))) ?_
    rintro _ w6 ⟨rfl, rfl⟩
    simp only [b4, decide_true, cond_true]
    refine SubSl_bytes hr (by omega) (by omega) (by omega) fun s6 hs6 _ => SubSl_bytes (hs.ext x3) (by omega) (by omega) (by omega) fun s7 hs7 _ => ?_
    simp only [show (Int.toNat 12) = 12 from rfl, Int.toNat_natCast, hbl] at hs6 hs7
    rw [List.take_of_length_le (l := (field l).bytes) (by omega)] at hs6
    refine cm_bytes_Equal (equal_ok (hs6.ext (Ext.drew _)) (hs7.ext (Ext.drew _))) ?_
    rintro _ w8 ⟨rfl, rfl⟩
    simp only [b5, decide_true, cond_true]
    refine cm_law05_awake (awake05_ok _) ?_
    rintro _ w9 ⟨rfl, f9⟩
    exact ⟨by trivial, (x3.trans (Ext.drew _)).trans f9⟩
  · have c2' : (readE l false != 0) = true := by simpa using c2
    simp only [c2', cond_true]
    refine cm_law05_awake (awake05_ok _) ?_
    rintro _ w9 ⟨rfl, f9⟩
    exact ⟨by trivial, (f1.trans f2).trans f9⟩

set_option maxRecDepth 100000 in
theorem parses_ok {w : World} {s : SliceV} {l : List UInt8} (hs : SlB w s l) : c_law05_V4Parses s w fun r w' => r = true ∧ Ext w w' := by
  apply ok_law05_V4Parses
  unfold s_law05_V4Parses
  have hsl := hs.1
  by_cases c1 : l.length > 3000
  · have : ((s.len : Int) > 3000) := by omega
    simp only [this, decide_true, cond_true]
    exact awake05_ok w
  have : ¬ ((s.len : Int) > 3000) := by omega
  simp only [this, decide_false, cond_false]
  refine cm_v4_Parse (parse_ok hs (by omega)) ?_
  rintro _ _ _ _ _ _ _ _ _ op da _ w1 ⟨rfl, ⟨rfl, rfl, rfl, rfl, rfl, rfl, rfl, rfl, rfl, hop, hda⟩, f1⟩
  refine Al_f rfl rfl fun c w2 r2 e2 z2 f2 => ?_
  have x2 := f1.trans f2
  refine cm_ref05_Parse (rparse_ok (hs.ext x2) (by omega)) ?_
  rintro _ _ _ _ _ _ _ _ _ op3 da3 _ w3 ⟨rfl, ⟨rfl, rfl, rfl, rfl, rfl, rfl, rfl, rfl, rfl, hop3, hda3⟩, f3⟩
  refine Al_f rfl rfl fun c4 w4 r4 e4 z4 f4 => ?_
  have x4 := x2.trans (f3.trans f4)
  refine cm_v4_Quoted (quoted_ok (hs.ext x4) (by omega)) ?_
  rintro _ _ _ _ _ _ _ _ _ op5 da5 _ w5 ⟨rfl, ⟨rfl, rfl, rfl, rfl, rfl, rfl, rfl, rfl, rfl, hop5, hda5⟩, f5⟩
  refine Al_f rfl rfl fun c6 w6 r6 e6 z6 f6 => ?_
  have x6 := x4.trans (f5.trans f6)
  refine cm_ref05_Quoted (rquoted_ok (hs.ext x6) (by omega)) ?_
  rintro _ _ _ _ _ _ _ _ _ op7 da7 _ w7 ⟨rfl, ⟨rfl, rfl, rfl, rfl, rfl, rfl, rfl, rfl, rfl, hop7, hda7⟩, f7⟩
  refine Al_f rfl rfl fun c8 w8 r8 e8 z8 f8 => ?_
  have y78 := f7.trans f8
  have y58 := f5.trans (f6.trans y78)
  have y38 := f3.trans (f4.trans y58)
  simp only [cond_true, Ld_eq, List.getElem?_cons_zero, List.getElem?_cons_succ, LdV_some, dec_slice, dec_int, dec_bool, add_mk, Nat.zero_add, Nat.add_zero, int_beq, decide_true, (r2.ext y38).cell, (r4.ext y58).cell]
  refine cm_ref05_Same (rsame_ok (V4.read l false) (V4.read l false) (hop.ext (f2.trans y38)) (hda.ext (f2.trans y38)) (hop3.ext (f4.trans y58)) (hda3.ext (f4.trans y58))) ?_
  rintro _ w9 ⟨rfl, f9⟩
  simp only [decide_true, cond_true, cond_true, List.getElem?_cons_zero, List.getElem?_cons_succ, LdV_some, dec_slice, dec_int, dec_bool, (r6.ext (y78.trans f9)).cell, (r8.ext f9).cell]
  refine cm_ref05_Same (rsame_ok (V4.read l true) (V4.read l true) (hop5.ext (f6.trans (y78.trans f9))) (hda5.ext (f6.trans (y78.trans f9))) (hop7.ext (f8.trans f9)) (hda7.ext (f8.trans f9))) ?_
  rintro _ w10 ⟨rfl, f10⟩
  simp only [decide_true, cond_true]
  refine cm_law05_awake (awake05_ok _) ?_
  rintro _ w11 ⟨rfl, f11⟩
  exact ⟨by trivial, (((x6.trans y78).trans f9).trans f10).trans f11⟩

set_option maxRecDepth 100000 in
theorem builds_ok {w : World} (p q : Pkt) {o d o' d' : SliceV} (ho : SlB w o p.opts) (hd : SlB w d p.data) (ho' : SlB w o' q.opts) (hd' : SlB w d' q.data) :
    c_law05_V4Builds p.tos p.id p.off p.ttl p.proto p.src p.dst p.df p.mf o d q.tos q.id q.off q.ttl q.proto q.src q.dst q.df q.mf o' d' w fun r w' => r = true ∧ Ext w w' := by
  apply ok_law05_V4Builds
  unfold s_law05_V4Builds
  refine Al_e fun a w1 r1 e1 z1 f1 => Al_e fun b w2 r2 e2 z2 f2 => ?_
  have ra := r1.ext f2
  have x2 := f1.trans f2
  have ol := ho.1
  have dl := hd.1
  intro J7
  have h7 : ∀ c W, Ext w2 W → (c = false → (p.data.length ≤ 3000 ∧ p.opts.length ≤ 200)) → J7 c W := by
    intro c W hx hc
    simp only [J7]
    cases c with
    | true =>
      simp only [cond_true]
      refine cm_law05_awake (awake05_ok _) ?_
      rintro _ w9 ⟨rfl, f9⟩
      exact ⟨by trivial, (x2.trans hx).trans f9⟩
    | false =>
      obtain ⟨c1, c2⟩ := hc rfl
      have raW := ra.ext hx
      have rbW := r2.ext hx
      have xW := x2.trans hx
      simp only [cond_false, Ld_eq, List.getElem?_cons_zero, List.getElem?_cons_succ, LdV_some, dec_slice, dec_int, dec_bool, add_mk, Nat.zero_add, Nat.add_zero, raW.cell]
      refine cm_v4_Build (build_ok p (o := o) (d := d) (ho.ext xW) (hd.ext xW) (by omega) (by omega)) ?_
      rintro r3 _ w3 ⟨rfl, n3, b3, f3, _⟩
      simp only [List.getElem?_cons_zero, List.getElem?_cons_succ, LdV_some, dec_slice, dec_int, dec_bool, (raW.ext f3).cell]
      refine cm_ref05_Build (rbuild_ok p (o := o) (d := d) ((ho.ext xW).ext f3) ((hd.ext xW).ext f3) (by omega) (by omega)) ?_
      rintro r4 _ w4 ⟨rfl, n4, b4, f4, _⟩
      have y4 := (f3.trans f4).trans (Ext.drew _)
      have ra4 := raW.ext y4
      have h1 : o.len ≤ 2 ^ 60 := by omega
      have h2 : d.len ≤ 2 ^ 60 := by omega
      simp only [List.getElem?_cons_zero, List.getElem?_cons_succ, LdV_some, dec_slice, dec_int, dec_bool, ra4.cell]
      refine cm_v4_Head (v4_head _ _ _ _ _ _ _ _ _ _ _ h1 _) ?_
      rintro _ w5 ⟨rfl, f5⟩
      simp only [true_and, List.getElem?_cons_zero, List.getElem?_cons_succ, (ra4.ext f5).cell]
      refine cm_ref05_Head (ref05_head_ok _ _ _ _ _ _ _ _ _ _ _ h1 _) ?_
      rintro _ w6 ⟨rfl, f6⟩
      have y6 := y4.trans (f5.trans f6)
      simp only [cond_true, List.getElem?_cons_zero, List.getElem?_cons_succ, LdV_some, dec_slice, dec_int, dec_bool, (raW.ext y6).cell, int_beq, decide_true]
      refine cm_v4_Size (v4_size _ _ _ _ _ _ _ _ _ _ _ h1 h2 _) ?_
      rintro _ w7 ⟨rfl, f7⟩
      simp only [true_and, List.getElem?_cons_zero, List.getElem?_cons_succ, (raW.ext (y6.trans f7)).cell]
      refine cm_ref05_Size (ref05_size_ok _ _ _ _ _ _ _ _ _ _ _ h1 h2 _) ?_
      rintro _ w8 ⟨rfl, f8⟩
      have y8 := y6.trans (f7.trans f8)
      simp only [cond_true, List.getElem?_cons_zero, List.getElem?_cons_succ, LdV_some, dec_slice, dec_int, dec_bool, (raW.ext y8).cell, decide_true]
      refine cm_v4_Whole (v4_whole _ _ _ _ _ _ _ _ _ _ _ _) ?_
      rintro _ w9 ⟨rfl, f9⟩
      simp only [true_and, List.getElem?_cons_zero, List.getElem?_cons_succ, (raW.ext (y8.trans f9)).cell]
      refine cm_ref05_Whole (ref05_whole _ _ _ _ _ _ _ _ _ _ _ _) ?_
      rintro _ w10 ⟨rfl, f10⟩
      have y10 := (y8.trans (f9.trans f10)).trans (Ext.drew _)
      simp only [bool_beq, decide_true, cond_true]
      have hl3 : ∃ m, SlB w10.drew r3 m ∧ SlB w10.drew r4 m := by
        have z3 : Ext w3 w10.drew := (f4.trans (Ext.drew _)).trans ((f5.trans f6).trans ((f7.trans f8).trans ((f9.trans f10).trans (Ext.drew _))))
        have z4 : Ext w4 w10.drew := (Ext.drew _).trans ((f5.trans f6).trans ((f7.trans f8).trans ((f9.trans f10).trans (Ext.drew _))))
        by_cases hc : p.check = 0
        · exact ⟨_, (SlB.of_buf (b3 hc)).ext z3, (SlB.of_buf (b4 hc)).ext z4⟩
        · rw [n3 hc, n4 hc]
          exact ⟨[], SlB.nil, SlB.nil⟩
      obtain ⟨m, m3, m4⟩ := hl3
      refine cm_bytes_Equal (equal_ok m3 m4) ?_
      rintro _ w11 ⟨rfl, h11⟩
      subst h11
      simp only [decide_true, cond_true, List.getElem?_cons_zero, List.getElem?_cons_succ, LdV_some, dec_slice, dec_int, dec_bool, (raW.ext y10).cell]
      refine cm_v4_Check (check_ok p (o := o) (d := d) ho.1 hd.1 (by omega) (by omega)) ?_
      rintro _ w12 ⟨rfl, f12⟩
      simp only [true_and, List.getElem?_cons_zero, List.getElem?_cons_succ, (raW.ext (y10.trans f12)).cell]
      refine cm_ref05_Check (rcheck_ok p (o := o) (d := d) ho.1 hd.1 (by omega) (by omega)) ?_
      rintro _ w13 ⟨rfl, f13⟩
      have y13 := y10.trans (f12.trans f13)
      have x13 := xW.trans y13
      simp only [decide_true, cond_true, List.getElem?_cons_zero, List.getElem?_cons_succ, LdV_some, dec_slice, dec_int, dec_bool, (raW.ext y13).cell, (rbW.ext y13).cell]
      refine cm_v4_Same (same_ok p q (o := o) (d := d) (o' := o') (d' := d') (ho.ext x13) (hd.ext x13) (ho'.ext x13) (hd'.ext x13)) ?_
      rintro _ w14 ⟨rfl, f14⟩
      simp only [true_and, List.getElem?_cons_zero, List.getElem?_cons_succ, (raW.ext (y13.trans f14)).cell, (rbW.ext (y13.trans f14)).cell]
      have x14 := x13.trans f14
      refine cm_ref05_Same (rsame_ok p q (o := o) (d := d) (o' := o') (d' := d') (ho.ext x14) (hd.ext x14) (ho'.ext x14) (hd'.ext x14)) ?_
      rintro _ w15 ⟨rfl, f15⟩
      simp only [decide_true, cond_true]
      refine cm_law05_awake (awake05_ok _) ?_
      rintro _ w16 ⟨rfl, f16⟩
      exact ⟨by trivial, (x14.trans f15).trans f16⟩
  simp only [Ld_eq, List.getElem?_cons_zero, List.getElem?_cons_succ, LdV_some, dec_slice, dec_int, dec_bool, add_mk, Nat.zero_add, Nat.add_zero, ra.cell]
  refine cm_law05_far (far_ok _ _ _ _ _ _ _ _ _ _ _ _) ?_
  rintro _ w3 ⟨rfl, f3⟩
  by_cases c1 : d.len > 3000 ∨ o.len > 200
  · have : decide (({ a := d.a, len := d.len, cap := d.cap } : SliceV).len > 3000 ∨ ({ a := o.a, len := o.len, cap := o.cap } : SliceV).len > 200) = true := decide_eq_true c1
    simp only [this, cond_true]
    exact h7 _ _ f3 (by simp)
  · have : decide (({ a := d.a, len := d.len, cap := d.cap } : SliceV).len > 3000 ∨ ({ a := o.a, len := o.len, cap := o.cap } : SliceV).len > 200) = false := decide_eq_false c1
    simp only [this, cond_false, List.getElem?_cons_zero, List.getElem?_cons_succ, LdV_some, dec_slice, dec_int, dec_bool, (r2.ext f3).cell]
    refine cm_law05_far (far_ok _ _ _ _ _ _ _ _ _ _ _ _) ?_
    rintro _ w4 ⟨rfl, f4⟩
    exact h7 _ _ (f3.trans f4) fun _ => by omega

theorem bclone_ok {w : World} {x : SliceV} {m : List UInt8} (hx : SlB w x m) (hl : m.length ≤ 2 ^ 46) :
    c_bytes_Clone x w fun r w' => Buf w' r (bytesV m) ∧ (r.a = none ↔ x.a = none) ∧ Ext w w' ∧ ∀ b, SliceV.at r b → w.heap.size ≤ b := by
  apply ok_bytes_Clone
  unfold s_bytes_Clone
  exact clone_aux (K := fun r w' => Buf w' r (bytesV m) ∧ (r.a = none ↔ x.a = none) ∧ Ext w w' ∧ ∀ b, SliceV.at r b → w.heap.size ≤ b) hx hl fun r w' h1 h2 h3 h4 => ⟨h1, h2, h3, h4⟩

set_option maxRecDepth 100000 in
theorem back_ok {w : World} (p : Pkt) {o d t : SliceV} {m : List UInt8} (ho : SlB w o p.opts) (hd : SlB w d p.data) (ht : SlB w t m) :
    c_law05_V4Back p.tos p.id p.off p.ttl p.proto p.src p.dst p.df p.mf o d t w fun r w' => r = true ∧ Ext w w' := by
  apply ok_law05_V4Back
  unfold s_law05_V4Back
  refine Al_e fun a w1 r1 e1 z1 f1 => ?_
  have ol := ho.1
  have dl := hd.1
  have tl := ht.1
  intro J5
  have h5 : ∀ c W, Ext w1 W → (c = false → (p.data.length ≤ 3000 ∧ p.opts.length ≤ 200 ∧ m.length ≤ 500)) → J5 c W := by
    intro c W hx hc
    simp only [J5]
    cases c with
    | true =>
      simp only [cond_true]
      refine cm_law05_awake (awake05_ok _) ?_
      rintro _ w9 ⟨rfl, f9⟩
      exact ⟨by trivial, (f1.trans hx).trans f9⟩
    | false =>
      obtain ⟨c1, c2, c3⟩ := hc rfl
      have raW := r1.ext hx
      have xW := f1.trans hx
      simp only [cond_false, Ld_eq, List.getElem?_cons_zero, List.getElem?_cons_succ, LdV_some, dec_slice, dec_int, dec_bool, add_mk, Nat.zero_add, Nat.add_zero, raW.cell]
      refine cm_v4_Build (build_ok p (o := o) (d := d) (ho.ext xW) (hd.ext xW) (by omega) (by omega)) ?_
      rintro r3 _ w3 ⟨rfl, n3, b3, f3, _⟩
      by_cases hk : p.check = 0
      · have b3 := b3 hk
        have hb3 := SlB.of_buf b3
        have bl : p.bytes.length = 20 + p.opts.length + p.data.length := by
          unfold Pkt.bytes
          rw [List.length_append, head_len]
        have r3l := hb3.1
        simp only [hk, show ((0 : Int) != 0) = false from rfl, cond_false]
        refine cm_bytes_Clone (bclone_ok hb3 (by omega)) ?_
        rintro r4 w4 ⟨b4, _, f4, n4⟩
        refine AppSl_bytes b4 ((ht.ext xW).ext (f3.trans f4)) (by omega) fun s5 w5 b5 f5 _ _ => ?_
        have z3 := f3.size
        have x4 : Ext W w5 := (f3.trans f4).new f5 fun y hy h => by have := n4 y h; omega
        have x35 : Ext w3 w5 := f4.new f5 fun y hy h => by have := n4 y h; omega
        have rb := read_build hk m
        have rd : V4.read (p.bytes ++ m) false = p := by
          unfold V4.read
          rw [if_pos rb.1]; exact rb.2.1
        refine cm_v4_Parse (parse_ok (SlB.of_buf b5) (by simp; omega)) ?_
        rw [rd, rb.1]
        rintro _ _ _ _ _ _ _ _ _ op da _ w6 ⟨rfl, ⟨rfl, rfl, rfl, rfl, rfl, rfl, rfl, rfl, rfl, hop, hda⟩, f6⟩
        refine Al_f rfl rfl fun c7 w7 r7 e7 z7 f7 => ?_
        have x7 := (x4.trans f6).trans f7
        simp only [show ((0 : Int) == 0) = true from rfl, cond_true, List.getElem?_cons_zero, List.getElem?_cons_succ, LdV_some, dec_slice, dec_int, dec_bool, add_mk, Nat.zero_add, Nat.add_zero, (raW.ext x7).cell, r7.cell]
        refine cm_v4_Same (same_ok p p (o := o) (d := d) (o' := op) (d' := da) ((ho.ext xW).ext x7) ((hd.ext xW).ext x7) (hop.ext f7) (hda.ext f7)) ?_
        rintro _ w8 ⟨rfl, f8⟩
        simp only [decide_true, cond_true, List.getElem?_cons_zero, List.getElem?_cons_succ, LdV_some, dec_slice, dec_int, dec_bool, (raW.ext (x7.trans f8)).cell]
        have h1 : o.len ≤ 2 ^ 60 := by omega
        have h2 : d.len ≤ 2 ^ 60 := by omega
        refine cm_v4_Size (v4_size _ _ _ _ _ _ _ _ _ _ _ h1 h2 _) ?_
        rintro _ w9 ⟨rfl, f9⟩
        have e9 : ((r3.len : Int) == 20 + (o.len : Int) + (d.len : Int)) = true := by rw [int_beq]; exact decide_eq_true (by omega)
        simp only [e9, cond_true, List.getElem?_cons_zero, List.getElem?_cons_succ, LdV_some, dec_slice, dec_int, dec_bool, (raW.ext ((x7.trans f8).trans f9)).cell]
        refine cm_v4_Head (v4_head _ _ _ _ _ _ _ _ _ _ _ h1 _) ?_
        rintro _ w10 ⟨rfl, f10⟩
        have x10 : Ext w3 w10 := (x35.trans (f6.trans f7)).trans (f8.trans (f9.trans f10))
        refine SubSl_bytes (hb3.ext x10) (by omega) (by show (0 : Int) ≤ 20 + (o.len : Int); omega) (by show 20 + (o.len : Int) ≤ _; omega) fun s11 hs11 _ => ?_
        rw [show (Int.toNat 0) = 0 from rfl, List.drop_zero, show (20 + (o.len : Int)).toNat = 20 + p.opts.length by omega, show p.bytes.take (20 + p.opts.length) = p.head p.sum by
          unfold Pkt.bytes; rw [← head_len p p.sum]; simp] at hs11
        refine Al_e fun g w11 r11 e11 z11 f11 => ?_
        refine cm_ref02_Right (rright_ok (parts_one r11 (hs11.ext f11)) (by simp) (by intro q hq; simp only [List.mem_singleton] at hq; subst hq; simp only; rw [head_len]; omega)) ?_
        rintro _ w12 ⟨rfl, f12⟩
        rw [totP_one, sum_right]
        simp only [decide_true, cond_true]
        refine cm_law05_awake (awake05_ok _) ?_
        rintro _ w13 ⟨rfl, f13⟩
        exact ⟨by trivial, (xW.trans f3).trans ((x10.trans f11).trans (f12.trans f13))⟩
      · have hk' : (p.check != 0) = true := by simpa using hk
        simp only [hk', cond_true]
        rw [n3 hk]
        simp only [show ((((⟨none, 0, 0⟩ : SliceV).len : Nat) : Int) == 0) = true from rfl, cond_true]
        refine cm_law05_awake (awake05_ok _) ?_
        rintro _ w13 ⟨rfl, f13⟩
        exact ⟨by trivial, (xW.trans f3).trans f13⟩
  simp only [Ld_eq, List.getElem?_cons_zero, List.getElem?_cons_succ, LdV_some, dec_slice, dec_int, dec_bool, add_mk, Nat.zero_add, Nat.add_zero, r1.cell]
  refine cm_law05_far (far_ok _ _ _ _ _ _ _ _ _ _ _ _) ?_
  rintro _ w3 ⟨rfl, f3⟩
  by_cases c1 : d.len > 3000 ∨ o.len > 200
  · have : decide (({ a := d.a, len := d.len, cap := d.cap } : SliceV).len > 3000 ∨ ({ a := o.a, len := o.len, cap := o.cap } : SliceV).len > 200) = true := decide_eq_true c1
    simp only [this, cond_true]
    exact h5 _ _ f3 (by simp)
  · have : decide (({ a := d.a, len := d.len, cap := d.cap } : SliceV).len > 3000 ∨ ({ a := o.a, len := o.len, cap := o.cap } : SliceV).len > 200) = false := decide_eq_false c1
    simp only [this, cond_false]
    refine h5 _ _ f3 fun h => ?_
    have := of_decide_eq_false h
    omega
end Go.Proofs
