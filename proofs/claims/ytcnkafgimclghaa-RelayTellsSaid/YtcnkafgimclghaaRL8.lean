import Derived.Test.YtcnkafgimclghaaRL7
/- The layer's statements. -/
namespace Go.Proofs
open Gp Gp.V4
set_option maxRecDepth 100000
set_option maxHeartbeats 1000000

theorem of_ints : ∀ (l : List Int), (∀ x ∈ l, 0 ≤ x ∧ x ≤ 255) → ∃ m : List UInt8, l = bi m ∧ m.length = l.length
  | [], _ => ⟨[], rfl, rfl⟩
  | x :: l, h => by
    obtain ⟨m, h1, h2⟩ := of_ints l fun y hy => h y (List.mem_cons_of_mem _ hy)
    have hx := h x (by simp)
    refine ⟨UInt8.ofNat x.toNat :: m, ?_, by simp [h2]⟩
    rw [h1]
    have : ((UInt8.ofNat x.toNat).toNat : Int) = x := by simp; omega
    simp [bi]
    omega

theorem table30_ok (k c r : Int) (hr : -9223372036854775808 ≤ r ∧ r ≤ 9223372036854775807) (w : World) : c_law30_RelayTable k c r w fun b w' => b = true ∧ Ext w w' := by
  apply ok_law30_RelayTable
  unfold s_law30_RelayTable
  refine cm_relay_Table (table_ok k c r hr w) ?_
  rintro t0 t1 t2 t3 w1 ⟨ht, hw⟩
  subst hw
  refine cm_ref30_Table (rtable_ok k c r hr w1) ?_
  rintro u0 u1 u2 u3 w2 ⟨hu, hw⟩
  subst hw
  rw [← ht] at hu
  simp only [Prod.mk.injEq] at hu
  obtain ⟨rfl, rfl, rfl, rfl⟩ := hu
  intro J
  have hJ : ∀ b W, (b = true ∧ Ext w2 W) → J b W := by
    intro b W h
    simp only [J]
    exact h
  clear_value J
  simp only [beq_self_eq_true, cond_true]
  by_cases h2 : k = 2
  · subst h2
    have et : tableR 2 r = (3, 4, min (max (max r 0 - 40) 68) 65535, true) := by unfold tableR; rw [if_pos rfl]
    rw [et] at ht
    simp only [Prod.mk.injEq] at ht
    rw [show ((2 : Int) != 2) = false from rfl, cond_false, decide_eq_true (show u2 ≥ 68 by omega), decide_eq_true (show u2 ≤ 65535 by omega)]
    simp only [cond_true]
    exact cm_law30_awake (awake30_ok w2) hJ
  · rw [show (k != 2) = true by simpa using h2, cond_true]
    exact cm_law30_awake (awake30_ok w2) hJ

theorem reaches_ok {w : World} {own peer : List UInt8} (ho : own.length = 16) (hp : peer.length = 16) {a0 a1 a2 a3 a4 a5 a6 a7 a8 a9 a10 a11 a12 a13 a14 a15 b0 b1 b2 b3 b4 b5 b6 b7 b8 b9 b10 b11 b12 b13 b14 b15 : Int} (ha : [a0, a1, a2, a3, a4, a5, a6, a7, a8, a9, a10, a11, a12, a13, a14, a15] = bi own) (hb : [b0, b1, b2, b3, b4, b5, b6, b7, b8, b9, b10, b11, b12, b13, b14, b15] = bi peer) {x y : Int} (hx : 0 ≤ x ∧ x ≤ 65535) (hy : 0 ≤ y ∧ y ≤ 65535) {s : SliceV} {l : List UInt8} (hs : SlB w s l) {sz cut : Int} (hz : 0 ≤ sz ∧ sz ≤ 65535) (hc : 0 ≤ cut ∧ cut ≤ 255) :
    c_law30_RelayReaches a0 a1 a2 a3 a4 a5 a6 a7 a8 a9 a10 a11 a12 a13 a14 a15 b0 b1 b2 b3 b4 b5 b6 b7 b8 b9 b10 b11 b12 b13 b14 b15 x y s sz cut w fun r w' => r = true ∧ Ext w w' := by
  apply ok_law30_RelayReaches
  unfold s_law30_RelayReaches
  refine Al_e fun A w1 r1 e1 z1 f1 => Al_e fun B w2 r2 e2 z2 f2 => Al_e fun C w3 r3 e3 z3 f3 => ?_
  have x3 := (f1.trans f2).trans f3
  have ra := (r1.ext f2).ext f3
  have rb := r2.ext f3
  have hlen := hs.1
  by_cases hbig : (s.len : Int) > 1000
  · rw [decide_eq_true hbig, cond_true]
    refine cm_law30_awake (awake30_ok _) ?_
    rintro r w4 ⟨h, f4⟩
    exact ⟨h, x3.trans f4⟩
  rw [decide_eq_false hbig, cond_false]
  refine ⟨by omega, by omega, ?_⟩
  simp -zeta only [Ld_eq, List.getElem?_cons_zero, List.getElem?_cons_succ, LdV_some, dec_int, add_mk, Nat.zero_add, Nat.add_zero, show Int.toNat 0 * 1 = 0 from rfl, show Int.toNat 1 * 1 = 1 from rfl, r3.cell]
  refine ⟨by omega, by omega, ?_⟩
  rw [wrap_i64 (n := x) (by omega) (by omega), wrap_i64 (n := y) (by omega) (by omega), wrap_i64 (n := 167772160 + x) (by omega) (by omega), wrap_i64 (n := 134217728 + y) (by omega) (by omega)]
  have hh1 : hostP (167772160 + x) := ⟨by omega, by omega, by omega⟩
  have hh2 : hostP (134217728 + y) := ⟨by omega, by omega, by omega⟩
  refine cm_plain_Datagram (dg_ok (hs.ext x3) (by omega) hh1 hh2 (by omega) (by omega) (by omega)) ?_
  rintro r w4 ⟨⟨p, hd, hpb, hsrc⟩, f4⟩
  have hl := hd.len
  have ra4 := ra.ext f4
  have rb4 := rb.ext f4
  simp -zeta only [List.getElem?_cons_zero, List.getElem?_cons_succ, LdV_some, dec_int, ra4.cell, rb4.cell]
  refine cm_wrap_Wrap (wrap_ok hpb (by omega) ha hb) ?_
  rintro t0 t1 t2 t3 v0 v1 v2 v3 v4 v5 v6 v7 v8 v9 v10 v11 v12 v13 v14 v15 v16 v17 v18 v19 v20 v21 v22 v23 v24 v25 v26 v27 v28 v29 v30 v31 s5 e5 w5 ⟨he5, hk5, f5⟩
  have he5 : e5 = 0 := he5.trans (wrap_fine (by omega))
  subst he5
  obtain ⟨hk, hn⟩ := hk5 rfl
  refine Al_e fun q w6 r6 e6 z6 f6 => ?_
  have z6' := f6.size
  refine StN_full r6 rfl rfl fun w7 r7 f7 z7 => ?_
  have x57 : Ext w5 w7 := f6.new (f7 (· = q) rfl) fun y hy e => by omega
  simp -zeta only [List.getElem?_cons_zero, List.getElem?_cons_succ, LdV_some, dec_slice, dec_int, add_mk, Nat.zero_add, Nat.add_zero, r7.cell]
  refine cm_v6_Build (build6_ok (hk.ext x57) (by show p.bytes.length ≤ _; omega)) ?_
  rintro r8 e8 w8 ⟨he8, hb8, f8⟩
  have he8 : e8 = 0 := he8.trans (wrap_fine (by omega))
  subst he8
  have hb8 : SlB w8 r8 (wrapP own peer p.bytes).bytes := hb8 rfl
  have hbl : (wrapP own peer p.bytes).bytes.length = 68 + l.length := by rw [bytes6_len ⟨ho, hp⟩]; show 40 + p.bytes.length = _; omega
  have hr8 := hb8.1
  have x48 := f5.trans (x57.trans f8)
  have ra8 := ra4.ext x48
  have x38 := f4.trans x48
  intro J133
  have hJ : J133 false := by
    simp -zeta only [J133, cond_false]
    have em : (if (IntKind.i64.wrap ((r8.len : Int) - (IntKind.i64.wrap cut))) > 68 then (IntKind.i64.wrap ((r8.len : Int) - (IntKind.i64.wrap cut))) else 68) = (((max (68 + l.length - cut.toNat) 68 : Nat)) : Int) := by
      rw [wrap_i64 (n := cut) (by omega) (by omega), wrap_i64 (by omega) (by omega)]
      split <;> omega
    rw [em]
    refine SubSl_bytes hb8 (by omega) (by omega) (by omega) fun s9 hs9 _ => ?_
    rw [Int.toNat_natCast, show Int.toNat 0 = 0 from rfl, List.drop_zero] at hs9
    generalize hm : max (68 + l.length - cut.toNat) 68 = m at hs9
    obtain ⟨g1, g2, g3, g4⟩ := reach ho hp hd (by omega) (m := m) (by omega) hz.1 hz.2 (from_ := 3221225474) (by omega)
    simp -zeta only [List.getElem?_cons_zero, List.getElem?_cons_succ, LdV_some, dec_int, ra8.cell]
    rw [wrap_i64 (n := sz) (by omega) (by omega)]
    refine cm_relay_Of (told_ok ha hs9 (by rw [List.length_take]; omega) 2 0 sz (by omega)) ?_
    rintro u0 u1 u2 u3 u4 u5 u6 u7 u8 u9 u10 u11 u12 u13 u14 u15 k c rs b' e9 w9 ⟨he9, ht, f9⟩
    rw [g1] at he9
    rw [g2] at ht
    obtain ⟨hpeer, ⟨rfl, rfl, rfl⟩, hin⟩ := ht
    subst he9
    refine Al_e fun d wa rA eA zA fA => ?_
    have zA' := fA.size
    refine StN_full rA rfl rfl fun wb rB fB zB => ?_
    have x9b : Ext w9 wb := fA.new (fB (· = d) rfl) fun y hy e => by omega
    simp -zeta only [List.getElem?_cons_zero, List.getElem?_cons_succ, LdV_some, dec_slice, dec_int, add_mk, Nat.zero_add, Nat.add_zero, rB.cell]
    refine cm_relay_Packet (relpkt_ok u0 u1 u2 u3 u4 u5 u6 u7 u8 u9 u10 u11 u12 u13 u14 u15 (hin.ext x9b) (by show (p.bytes.take (m - 40)).length ≤ _; rw [List.length_take]; omega) 3221225474 3 4 _) ?_
    rintro i0 i1 i2 i3 i4 i5 i6 y0 y1 op da ec wc ⟨hec, hkc, fc⟩
    rw [show (V4.Told.mk peer 3 4 (max (sz - 40) 68) (p.bytes.take (m - 40))).inner = p.bytes.take (m - 40) from rfl] at hec hkc
    rw [g3] at hec
    subst hec
    obtain ⟨_, _, _, _, _, _, hdst, _⟩ := hkc
    rw [g4, hsrc] at hdst
    subst hdst
    refine Al_e fun g wd rD eD zD fD => ?_
    have zD' := fD.size
    refine StN_full rD rfl rfl fun we rE fE zE => ?_
    have xce : Ext wc we := fD.new (fE (· = g) rfl) fun y hy e => by omega
    have xbe := fc.trans xce
    have rd := rB.ext xbe
    have x8e := f9.trans (x9b.trans xbe)
    have x3e := x38.trans x8e
    have rbe := rb.ext x3e
    have rce := r3.ext x3e
    intro J213
    have hJ2 : ∀ b W, (b = true ∧ Ext we W) → J213 b W := by
      rintro b W ⟨h, hx⟩
      simp only [J213]
      exact ⟨h, (x3.trans x3e).trans hx⟩
    clear_value J213
    rw [show ((0 : Int) == 0) = true from rfl, cond_true]
    simp -zeta only [cond_true, List.getElem?_cons_zero, List.getElem?_cons_succ, LdV_some, dec_int, add_mk, Nat.zero_add, rd.cell, rbe.cell]
    rw [eq16, show decide ([u0, u1, u2, u3, u4, u5, u6, u7, u8, u9, u10, u11, u12, u13, u14, u15] = [b0, b1, b2, b3, b4, b5, b6, b7, b8, b9, b10, b11, b12, b13, b14, b15]) = true by rw [decide_eq_true_iff, hpeer, hb], cond_true]
    simp -zeta only [List.getElem?_cons_zero, List.getElem?_cons_succ, LdV_some, dec_int, rE.cell]
    have e40 : (if (68 : Int) > (IntKind.i64.wrap (sz - 40)) then 68 else (IntKind.i64.wrap (sz - 40))) = max (sz - 40) 68 := by
      rw [wrap_i64 (by omega) (by omega)]
      split <;> omega
    rw [e40]
    simp -zeta only [beq_self_eq_true, cond_true]
    refine ⟨by omega, by omega, ?_⟩
    simp -zeta only [List.getElem?_cons_zero, LdV_some, dec_int, rce.cell]
    rw [wrap_i64 (n := x) (by omega) (by omega), wrap_i64 (n := 167772160 + x) (by omega) (by omega), beq_self_eq_true, cond_true]
    exact cm_law30_awake (awake30_ok we) hJ2
  clear_value J133
  rw [show ((0 : Int) != 0) = false from rfl, cond_false, cond_false, decide_eq_false (show ¬ (r8.len : Int) < 68 by omega)]
  exact hJ

theorem once30_ok {w : World} {own peer : List UInt8} (ho : own.length = 16) (hp : peer.length = 16) {a0 a1 a2 a3 a4 a5 a6 a7 a8 a9 a10 a11 a12 a13 a14 a15 b0 b1 b2 b3 b4 b5 b6 b7 b8 b9 b10 b11 b12 b13 b14 b15 : Int} (ha : [a0, a1, a2, a3, a4, a5, a6, a7, a8, a9, a10, a11, a12, a13, a14, a15] = bi own) (hb : [b0, b1, b2, b3, b4, b5, b6, b7, b8, b9, b10, b11, b12, b13, b14, b15] = bi peer) (m0 m1 m2 : Int) (hm2 : -9223372036854775808 ≤ m2 ∧ m2 ≤ 9223372036854775807) (s : SliceV) (kind : Int) :
    c_law30_RelayOnce a0 a1 a2 a3 a4 a5 a6 a7 a8 a9 a10 a11 a12 a13 a14 a15 b0 b1 b2 b3 b4 b5 b6 b7 b8 b9 b10 b11 b12 b13 b14 b15 m0 m1 m2 s kind w fun r w' => r = true ∧ Ext w w' := by
  apply ok_law30_RelayOnce
  unfold s_law30_RelayOnce
  refine Al_e fun A w1 r1 e1 z1 f1 => Al_e fun B w2 r2 e2 z2 f2 => Al_e fun C w3 r3 e3 z3 f3 => ?_
  have x3 := (f1.trans f2).trans f3
  have ra := (r1.ext f2).ext f3
  have rb := r2.ext f3
  simp -zeta only [Ld_eq, List.getElem?_cons_zero, List.getElem?_cons_succ, LdV_some, dec_slice, add_mk, Nat.zero_add, Nat.add_zero, r3.cell]
  by_cases hbig : (s.len : Int) > 1000
  · rw [decide_eq_true hbig, cond_true]
    refine cm_law30_awake (awake30_ok _) ?_
    rintro r w4 ⟨h, f4⟩
    exact ⟨h, x3.trans f4⟩
  rw [decide_eq_false hbig, cond_false]
  have hh1 : hostP 167772162 := by decide
  have hh2 : hostP 134744072 := by decide
  refine cm_plain_Datagram (dg_ok SlB.nil (by simp) hh1 hh2 (by omega) (by omega) (by omega)) ?_
  rintro r w4 ⟨⟨p, hd, hpb, hsrc⟩, f4⟩
  have hl : p.bytes.length = 28 := hd.len
  refine cm_relay_Packet (relpkt_ok 0 0 0 0 0 0 0 0 0 0 0 0 0 0 0 0 hpb (by omega) 167772161 3 1 0) ?_
  rintro i0 i1 i2 i3 i4 i5 i6 y0 y1 op da e5 w5 ⟨he5, hk5, f5⟩
  have hmay := (hd.may (m := p.bytes.length) (by omega)).1
  rw [List.take_length] at hmay
  have h0 : makeE 167772161 3 1 0 p.bytes = 0 := by rw [make_may ⟨by omega, by omega⟩ ⟨by omega, by omega⟩ ⟨by omega, by omega⟩ ⟨by omega, by omega⟩, if_pos hmay]
  rw [h0] at he5
  subst he5
  have er : makeR 167772161 3 1 0 p.bytes = makeP 167772161 3 1 0 p.bytes := by unfold makeR; rw [if_pos h0]
  rw [er] at hk5
  obtain ⟨rfl, rfl, rfl, rfl, rfl, rfl, rfl, rfl, rfl, hop, hda⟩ := hk5
  have hck := (makeE_zero h0).2.2
  have hsz := (check_zero hck).2.1
  have hpl : (makeP 167772161 3 1 0 p.bytes).bytes.length = 20 + (makeP 167772161 3 1 0 p.bytes).opts.length + (makeP 167772161 3 1 0 p.bytes).data.length := by
    rw [Pkt.bytes, List.length_append, head_len]
  generalize hP : makeP 167772161 3 1 0 p.bytes = P at *
  refine Al_e fun q w6 r6 e6 z6 f6 => ?_
  have z6' := f6.size
  refine StN_full r6 rfl rfl fun w7 r7 f7 z7 => ?_
  have x57 : Ext w5 w7 := f6.new (f7 (· = q) rfl) fun y hy e => by omega
  simp -zeta only [List.getElem?_cons_zero, List.getElem?_cons_succ, LdV_some, dec_slice, dec_int, dec_bool, add_mk, Nat.zero_add, Nat.add_zero, r7.cell]
  refine cm_ref05_Build (rbuild_ok P (hop.ext x57) (hda.ext x57) (by omega) (by omega)) ?_
  rintro t8 e8 w8 ⟨he8, _, hb8, f8, _⟩
  rw [hck] at he8
  subst he8
  have hb8 := SlB.of_buf (hb8 hck)
  have x38 := f4.trans (f5.trans (x57.trans f8))
  have ra8 := ra.ext x38
  have rb8 := rb.ext x38
  simp -zeta only [List.getElem?_cons_zero, List.getElem?_cons_succ, LdV_some, dec_int, ra8.cell, rb8.cell]
  refine cm_wrap_Wrap (wrap_ok hb8 (by omega) ha hb) ?_
  rintro t0 t1 t2 t3 v0 v1 v2 v3 v4 v5 v6 v7 v8 v9 v10 v11 v12 v13 v14 v15 v16 v17 v18 v19 v20 v21 v22 v23 v24 v25 v26 v27 v28 v29 v30 v31 s9 e9 w9 ⟨he9, hk9, f9⟩
  have he9 : e9 = 0 := he9.trans (wrap_fine (by omega))
  subst he9
  obtain ⟨hk, hn⟩ := hk9 rfl
  refine Al_e fun g wa rA eA zA fA => ?_
  have zA' := fA.size
  refine StN_full rA rfl rfl fun wb rB fB zB => ?_
  have x9b : Ext w9 wb := fA.new (fB (· = g) rfl) fun y hy e => by omega
  simp -zeta only [List.getElem?_cons_zero, List.getElem?_cons_succ, LdV_some, dec_slice, dec_int, add_mk, Nat.zero_add, Nat.add_zero, rB.cell]
  refine cm_v6_Build (build6_ok (hk.ext x9b) (by show P.bytes.length ≤ _; omega)) ?_
  rintro rc ec wc ⟨hec, hbc, fc⟩
  have hec : ec = 0 := hec.trans (wrap_fine (by omega))
  subst hec
  have hbc : SlB wc rc (wrapP own peer P.bytes).bytes := hbc rfl
  have hbl : (wrapP own peer P.bytes).bytes.length = 40 + P.bytes.length := bytes6_len ⟨ho, hp⟩
  have x3c := x38.trans (f9.trans (x9b.trans fc))
  have rac := ra.ext x3c
  have rcc := r3.ext x3c
  intro J160
  have hJ : J160 false := by
    simp -zeta only [J160, cond_false]
    simp -zeta only [List.getElem?_cons_zero, List.getElem?_cons_succ, LdV_some, dec_int, rac.cell, rcc.cell]
    refine cm_relay_Of (told_ok ha hbc (by omega) _ 0 m2 hm2) ?_
    rintro u0 u1 u2 u3 u4 u5 u6 u7 u8 u9 u10 u11 u12 u13 u14 u15 k c rs b' ed wd ⟨hed, ht, fd⟩
    obtain ⟨hpeer, ⟨rfl, rfl, rfl⟩, hin⟩ := ht
    refine Al_e fun d we rE eE zE fE => ?_
    have zE' := fE.size
    refine StN_full rE rfl rfl fun wf rF fF zF => ?_
    have xdf : Ext wd wf := fE.new (fF (· = d) rfl) fun y hy e => by omega
    simp -zeta only [List.getElem?_cons_zero, List.getElem?_cons_succ, LdV_some, dec_slice, dec_int, add_mk, Nat.zero_add, Nat.add_zero, rF.cell]
    refine cm_relay_Packet (relpkt_ok u0 u1 u2 u3 u4 u5 u6 u7 u8 u9 u10 u11 u12 u13 u14 u15 (hin.ext xdf) (Nat.le_trans ofR_len (by omega)) 3221225474 _ _ _) ?_
    rintro i0 i1 i2 i3 i4 i5 i6 y0 y1 op' da' eg wg ⟨heg, _, fg⟩
    refine Al_e fun h wh rH eH zH fH => ?_
    have zH' := fH.size
    refine StN_full rH rfl rfl fun wi rI fI zI => ?_
    have xgi : Ext wg wi := fH.new (fI (· = h) rfl) fun y hy e => by omega
    have x3i := x3c.trans (fd.trans (xdf.trans (fg.trans xgi)))
    intro J240
    have hJ2 : ∀ b W, (b = true ∧ Ext wi W) → J240 b W := by
      rintro b W ⟨h, hx⟩
      simp only [J240]
      exact ⟨h, (x3.trans x3i).trans hx⟩
    clear_value J240
    by_cases h1 : ed = 0
    · rw [show (ed != 0) = false by simpa using h1, cond_false]
      rw [h1] at hed
      have := tells_not ho hp hd (by simp) (kind := IntKind.i64.wrap kind) (rest := m2) (by rw [hP]; exact hed.symm) 3221225474 (ofR own (IntKind.i64.wrap kind) m2 (wrapP own peer P.bytes).bytes).kind (ofR own (IntKind.i64.wrap kind) m2 (wrapP own peer P.bytes).bytes).code (ofR own (IntKind.i64.wrap kind) m2 (wrapP own peer P.bytes).bytes).rest
      rw [hP] at this
      rw [this] at heg
      rw [show (eg == 11) = true by rw [heg]; rfl, cond_true]
      exact cm_law30_awake (awake30_ok wi) hJ2
    · rw [show (ed != 0) = true by simpa using h1, cond_true]
      exact cm_law30_awake (awake30_ok wi) hJ2
  clear_value J160
  rw [show ((0 : Int) != 0) = false from rfl]
  simp only [cond_false]
  exact hJ

theorem tells30_ok {w : World} {own : List UInt8} {a0 a1 a2 a3 a4 a5 a6 a7 a8 a9 a10 a11 a12 a13 a14 a15 : Int} (ha : [a0, a1, a2, a3, a4, a5, a6, a7, a8, a9, a10, a11, a12, a13, a14, a15] = bi own) (m0 m1 m2 : Int) (hm2 : -9223372036854775808 ≤ m2 ∧ m2 ≤ 9223372036854775807) {s : SliceV} {l : List UInt8} (hs : SlB w s l) (from_ : Int) :
    c_law30_RelayTells a0 a1 a2 a3 a4 a5 a6 a7 a8 a9 a10 a11 a12 a13 a14 a15 m0 m1 m2 s from_ w fun r w' => r = true ∧ Ext w w' := by
  apply ok_law30_RelayTells
  unfold s_law30_RelayTells
  refine Al_e fun A w1 r1 e1 z1 f1 => Al_e fun C w3 r3 e3 z3 f3 => ?_
  have x3 := f1.trans f3
  have ra := r1.ext f3
  have hlen := hs.1
  simp -zeta only [Ld_eq, List.getElem?_cons_zero, List.getElem?_cons_succ, LdV_some, dec_slice, dec_int, add_mk, Nat.zero_add, Nat.add_zero, r3.cell]
  by_cases hbig : (s.len : Int) > 3000
  · rw [decide_eq_true hbig, cond_true]
    refine cm_law30_awake (awake30_ok _) ?_
    rintro r w4 ⟨h, f4⟩
    exact ⟨h, x3.trans f4⟩
  rw [decide_eq_false hbig, cond_false]
  simp -zeta only [List.getElem?_cons_zero, List.getElem?_cons_succ, LdV_some, dec_int, ra.cell]
  refine cm_relay_Of (told_ok ha (hs.ext x3) (by omega) m0 m1 m2 hm2) ?_
  rintro u0 u1 u2 u3 u4 u5 u6 u7 u8 u9 u10 u11 u12 u13 u14 u15 k c rs b4 e4 w4 ⟨he4, ht, f4⟩
  have hil := Nat.le_trans (ofR_len (own := own) (l := l) (k := m0) (r := m2)) (show l.length ≤ 2 ^ 40 by omega)
  generalize hT : ofR own m0 m2 l = T at *
  obtain ⟨hpeer, ⟨rfl, rfl, rfl⟩, hin⟩ := ht
  refine Al_e fun d w5 r5 e5 z5 f5 => ?_
  have z5' := f5.size
  refine StN_full r5 rfl rfl fun w6 r6 f6 z6 => ?_
  have x46 : Ext w4 w6 := f5.new (f6 (· = d) rfl) fun y hy e => by omega
  have x36 := f4.trans x46
  have ra6 := ra.ext x36
  have rc6 := r3.ext x36
  simp -zeta only [List.getElem?_cons_zero, List.getElem?_cons_succ, LdV_some, dec_slice, dec_int, add_mk, Nat.zero_add, Nat.add_zero, ra6.cell, rc6.cell]
  refine cm_ref30_Of (rtold_ok ha ((hs.ext x3).ext x36) (by omega) m0 m1 m2 hm2) ?_
  rintro v0 v1 v2 v3 v4 v5 v6 v7 v8 v9 v10 v11 v12 v13 v14 v15 k c rs b7 e7 w7 ⟨he7, ht, f7⟩
  rw [hT] at ht
  obtain ⟨hpeer', ⟨rfl, rfl, rfl⟩, hin'⟩ := ht
  refine Al_e fun g w8 r8 e8 z8 f8 => ?_
  have z8' := f8.size
  refine StN_full r8 rfl rfl fun w9 r9 f9 z9 => ?_
  have x79 : Ext w7 w9 := f8.new (f9 (· = g) rfl) fun y hy e => by omega
  have x69 := f7.trans x79
  have rd9 := r6.ext x69
  have hin9 := (hin.ext x46).ext x69
  have hin9' := hin'.ext x79
  intro J101
  have hJ : J101 false w9 := by
    simp -zeta only [J101, cond_false]
    simp -zeta only [List.getElem?_cons_zero, List.getElem?_cons_succ, LdV_some, dec_slice, dec_int, add_mk, Nat.zero_add, Nat.add_zero, rd9.cell]
    refine cm_relay_Packet (relpkt_ok u0 u1 u2 u3 u4 u5 u6 u7 u8 u9 u10 u11 u12 u13 u14 u15 hin9 hil from_ _ _ _) ?_
    rintro i0 i1 i2 i3 i4 i5 i6 y0 y1 op da eA wA ⟨heA, hkA, fA⟩
    refine Al_e fun h wB rB eB zB fB => ?_
    have zB' := fB.size
    refine StN_full rB rfl rfl fun wC rC fC zC => ?_
    have xAC : Ext wA wC := fB.new (fC (· = h) rfl) fun y hy e => by omega
    have x9C := fA.trans xAC
    have r9C := r9.ext x9C
    simp -zeta only [List.getElem?_cons_zero, List.getElem?_cons_succ, LdV_some, dec_slice, dec_int, add_mk, Nat.zero_add, Nat.add_zero, r9C.cell]
    refine cm_ref30_Packet (rrelpkt_ok v0 v1 v2 v3 v4 v5 v6 v7 v8 v9 v10 v11 v12 v13 v14 v15 (hin9'.ext x9C) hil from_ _ _ _) ?_
    rintro j0 j1 j2 j3 j4 j5 j6 c0 c1 op' da' eD wD ⟨heD, hkD, fD⟩
    refine Al_e fun q wE rE eE zE fE => ?_
    have zE' := fE.size
    refine StN_full rE rfl rfl fun wF rF fF zF => ?_
    have xDF : Ext wD wF := fE.new (fF (· = q) rfl) fun y hy e => by omega
    have xCF := fD.trans xDF
    have x9F := x9C.trans xCF
    have rCF := rC.ext xCF
    intro J176
    have hJ2 : ∀ b W, (b = true ∧ Ext wF W) → J176 b W := by
      rintro b W ⟨h, hx⟩
      simp only [J176]
      exact ⟨h, (x3.trans (x36.trans (x69.trans x9F))).trans hx⟩
    clear_value J176
    rw [show (eA == eD) = true by rw [heA, heD]; simp, cond_true]
    obtain ⟨rfl, rfl, rfl, rfl, rfl, rfl, rfl, rfl, rfl, hop, hda⟩ := hkA
    obtain ⟨rfl, rfl, rfl, rfl, rfl, rfl, rfl, rfl, rfl, hop', hda'⟩ := hkD
    simp -zeta only [List.getElem?_cons_zero, List.getElem?_cons_succ, LdV_some, dec_slice, dec_int, dec_bool, add_mk, Nat.zero_add, Nat.add_zero, rCF.cell, rF.cell]
    refine cm_ref05_Same (rsame_ok (makeR from_ T.kind T.code T.rest T.inner) (makeR from_ T.kind T.code T.rest T.inner) ((hop.ext xAC).ext xCF) ((hda.ext xAC).ext xCF) (hop'.ext xDF) (hda'.ext xDF)) ?_
    rintro r wG ⟨rfl, fG⟩
    rw [decide_eq_true rfl, cond_true]
    refine cm_law30_awake (awake30_ok wG) ?_
    rintro r wH ⟨h, fH⟩
    exact hJ2 r wH ⟨h, fG.trans fH⟩
  clear_value J101
  rw [show (e4 != e7) = false by rw [he4, he7]; simp, cond_false]
  simp -zeta only [List.getElem?_cons_zero, List.getElem?_cons_succ, LdV_some, dec_slice, dec_int, add_mk, Nat.zero_add, Nat.add_zero, rd9.cell, r9.cell]
  rw [eq16, show decide ([u0, u1, u2, u3, u4, u5, u6, u7, u8, u9, u10, u11, u12, u13, u14, u15] = [v0, v1, v2, v3, v4, v5, v6, v7, v8, v9, v10, v11, v12, v13, v14, v15]) = true by rw [decide_eq_true_iff, hpeer, hpeer'], Bool.not_true, cond_false]
  simp -zeta only [cond_false, bne_self_eq_false]
  refine cm_bytes_Equal (equal_ok hin9 hin9') ?_
  rintro r wX ⟨rfl, hw⟩
  subst hw
  rw [decide_eq_true rfl, Bool.not_true]
  exact hJ
end Go.Proofs
