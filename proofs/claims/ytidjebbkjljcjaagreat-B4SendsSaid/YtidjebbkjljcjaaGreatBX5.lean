import Derived.Test.YtidjebbkjljcjaaGreatBX4
/- The element takes datagrams of hosts; and the law. -/
namespace Go.Proofs
open Gp Gp.V4
set_option maxRecDepth 100000
set_option maxHeartbeats 2000000

def hopP (p : Pkt) : Pkt := { p with ttl := p.ttl - 1 }
theorem hop_dg {p : Pkt} {n : Nat} (h : Dg p n) (ht : 1 < p.ttl) : Dg (hopP p) n := by
  obtain ⟨hf, hs⟩ := check_zero h.check
  obtain ⟨⟨f1, f2, f3, f4⟩, fr⟩ := hf
  have g2 := fits1 f2
  refine ⟨?_, h.off, h.proto, h.src, h.dst, h.opts, h.data⟩
  have hfine : (hopP p).fine := ⟨⟨f1, ⟨⟨by omega, by omega⟩, by simp only [hopP]; omega, by simp only [hopP]; simp; omega⟩, f3, f4⟩, fr⟩
  unfold Pkt.check
  rw [if_pos hfine, if_pos (show (hopP p).short from hs)]

theorem ttl_le {p : Pkt} {n : Nat} (h : Dg p n) : 0 ≤ p.ttl ∧ p.ttl ≤ 255 := by
  have := fits1 (check_zero h.check).1.1.2.1
  omega

theorem read_dg {p : Pkt} {n : Nat} (h : Dg p n) : readE p.bytes false = 0 ∧ V4.read p.bytes false = p := by
  obtain ⟨h1, h2, _⟩ := read_build h.check []
  rw [List.append_nil] at h1 h2
  refine ⟨h1, ?_⟩
  unfold V4.read
  rw [if_pos h1, h2]

section
variable {w : World} {x ct l mtu : Nat} {tb : Addr} {cs : List Int}

theorem up_ok {id : Nat} (h : BW w x ct l (mtu : Int) tb (id : Int) cs) (hid : id < 4294967295) (hm : 1280 ≤ mtu) (hM : mtu ≤ 65535) {p : Pkt} {n : Nat} (hd : Dg p n) (hn : n ≤ 5000) (ht : 1 < p.ttl) {s : SliceV} (hs : SlB w s p.bytes) :
    c_b4_B4_Host (some ⟨x, 0, none⟩) s w fun up host why w' => why = 0 ∧ host.len = 0 ∧ (∃ us, Ups w' up us (cutL (wrapP ownB aftrB (hopP p).bytes) id mtu)) ∧ (∃ id', BW w' x ct l (mtu : Int) tb id' cs) ∧ Fr8 w w' (· = x) := by
  have hpl := hd.len
  have hh := hop_dg hd ht
  have hhl := hh.len
  have htt := ttl_le hd
  obtain ⟨rd1, rd2⟩ := read_dg hd
  have hxl := h.hd.lt
  apply ok_b4_B4_Host
  unfold s_b4_B4_Host
  refine cm_b4_B4_ready (ready_ok h) ?_
  rintro _ w1 ⟨rfl, hw⟩
  subst hw
  simp -zeta only [Bool.not_true, cond_false]
  refine cm_v4_Parse (parse_ok hs (by omega)) ?_
  rintro i0 i1 i2 i3 i4 i5 i6 b0 b1 op da e w2 ⟨he, hk, f2⟩
  rw [rd1] at he
  subst he
  rw [rd2] at hk
  obtain ⟨rfl, rfl, rfl, rfl, rfl, rfl, rfl, rfl, rfl, hop, hda⟩ := hk
  refine Al_e fun a w3 r3 e3 z3 f3 => ?_
  have s3 := f3.size
  refine StN_full r3 rfl rfl fun w4 r4 f4 z4 => ?_
  have x24 : Ext w2 w4 := f3.new (f4 (· = a) rfl) fun y hy e => by omega
  rw [show ((0 : Int) != 0) = false from rfl, cond_false]
  simp -zeta only [ex_some, Ld_eq, List.getElem?_cons_zero, List.getElem?_cons_succ, LdV_some, dec_int, add_mk, Nat.zero_add, Nat.add_zero, r4.cell]
  refine cm_four_Host (host_ok _ w4) ?_
  rintro r w5 ⟨hr, f5⟩
  rw [hr, decide_eq_true hd.src, Bool.not_true, cond_false]
  have r5 := r4.ext f5
  simp -zeta only [List.getElem?_cons_zero, List.getElem?_cons_succ, LdV_some, dec_slice, dec_int, dec_bool, r5.cell]
  have x25 := x24.trans f5
  refine cm_wrap_Hop (hop_ok p (hop.ext x25) (hda.ext x25) (by rw [hd.opts]; simp) (by rw [hd.data]; omega) htt) ?_
  rintro i0 i1 i2 i3 i4 i5 i6 b0 b1 op' da' ok w6 ⟨hok, hk, f6⟩
  obtain ⟨rfl, rfl, rfl, rfl, rfl, rfl, rfl, rfl, rfl, hop', hda'⟩ := hk ht
  refine Al_e fun b w7 r7 e7 z7 f7 => ?_
  have s7 := f7.size
  refine StN_full r7 rfl rfl fun w8 r8 f8 z8 => ?_
  have x68 : Ext w6 w8 := f7.new (f8 (· = b) rfl) fun y hy e => by omega
  rw [hok, decide_eq_true ht, Bool.not_true, cond_false]
  simp -zeta only [List.getElem?_cons_zero, List.getElem?_cons_succ, LdV_some, dec_slice, dec_int, dec_bool, add_mk, Nat.zero_add, Nat.add_zero, r8.cell]
  refine cm_v4_Build (build_ok (hopP p) (hop'.ext x68) (hda'.ext x68) (by show p.opts.length ≤ _; rw [hd.opts]; simp) (by show p.data.length ≤ _; rw [hd.data]; omega)) ?_
  rintro r e w9 ⟨_, _, hb, f9, _⟩
  have hb := SlB.of_buf (hb hh.check)
  have x9 : Ext w1 w9 := ((f2.trans x25).trans f6).trans (x68.trans f9)
  have hwp : (wrapP ownB aftrB (hopP p).bytes).check = 0 := wrap_fine (by omega)
  have hwo : (wrapP ownB aftrB (hopP p).bytes).ok := ⟨rfl, rfl⟩
  intro J84
  have hJ : ∀ (q : Nat) (W : World) (t0 t1 t2 t3 v0 v1 v2 v3 v4 v5 v6 v7 v8 v9 v10 v11 v12 v13 v14 v15 v16 v17 v18 v19 v20 v21 v22 v23 v24 v25 v26 v27 v28 v29 v30 v31 : Int) (s9 : SliceV), Ext w1 W → Row W q [.int .i64 t0, .int .i64 t1, .int .i64 t2, .int .i64 t3, .int .u8 v0, .int .u8 v1, .int .u8 v2, .int .u8 v3, .int .u8 v4, .int .u8 v5, .int .u8 v6, .int .u8 v7, .int .u8 v8, .int .u8 v9, .int .u8 v10, .int .u8 v11, .int .u8 v12, .int .u8 v13, .int .u8 v14, .int .u8 v15, .int .u8 v16, .int .u8 v17, .int .u8 v18, .int .u8 v19, .int .u8 v20, .int .u8 v21, .int .u8 v22, .int .u8 v23, .int .u8 v24, .int .u8 v25, .int .u8 v26, .int .u8 v27, .int .u8 v28, .int .u8 v29, .int .u8 v30, .int .u8 v31, .slice s9.a s9.len s9.cap] → Pk6L W (wrapP ownB aftrB (hopP p).bytes) t0 t1 t2 t3 [v0, v1, v2, v3, v4, v5, v6, v7, v8, v9, v10, v11, v12, v13, v14, v15] [v16, v17, v18, v19, v20, v21, v22, v23, v24, v25, v26, v27, v28, v29, v30, v31] s9 → J84 0 ⟨q, 0, none⟩ W := by
    intro q W t0 t1 t2 t3 v0 v1 v2 v3 v4 v5 v6 v7 v8 v9 v10 v11 v12 v13 v14 v15 v16 v17 v18 v19 v20 v21 v22 v23 v24 v25 v26 v27 v28 v29 v30 v31 s9 hx hr hk
    simp only [J84]
    rw [show ((0 : Int) != 0) = false from rfl, cond_false]
    simp only [List.getElem?_cons_zero, List.getElem?_cons_succ, LdV_some, dec_slice, dec_int, add_mk, Nat.zero_add, Nat.add_zero, hr.cell]
    refine cm_b4_B4_cut (cutb_ok (h.ext hx) hid hm hM hk hwp hwo (show (4 : Int) ≠ 44 by decide)) ?_
    rintro up e W1 ⟨rfl, hup, hB, fW⟩
    rw [show ((0 : Int) != 0) = false from rfl, cond_false]
    exact ⟨by trivial, by trivial, hup, hB, (hx _).trans fW fun _ _ e => e⟩
  clear_value J84
  have hown : [32, 2, 0, 0, 0, 0, 0, 0, 0, 0, 0, 0, 0, 0, 0, 0] = bi ownB := rfl
  have haf : [32, 1, 0, 0, 0, 0, 0, 0, 0, 0, 0, 0, 0, 0, 0, 0] = bi aftrB := rfl
  have hd9 := (h.ext x9).hd.drew
  simp -zeta only [List.getElem?_cons_zero, List.getElem?_cons_succ, LdV_some, dec_int, hd9.cell]
  have x9d := x9.trans (Ext.drew w9)
  have hbd := hb.ext (Ext.drew w9)
  have zd : w9.drew.heap.size = w9.heap.size := rfl
  refine ⟨?_, ?_⟩
  · refine cm_wrap_Wrap (wrap_ok hbd (by omega) hown haf) ?_
    rintro t0 t1 t2 t3 v0 v1 v2 v3 v4 v5 v6 v7 v8 v9 v10 v11 v12 v13 v14 v15 v16 v17 v18 v19 v20 v21 v22 v23 v24 v25 v26 v27 v28 v29 v30 v31 s' e wa ⟨he, hk, fa⟩
    have he : e = 0 := he.trans hwp
    subst he
    obtain ⟨hk, hn⟩ := hk rfl
    refine Al_e fun q wb rb eb zb fb => ?_
    have sb := fb.size
    have hdb := (hd9.ext fa).ext fb
    simp -zeta only [true_and, List.getElem?_cons_zero, List.getElem?_cons_succ, hdb.cell]
    refine StN_full rb rfl rfl fun wc rc fc zc => ?_
    have xac : Ext wa wc := fb.new (fc (· = q) rfl) fun y hy e => by omega
    exact hJ q wc t0 t1 t2 t3 v0 v1 v2 v3 v4 v5 v6 v7 v8 v9 v10 v11 v12 v13 v14 v15 v16 v17 v18 v19 v20 v21 v22 v23 v24 v25 v26 v27 v28 v29 v30 v31 s' (x9d.trans (fa.trans xac)) rc (hk.ext xac)
  · refine Al_e fun q wb rb eb zb fb => ?_
    have sb := fb.size
    have hdb := hd9.ext fb
    simp -zeta only [true_and, List.getElem?_cons_zero, List.getElem?_cons_succ, hdb.cell]
    refine cm_wrap_Wrap (wrap_ok (hbd.ext fb) (by omega) hown haf) ?_
    rintro t0 t1 t2 t3 v0 v1 v2 v3 v4 v5 v6 v7 v8 v9 v10 v11 v12 v13 v14 v15 v16 v17 v18 v19 v20 v21 v22 v23 v24 v25 v26 v27 v28 v29 v30 v31 s' e wa ⟨he, hk, fa⟩
    have he : e = 0 := he.trans hwp
    subst he
    obtain ⟨hk, hn⟩ := hk rfl
    refine StN_full (rb.ext fa) rfl rfl fun wc rc fc zc => ?_
    have fcq := fc (· = q) rfl
    have sa := fa.size
    have xc : Ext w9.drew wc := (fb.trans fa).new fcq fun y hy e => by omega
    exact hJ q wc t0 t1 t2 t3 v0 v1 v2 v3 v4 v5 v6 v7 v8 v9 v10 v11 v12 v13 v14 v15 v16 v17 v18 v19 v20 v21 v22 v23 v24 v25 v26 v27 v28 v29 v30 v31 s' (x9d.trans xc) rc ⟨hk.n, hk.src, hk.dst, hk.data.fr fcq fun y hy _ e => by have := hn y hy; omega⟩

theorem told_ok {id : Int} (h : BW w x ct l (mtu : Int) tb id cs) {p : Pkt} {n : Nat} (hd : Dg p n) (hn : n ≤ 5000) (ht : p.ttl ≤ 1) {s : SliceV} (hs : SlB w s p.bytes) :
    c_b4_B4_Host (some ⟨x, 0, none⟩) s w fun _ host why w' => why = 3 ∧ host.len = 1 ∧ Fr8 w w' (· = l) := by
  have hpl := hd.len
  have htt := ttl_le hd
  obtain ⟨rd1, rd2⟩ := read_dg hd
  apply ok_b4_B4_Host
  unfold s_b4_B4_Host
  refine cm_b4_B4_ready (ready_ok h) ?_
  rintro _ w1 ⟨rfl, hw⟩
  subst hw
  simp -zeta only [Bool.not_true, cond_false]
  refine cm_v4_Parse (parse_ok hs (by omega)) ?_
  rintro i0 i1 i2 i3 i4 i5 i6 b0 b1 op da e w2 ⟨he, hk, f2⟩
  rw [rd1] at he
  subst he
  rw [rd2] at hk
  obtain ⟨rfl, rfl, rfl, rfl, rfl, rfl, rfl, rfl, rfl, hop, hda⟩ := hk
  refine Al_e fun a w3 r3 e3 z3 f3 => ?_
  have s3 := f3.size
  refine StN_full r3 rfl rfl fun w4 r4 f4 z4 => ?_
  have x24 : Ext w2 w4 := f3.new (f4 (· = a) rfl) fun y hy e => by omega
  rw [show ((0 : Int) != 0) = false from rfl, cond_false]
  simp -zeta only [ex_some, Ld_eq, List.getElem?_cons_zero, List.getElem?_cons_succ, LdV_some, dec_int, add_mk, Nat.zero_add, Nat.add_zero, r4.cell]
  refine cm_four_Host (host_ok _ w4) ?_
  rintro r w5 ⟨hr, f5⟩
  rw [hr, decide_eq_true hd.src, Bool.not_true, cond_false]
  have r5 := r4.ext f5
  simp -zeta only [List.getElem?_cons_zero, List.getElem?_cons_succ, LdV_some, dec_slice, dec_int, dec_bool, r5.cell]
  have x25 := x24.trans f5
  refine cm_wrap_Hop (hop_ok p (hop.ext x25) (hda.ext x25) (by rw [hd.opts]; simp) (by rw [hd.data]; omega) htt) ?_
  rintro i0 i1 i2 i3 i4 i5 i6 b0 b1 op' da' ok w6 ⟨hok, _, f6⟩
  refine Al_e fun b w7 r7 e7 z7 f7 => ?_
  have s7 := f7.size
  refine StN_full r7 rfl rfl fun w8 r8 f8 z8 => ?_
  have x68 : Ext w6 w8 := f7.new (f8 (· = b) rfl) fun y hy e => by omega
  rw [hok, decide_eq_false (show ¬ 1 < p.ttl by omega), Bool.not_false, cond_true]
  have x58 := f6.trans x68
  have r58 := r5.ext x58
  simp -zeta only [List.getElem?_cons_zero, List.getElem?_cons_succ, LdV_some, dec_slice, dec_int, dec_bool, r58.cell]
  have x28 := x25.trans x58
  refine cm_b4_over (over_ok hd hn (hop.ext x28) (hda.ext x28)) ?_
  rintro r w9 ⟨hl, f9⟩
  have x9 : Ext w1 w9 := (f2.trans x28).trans f9
  refine cm_b4_B4_drop (drop_ok (r := 3) (h.ext x9) (by omega) (by omega)) ?_
  rintro e wa ⟨he, fa, _⟩
  exact ⟨he, hl, (x9 _).trans fa fun _ _ e => e⟩
end

theorem awake32_ok (w : World) : c_law32_awake w fun r w' => r = true ∧ Ext w w' := by
  apply ok_law32_awake
  unfold s_law32_awake
  refine set32_ok fun w1 f1 => ?_
  refine cm_b4_New (new_ok (m := 1280) (by omega) w1) ?_
  rintro p e w2 ⟨rfl, ⟨x, ct, l, tb, rfl, hB, h1, h2, h3⟩, f2⟩
  have s1 := f1.size
  have x2 := f1.trans f2
  intro J42
  have hJ : J42 false := by
    simp -zeta only [J42, cond_false]
    refine cm_plain_Datagram (dg_ok SlB.nil (by simp) (by decide) (by decide) (by omega) (by omega) (by omega)) ?_
    rintro r w3 ⟨⟨p, hd, hb, _, ht⟩, _, f3⟩
    have hd : Dg p 0 := hd
    have hh := (hop_dg hd (by omega)).len
    refine cm_b4_B4_Host (up_ok (mtu := 1280) (id := 1) (hB.ext f3) (by omega) (by omega) (by omega) hd (by omega) (by omega) hb) ?_
    rintro up host why w4 ⟨rfl, hh0, ⟨us, hu⟩, ⟨id', hB4⟩, f4⟩
    have hc : cutL (wrapP ownB aftrB (hopP p).bytes) 1 1280 = [wrapP ownB aftrB (hopP p).bytes] := by
      unfold cutL
      rw [if_pos (show 40 + (wrapP ownB aftrB (hopP p).bytes).data.length ≤ 1280 by show 40 + (hopP p).bytes.length ≤ 1280; omega)]
    have hul : up.len = 1 := by
      rw [hu.sl.len, hu.len, hc]; rfl
    refine cm_plain_Datagram (dg_ok SlB.nil (by simp) (by decide) (by decide) (by omega) (by omega) (by omega)) ?_
    rintro r w5 ⟨⟨p', hd', hb', _, ht'⟩, _, f5⟩
    have hd' : Dg p' 0 := hd'
    refine cm_b4_B4_Host (told_ok (mtu := 1280) (hB4.ext f5) hd' (by omega) (by omega) hb') ?_
    rintro up' host' why' w6 ⟨rfl, hl', f6⟩
    intro J56
    have hJ2 : J56 true w6 := by
      simp only [J56]
      have x4 : Ext w w4 := (x2.trans f3).new f4 fun y hy e => by omega
      exact ⟨by trivial, (x4.trans f5).new f6 fun y hy e => by omega⟩
    clear_value J56
    rw [hul, hh0, hl']
    simp only [show (((1 : Nat) : Int) == 1) = true from rfl, show (((0 : Nat) : Int) == 0) = true from rfl, show ((0 : Int) == 0) = true from rfl, show ((3 : Int) == 3) = true from rfl, cond_true]
    apply ok_b4_Addr
    unfold s_b4_Addr
    exact hJ2
  clear_value J42
  simp only [Option.isNone_some, cond_false]
  exact hJ
end Go.Proofs
