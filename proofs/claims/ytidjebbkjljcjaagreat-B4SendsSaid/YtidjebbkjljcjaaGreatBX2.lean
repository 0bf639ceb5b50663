import Derived.Test.YtidjebbkjljcjaaGreatBX1
/- A packet of version six in fragments: what the function gives. -/
namespace Go.Proofs
open Gp Gp.V4
set_option maxRecDepth 100000
set_option maxHeartbeats 1000000

/-- A packet's cells. -/
structure V6T where
  t0 : Int
  t1 : Int
  t2 : Int
  t3 : Int
  b : List Int
  s : SliceV
def pad32 (l : List Int) : List Int := (l ++ List.replicate 32 0).take 32
def eV (x : V6T) : List Value := .int .i64 x.t0 :: .int .i64 x.t1 :: .int .i64 x.t2 :: .int .i64 x.t3 :: ((pad32 x.b).map (fun n => Value.int .u8 n) ++ [.slice x.s.a x.s.len x.s.cap])
theorem eV_len (x : V6T) : (eV x).length = 37 := by simp [eV, pad32]
theorem eV_one (x : V6T) : ∀ v ∈ eV x, isOne v = true := by
  intro v hv
  simp only [eV, List.mem_cons, List.mem_append, List.mem_map, List.not_mem_nil, or_false] at hv
  rcases hv with rfl | rfl | rfl | rfl | ⟨n, _, rfl⟩ | rfl <;> rfl
theorem eV_eq (t0 t1 t2 t3 p0 p1 p2 p3 p4 p5 p6 p7 p8 p9 p10 p11 p12 p13 p14 p15 p16 p17 p18 p19 p20 p21 p22 p23 p24 p25 p26 p27 p28 p29 p30 p31 : Int) (s : SliceV) : eV ⟨t0, t1, t2, t3, [p0, p1, p2, p3, p4, p5, p6, p7, p8, p9, p10, p11, p12, p13, p14, p15, p16, p17, p18, p19, p20, p21, p22, p23, p24, p25, p26, p27, p28, p29, p30, p31], s⟩ = [.int .i64 t0, .int .i64 t1, .int .i64 t2, .int .i64 t3, .int .u8 p0, .int .u8 p1, .int .u8 p2, .int .u8 p3, .int .u8 p4, .int .u8 p5, .int .u8 p6, .int .u8 p7, .int .u8 p8, .int .u8 p9, .int .u8 p10, .int .u8 p11, .int .u8 p12, .int .u8 p13, .int .u8 p14, .int .u8 p15, .int .u8 p16, .int .u8 p17, .int .u8 p18, .int .u8 p19, .int .u8 p20, .int .u8 p21, .int .u8 p22, .int .u8 p23, .int .u8 p24, .int .u8 p25, .int .u8 p26, .int .u8 p27, .int .u8 p28, .int .u8 p29, .int .u8 p30, .int .u8 p31, .slice s.a s.len s.cap] := rfl

structure V6In (W : World) (y : V6T) (q : Pk6) : Prop where
  n : y.t0 = q.tr ∧ y.t1 = q.fl ∧ y.t2 = q.nx ∧ y.t3 = q.hp
  b : y.b = bi q.src ++ bi q.dst
  s : SlB W y.s q.data
theorem V6In.fr {W W' : World} {y : V6T} {q : Pk6} {S : Nat → Prop} (h : V6In W y q) (hf : Fr8 W W' S) (hs : ∀ x, y.s.a = some x → ¬ S x.block) : V6In W' y q := ⟨h.n, h.b, h.s.fr hf fun x hx _ => hs x hx⟩
theorem V6In.ext {W W' : World} {y : V6T} {q : Pk6} (h : V6In W y q) (hf : Ext W W') : V6In W' y q := ⟨h.n, h.b, h.s.ext hf⟩

/-- A slice of packets. -/
structure Frs (W : World) (r : SliceV) (ys : List V6T) (ps : List Pk6) : Prop where
  sl : SlN 37 eV W r ys
  len : ys.length = ps.length
  in_ : ∀ (j : Nat) y q, ys[j]? = some y → ps[j]? = some q → V6In W y q

theorem Frs.ext {W W' : World} {r : SliceV} {ys : List V6T} {ps : List Pk6} (h : Frs W r ys ps) (hf : Ext W W') : Frs W' r ys ps := ⟨h.sl.ext hf, h.len, fun j y q h1 h2 => (h.in_ j y q h1 h2).ext hf⟩

theorem busy_ext {W W' : World} {l : Nat} (h : Ext W W') (hl : l < W.heap.size) : Ext (busyW W l) (busyW W' l) := by
  intro S
  have hs := h.size
  refine ⟨by simpa [busyW] using hs, fun b hb _ => ?_, (h S).io⟩
  have hb : b < W.heap.size := by simpa [busyW] using hb
  have e := (h fun _ => False).same b hb (by simp)
  simp only [busyW, Array.getElem?_modify, e]

theorem chunks_ok {w : World} {s : SliceV} (n : Int) : c_cut6_chunks s n w fun v w' => ∃ f0 f1, v = Value.func (.func n_cut6_chunks_1) #[] #[(Value.pointer (some ⟨f0, 0, none⟩)), (Value.pointer (some ⟨f1, 0, none⟩))] ∧ Row w' f0 [.int .i64 n] ∧ Row w' f1 [.slice s.a s.len s.cap] ∧ Ext w w' ∧ w.heap.size ≤ f0 ∧ w.heap.size ≤ f1 := by
  apply ok_cut6_chunks
  unfold s_cut6_chunks
  refine ⟨rfl, Al_e fun f1 w1 r1 e1 z1 x1 => ⟨rfl, Al_e fun f0 w2 r2 e2 z2 x2 => ?_⟩⟩
  exact ⟨f0, f1, rfl, r2, r1.ext x2, x1.trans x2, by omega, by omega⟩

theorem cut6_ok {w : World} {q : Pk6} {t0 t1 t2 t3 p0 p1 p2 p3 p4 p5 p6 p7 p8 p9 p10 p11 p12 p13 p14 p15 p16 p17 p18 p19 p20 p21 p22 p23 p24 p25 p26 p27 p28 p29 p30 p31 : Int} {s : SliceV} (h : Pk6L w q t0 t1 t2 t3 [p0, p1, p2, p3, p4, p5, p6, p7, p8, p9, p10, p11, p12, p13, p14, p15] [p16, p17, p18, p19, p20, p21, p22, p23, p24, p25, p26, p27, p28, p29, p30, p31] s) (hc : q.check = 0) {id mtu : Nat} (hid : id < 4294967296) (hm : 1280 ≤ mtu) (hM : mtu ≤ 65535) :
    c_cut6_Cut t0 t1 t2 t3 p0 p1 p2 p3 p4 p5 p6 p7 p8 p9 p10 p11 p12 p13 p14 p15 p16 p17 p18 p19 p20 p21 p22 p23 p24 p25 p26 p27 p28 p29 p30 p31 s (id : Int) (mtu : Int) w fun r e w' => e = 0 ∧ Ext w w' ∧ ∃ ys, Frs w' r ys (cutL q id mtu) ∧ NewS w r ∧ ∀ y ∈ ys, NewS w y.s := by
  obtain ⟨⟨rfl, rfl, rfl, rfl⟩, hsrc, hdst, hdata⟩ := h
  obtain ⟨⟨⟨fa, fb, fc⟩, fd, fe⟩, fl⟩ := check6_zero hc
  have fb' := fits1 fb
  have hlen := hdata.1
  have hb32 : ([p0, p1, p2, p3, p4, p5, p6, p7, p8, p9, p10, p11, p12, p13, p14, p15, p16, p17, p18, p19, p20, p21, p22, p23, p24, p25, p26, p27, p28, p29, p30, p31] : List Int) = bi q.src ++ bi q.dst := by rw [← hsrc, ← hdst]; rfl
  apply ok_cut6_Cut
  unfold s_cut6_Cut
  refine Al_e fun a w1 r1 e1 z1 f1 => ⟨rfl, Al_e fun b w2 r2 e2 z2 f2 => Al_e fun c w3 r3 e3 z3 f3 => Al_e fun d w4 r4 e4 z4 f4 => ?_⟩
  have s1 := f1.size
  have s2 := f2.size
  have s3 := f3.size
  have s4 := f4.size
  have x14 := f2.trans (f3.trans f4)
  have x4 := f1.trans x14
  have ra := r1.ext x14
  have rb := (r2.ext f3).ext f4
  have rc := r3.ext f4
  have hd4 := hdata.ext x4
  intro J12
  have hJ : J12 false w4 := by
    simp -zeta only [J12, cond_false]
    simp -zeta only [Ld_eq, List.getElem?_cons_zero, List.getElem?_cons_succ, LdV_some, dec_slice, dec_int, add_mk, Nat.zero_add, Nat.add_zero, ra.cell]
    refine cm_v6_Check (check6_ok q (s := s) hlen w4) ?_
    rintro _ w5 ⟨rfl, f5⟩
    rw [hc, show ((0 : Int) != 0) = false from rfl, cond_false]
    have ra5 := ra.ext f5
    simp -zeta only [List.getElem?_cons_zero, List.getElem?_cons_succ, LdV_some, dec_slice, dec_int, ra5.cell]
    refine cm_v6_Size (size6_ok (s := s) _ _ _ _ _ _ _ _ _ _ _ _ _ _ _ _ _ _ _ _ _ _ _ _ _ _ _ _ _ _ _ _ _ _ _ _ (by omega)) ?_
    rintro _ w6 ⟨rfl, f6⟩
    have x46 := f5.trans f6
    have s6 := x46.size
    have ra6 := ra.ext x46
    have rb6 := rb.ext x46
    have rc6 := rc.ext x46
    have rd6 := r4.ext x46
    have hd6 := hd4.ext x46
    by_cases hsm : 40 + (s.len : Int) ≤ (mtu : Int)
    · rw [decide_eq_true hsm, cond_true]
      simp -zeta only [List.getElem?_cons_zero, List.getElem?_cons_succ, LdV_some, dec_slice, ra6.cell]
      refine cm_slices_Clone_byte_byte (clone_ok hd6 (by omega)) ?_
      rintro s7 w7 ⟨b7, _, f7, n7⟩
      have s7' := f7.size
      refine St_row (ra6.ext f7) rfl (by simp) fun w8 r8 f8 z8 => ?_
      simp only [List.set_cons_zero, List.set_cons_succ] at r8
      have f8a := f8 (· = a) rfl
      simp -zeta only [List.getElem?_cons_zero, List.getElem?_cons_succ, LdV_some, dec_slice, dec_int, r8.cell]
      refine Al_e fun m w9 r9 e9 z9 f9 => ?_
      have rc8 := ((rc6.ext f7).fr f8a (by omega)).ext f9
      have rd8 := ((rd6.ext f7).fr f8a (by omega)).ext f9
      have s9 := f9.size
      refine St_row rc8 rfl (by simp) fun w10 r10 f10 z10 => ?_
      simp only [List.set_cons_zero] at r10
      have f10c := f10 (· = c) rfl
      refine St_row (rd8.fr f10c (by omega)) rfl (by simp) fun w11 r11 f11 z11 => ?_
      simp only [List.set_cons_zero] at r11
      have f11d := f11 (· = d) rfl
      have r10' := r10.fr f11d (by omega)
      simp -zeta only [List.getElem?_cons_zero, LdV_some, dec_slice, dec_int, r10'.cell, r11.cell]
      have hn7 : ∀ x, s7.a = some x → w6.heap.size ≤ x.block := Buf_new b7 n7
      have hm11 := (r9.fr f10c (by omega)).fr f11d (by omega)
      have hs11 : SlB w11 s7 q.data := ((((SlB.of_buf b7).fr f8a fun x hx _ e => by have := hn7 x hx; omega).ext f9).fr f10c fun x hx _ e => by have := hn7 x hx; omega).fr f11d fun x hx _ e => by have := hn7 x hx; omega
      have ecut : cutL q id mtu = [q] := by unfold cutL; rw [if_pos (by omega)]
      refine ⟨by trivial, ?_, [⟨q.tr, q.fl, q.nx, q.hp, [p0, p1, p2, p3, p4, p5, p6, p7, p8, p9, p10, p11, p12, p13, p14, p15, p16, p17, p18, p19, p20, p21, p22, p23, p24, p25, p26, p27, p28, p29, p30, p31], s7⟩], ?_⟩
      · exact (((((x4.trans x46).trans f7).new f8a fun y hy e => by omega).trans f9).new f10c fun y hy e => by omega).new f11d fun y hy e => by omega
      · rw [ecut]
        refine ⟨?_, fun x hx => by cases hx; simp only; omega, fun y hy x hx => ?_⟩
        rotate_left
        · have : y = ⟨q.tr, q.fl, q.nx, q.hp, [p0, p1, p2, p3, p4, p5, p6, p7, p8, p9, p10, p11, p12, p13, p14, p15, p16, p17, p18, p19, p20, p21, p22, p23, p24, p25, p26, p27, p28, p29, p30, p31], s7⟩ := by simpa using hy
          subst this
          have := hn7 x hx; omega
        refine ⟨?_, rfl, fun j y p hy hp => ?_⟩
        · exact (BufN.row (xs := [(⟨q.tr, q.fl, q.nx, q.hp, [p0, p1, p2, p3, p4, p5, p6, p7, p8, p9, p10, p11, p12, p13, p14, p15, p16, p17, p18, p19, p20, p21, p22, p23, p24, p25, p26, p27, p28, p29, p30, p31], s7⟩ : V6T)]) (by rw [List.flatMap_cons, List.flatMap_nil, List.append_nil, eV_eq]; exact hm11)).sl eV_len (by omega)
        · match j with
          | 0 =>
            simp only [List.getElem?_cons_zero, Option.some.injEq] at hy hp
            subst hy hp
            exact ⟨⟨rfl, rfl, rfl, rfl⟩, hb32, hs11⟩
          | j + 1 => simp at hp
    · rw [decide_eq_false hsm, cond_false]
      refine Al_e fun o w7 r7 e7 z7 f7 => ?_
      have ra7 := ra6.ext f7
      have rb7 := rb6.ext f7
      have rc7 := rc6.ext f7
      have rd7 := rd6.ext f7
      have hd7 := hd6.ext f7
      have s7' := f7.size
      simp -zeta only [List.getElem?_cons_zero, List.getElem?_cons_succ, LdV_some, dec_slice, ra7.cell]
      rw [wrap_i64 (n := (mtu : Int) - 40) (by omega) (by omega), wrap_i64 (n := (mtu : Int) - 40 - 8) (by omega) (by omega), show (mtu : Int) - 40 - 8 = ((mtu - 48 : Nat) : Int) by omega]
      refine cm_cut6_chunks (chunks_ok _) ?_
      rintro _ w8 ⟨g0, g1, rfl, rg0, rg1, f8, lg0, lg1⟩
      have s8 := f8.size
      have ra8 := ra7.ext f8
      have rb8 := rb7.ext f8
      have rc8 := rc7.ext f8
      have rd8 := rd7.ext f8
      have ro8 := r7.ext f8
      have hd8 := hd7.ext f8
      have ecut : cutL q id mtu = (chunkL (mtu - 48) ((mtu - 48) / 8 * 8) q.data (q.data.length + 1) 0).map (fragOf q id) := by unfold cutL; rw [if_neg (by omega)]
      have hck : ∀ x ∈ chunkL (mtu - 48) ((mtu - 48) / 8 * 8) q.data (q.data.length + 1) 0, ChunkOk (mtu - 48) q.data x := chunk_ok (by omega) (by omega) (Nat.zero_le _) rfl
      have hcl : (chunkL (mtu - 48) ((mtu - 48) / 8 * 8) q.data (q.data.length + 1) 0).length ≤ q.data.length + 1 := chunk_len
      have hit := chunks_iter (s := s) (D := q.data) (f0 := g0) (f1 := g1) (most := mtu - 48) (size := (mtu - 48) / 8 * 8) (by omega) (by omega) rfl (by omega)
      rw [ecut]
      generalize chunkL (mtu - 48) ((mtu - 48) / 8 * 8) q.data (q.data.length + 1) 0 = xs at hck hcl hit ⊢
      have hla : lAt none w8 = w8.heap.size + 1 := rfl
      have hyl : (yCv s xs).length = xs.length := by simp [yCv]
      have hdl : ∀ x, s.a = some x → 0 < q.data.length → x.block < w8.heap.size := fun x hx h0 => hd8.lt hx h0
      refine rng_iter hit (fun i W => ∃ (buf : SliceV) (ys : List V6T), Row W o [.slice buf.a buf.len buf.cap] ∧ BufN 37 eV W buf ys ∧ ys.length = i ∧ (∀ (j : Nat) y x, ys[j]? = some y → xs[j]? = some x → V6In W y (fragOf q id x)) ∧
          (∀ z, SliceV.at buf z → w8.heap.size + 1 < z) ∧ (∀ y ∈ ys, ∀ x, y.s.a = some x → w8.heap.size + 1 < x.block ∧ ¬ SliceV.at buf x.block) ∧ Fr8 w8 W (· = o) ∧ w8.heap.size + 2 ≤ W.heap.size)
        (fun _ _ => False) (by simp) ?_ ?_ ?_ (by intro e W W' h; exact h.elim) (by intro e W h; exact h.elim) ?_ ?_ (by intro W h; exact h.elim) (by intro id W h; exact h.elim)
      · intro w9 f9 z9
        exact ⟨⟨none, 0, 0⟩, [], ro8.ext f9, BufN.nil, rfl, fun j y x hy => by simp at hy, (by rintro z ⟨o, h⟩; cases h), fun y hy => by simp at hy, f9 _, by omega⟩
      · rintro i W ⟨_, _, _, _, _, _, _, _, hf, _⟩
        have hol := r7.lt
        exact ⟨rg0.fr hf (by omega), rg1.fr hf (by omega), hd8.fr hf (SlB_apart hd8 ro8 (by intro v hv n e; subst e; simp at hv))⟩
      · rintro i W W' ⟨buf, ys, q1, q2, q3, q4, q5, q6, q7, q8⟩ hf
        have hs := hf.size
        refine ⟨buf, ys, q1.fr hf (by omega), q2.fr hf fun z hz e => by have := q5 z hz; omega, q3, fun j y x hy hx => (q4 j y x hy hx).fr hf fun z hz e => by have := (q6 y (List.mem_of_getElem? hy) z hz).1; omega, q5, q6, q7.trans hf fun y hy e => by omega, by omega⟩
      · intro i v W Kb hv ⟨buf, ys, q1, q2, q3, q4, q5, q6, q7, q8⟩ hlt hnorm _
        unfold yCv at hv
        rw [List.getElem?_map] at hv
        obtain ⟨x, hx, hv⟩ := Option.map_eq_some_iff.1 hv
        subst hv
        obtain ⟨hle, hat, hu, hlt2, hcut⟩ := hck x (List.mem_of_getElem? hx)
        have hil := (List.getElem?_eq_some_iff.1 hx).1
        have hol := ro8.lt
        rw [hla] at hlt hnorm ⊢
        have dpos : ∀ z, 0 < (fragOf q id z).data.length := fun z => by
          show 0 < (fragH _ _ _ _ ++ z.2.2).length
          rw [List.length_append, fragH_len]; omega
        have ylt : ∀ (j : Nat) y z, ys[j]? = some y → xs[j]? = some z → ∀ p, y.s.a = some p → p.block < W.heap.size := fun j y z hy hz p hp => (q4 j y z hy hz).s.lt hp (dpos z)
        have blt : ∀ z, SliceV.at buf z → z < W.heap.size := fun z hz => q2.lt hz
        refine Al_e fun g w9 r9 e9 z9 f9 => ?_
        refine StN_full r9 rfl rfl fun w10 r10 f10 z10 => ?_
        have f10g := f10 (· = g) rfl
        have x10 : Ext W w10 := f9.new f10g fun y hy e => by omega
        refine ⟨by rw [f10g.same _ (by omega) (by omega), (f9 fun _ => False).same _ hlt (by simp)], ?_⟩
        have fb : Ext (busyW W (w8.heap.size + 1)) (busyW w10 (w8.heap.size + 1)).drew := (busy_ext x10 hlt).trans (Ext.drew _)
        have fV : Fr8 w8 (busyW W (w8.heap.size + 1)) (· = o) := q7.trans (Fr8.busyW W _) fun y hy e => by omega
        have fV' := fV.ext fb
        have pA := ra8.fr fV' (by omega)
        have pB := rb8.fr fV' (by omega)
        have pG : Row (busyW w10 (w8.heap.size + 1)).drew g _ := (r10.fr (Fr8.busyW w10 _) (by omega)).drew
        have hzV : (busyW w10 (w8.heap.size + 1)).drew.heap.size = w10.heap.size := by simp [busyW]
        have pO : Row (busyW w10 (w8.heap.size + 1)).drew o _ := (q1.fr (Fr8.busyW W (w8.heap.size + 1)) (by omega)).ext fb
        have pBuf : BufN 37 eV (busyW w10 (w8.heap.size + 1)).drew buf ys := (q2.fr (Fr8.busyW W (w8.heap.size + 1)) fun z hz e => by have := q5 z hz; omega).ext fb
        have pD : SlB (busyW w10 (w8.heap.size + 1)).drew s q.data := hd8.fr fV' (SlB_apart hd8 ro8 (by intro v hv n e; subst e; simp at hv))
        have pInU : ∀ (j : Nat) y z, ys[j]? = some y → xs[j]? = some z → V6In (busyW W (w8.heap.size + 1)) y (fragOf q id z) := fun j y z hy hz => (q4 j y z hy hz).fr (Fr8.busyW W (w8.heap.size + 1)) fun p hp e => by have := (q6 y (List.mem_of_getElem? hy) p hp).1; omega
        have fbS := fb (fun b => b = o ∨ (w8.heap.size + 1 < b ∧ (W.heap.size ≤ b ∨ SliceV.at buf b)))
        generalize (busyW w10 (w8.heap.size + 1)).drew = V at pA pB pG hzV pO pBuf pD fbS ⊢
        simp -zeta only [List.getElem?_cons_zero, List.getElem?_cons_succ, LdV_some, dec_int, add_mk, Nat.zero_add, Nat.add_zero, pA.cell, pB.cell]
        refine St_row pG rfl (by simp) fun w11 r11 f11 z11 => ?_
        simp only [List.set_cons_zero] at r11
        have f11g := f11 (· = g) rfl
        simp -zeta only [true_and, List.getElem?_cons_zero, (pB.fr f11g (by omega)).cell]
        refine St_row r11 rfl (by simp) fun w12 r12 f12 z12 => ?_
        simp only [List.set_cons_zero, List.set_cons_succ] at r12
        have f12g := f12 (· = g) rfl
        simp -zeta only [List.getElem?_cons_zero, List.getElem?_cons_succ, LdV_some, dec_int, dec_bool, r12.cell]
        refine cm_v6_BuildFrag (buildfrag_okI x.2.1 (by omega) (by omega) (by omega) hu hid) ?_
        rintro r e w13 ⟨rfl, b13, f13, n13⟩
        rw [show ((0 : Int) != 0) = false from rfl, cond_false]
        have s13 := f13.size
        have pA13 := ((pA.fr f11g (by omega)).fr f12g (by omega)).ext f13
        simp -zeta only [List.getElem?_cons_zero, List.getElem?_cons_succ, LdV_some, dec_slice, dec_int, pA13.cell]
        refine Al_e fun h w14 r14 e14 z14 f14 => ?_
        have s14 := f14.size
        refine StN_full r14 rfl rfl fun w15 r15 f15 z15 => ?_
        have f15h := f15 (· = h) rfl
        have rlt : ∀ c, SliceV.at r c → c < w13.heap.size := fun c hc => b13.lt hc
        have b15 := (b13.ext f14).fr f15h fun c hc e => by have := rlt c hc; omega
        have sD : ∀ p, s.a = some p → 0 < q.data.length → p.block < w8.heap.size := hdl
        have d15 : SlB w15 s q.data := ((((pD.fr f11g fun p hp h0 e => by have := sD p hp h0; omega).fr f12g fun p hp h0 e => by have := sD p hp h0; omega).ext f13).ext f14).fr f15h fun p hp h0 e => by have := sD p hp h0; omega
        have c15 : SlB w15 (subS s x.1 (x.1 + x.2.2.length)) x.2.2 := by
          have := subS_slb d15 (lo := x.1) (hi := x.1 + x.2.2.length) (by omega) hlt2
          rw [hcut] at this; exact this
        refine AppSl_bytes b15 c15 (by rw [fragH_len]; omega) fun s16 w16 b16 f16 n16 _ => ?_
        have s16' := f16.size
        have n16' : ∀ c, SliceV.at s16 c → w12.heap.size ≤ c ∧ c ≠ h := fun c hc => by
          rcases n16 c hc with g1 | g1
          · have := n13 c g1; have := rlt c g1; exact ⟨by omega, by omega⟩
          · exact ⟨by omega, by omega⟩
        have l16 : ∀ c, SliceV.at s16 c → c < w16.heap.size := fun c hc => b16.lt hc
        have r16 := r15.fr f16 fun hc => by have := rlt h hc; omega
        refine St_row r16 rfl (by simp) fun w17 r17 f17 z17 => ?_
        simp only [List.set_cons_zero, List.set_cons_succ] at r17
        have f17h := f17 (· = h) rfl
        refine St_row r17 rfl (by simp) fun w18 r18 f18 z18 => ?_
        simp only [List.set_cons_zero, List.set_cons_succ] at r18
        have f18h := f18 (· = h) rfl
        have pO18 := (((((((pO.fr f11g (by omega)).fr f12g (by omega)).ext f13).ext f14).fr f15h (by omega)).fr f16 fun hc => by have := n13 o hc; omega).fr f17h (by omega)).fr f18h (by omega)
        have pBuf18 := (((((((pBuf.fr f11g fun z hz e => by have := blt z hz; omega).fr f12g fun z hz e => by have := blt z hz; omega).ext f13).ext f14).fr f15h fun z hz e => by have := blt z hz; omega).fr f16 fun z hz hc => by have := n13 z hc; have := blt z hz; omega).fr f17h fun z hz e => by have := blt z hz; omega).fr f18h fun z hz e => by have := blt z hz; omega
        have b18 := (b16.fr f17h fun c hc e => (n16' c hc).2 e).fr f18h fun c hc e => (n16' c hc).2 e
        simp -zeta only [List.getElem?_cons_zero, List.getElem?_cons_succ, LdV_some, dec_slice, dec_int, add_mk, Nat.zero_add, Nat.add_zero, pO18.cell, r18.cell]
        refine Al_e fun m w19 r19 e19 z19 f19 => ?_
        have s19 := f19.size
        have hel : SlN 37 eV w19 ⟨some ⟨m, 0, none⟩, 1, 1⟩ [(⟨q.tr, q.fl, 44, q.hp, [p0, p1, p2, p3, p4, p5, p6, p7, p8, p9, p10, p11, p12, p13, p14, p15, p16, p17, p18, p19, p20, p21, p22, p23, p24, p25, p26, p27, p28, p29, p30, p31], s16⟩ : V6T)] := (BufN.row (xs := [(⟨q.tr, q.fl, 44, q.hp, [p0, p1, p2, p3, p4, p5, p6, p7, p8, p9, p10, p11, p12, p13, p14, p15, p16, p17, p18, p19, p20, p21, p22, p23, p24, p25, p26, p27, p28, p29, p30, p31], s16⟩ : V6T)]) (by rw [List.flatMap_cons, List.flatMap_nil, List.append_nil, eV_eq]; exact r19)).sl eV_len (by omega)
        refine AppSl_bufN eV_len (pBuf18.ext f19) hel rfl (by omega) eV_one (by simp only [List.length_singleton]; omega) (by simp only [List.length_singleton]; omega) fun s20 w20 b20 f20 n20 => ?_
        have s20' := f20.size
        have pO20 := (pO18.ext f19).fr f20 fun hc => by have := q5 o hc; omega
        refine St_row pO20 rfl (by simp) fun w21 r21 f21 z21 => ?_
        simp only [List.set_cons_zero] at r21
        have f21o := f21 (· = o) rfl
        have F : Fr8 (busyW W (w8.heap.size + 1)) w21 (fun b => b = o ∨ (w8.heap.size + 1 < b ∧ (W.heap.size ≤ b ∨ SliceV.at buf b))) := by
          refine (((((((((((fbS.trans f11g ?_).trans f12g ?_).trans (f13 _) fun _ _ e => e).trans (f14 _) fun _ _ e => e).trans f15h ?_).trans f16 ?_).trans f17h ?_).trans f18h ?_).trans (f19 _) fun _ _ e => e).trans f20 ?_).trans f21o ?_)
          · intro y _ e; exact .inr ⟨by omega, .inl (by omega)⟩
          · intro y _ e; exact .inr ⟨by omega, .inl (by omega)⟩
          · intro y _ e; exact .inr ⟨by omega, .inl (by omega)⟩
          · intro y _ e; have := n13 y e; exact .inr ⟨by omega, .inl (by omega)⟩
          · intro y _ e; exact .inr ⟨by omega, .inl (by omega)⟩
          · intro y _ e; exact .inr ⟨by omega, .inl (by omega)⟩
          · intro y _ e; exact .inr ⟨q5 y e, .inr e⟩
          · intro y _ e; exact .inl e
        refine hnorm w21 _ F (fun b h1 h2 hS => ?_) ⟨s20, ys ++ [⟨q.tr, q.fl, 44, q.hp, [p0, p1, p2, p3, p4, p5, p6, p7, p8, p9, p10, p11, p12, p13, p14, p15, p16, p17, p18, p19, p20, p21, p22, p23, p24, p25, p26, p27, p28, p29, p30, p31], s16⟩], r21, b20.fr f21o fun z hz e => ?_, by simp [q3], ?_, ?_, ?_, ?_, by omega⟩
        · rcases hS with hS | ⟨hS, _⟩ <;> omega
        · rcases n20 z hz with g1 | g1
          · have := q5 z g1; omega
          · omega
        · intro j y z hy hz
          by_cases hj : j < ys.length
          · rw [List.getElem?_append_left hj] at hy
            refine (pInU j y z hy hz).fr F fun p hp hS => ?_
            have h1 := ylt j y z hy hz p hp
            have h2 := q6 y (List.mem_of_getElem? hy) p hp
            rcases hS with hS | ⟨_, hS | hS⟩
            · omega
            · omega
            · exact h2.2 hS
          · rw [List.getElem?_append_right (by omega)] at hy
            have hj2 : j = i := by
              have := (List.getElem?_eq_some_iff.1 hy).1
              simp at this; omega
            subst hj2
            rw [hx] at hz
            cases hz
            rw [q3, Nat.sub_self, List.getElem?_cons_zero] at hy
            cases hy
            refine ⟨⟨rfl, rfl, rfl, rfl⟩, hb32, SlB.of_buf (((b18.ext f19).fr f20 fun c hc e => ?_).fr f21o fun c hc e => ?_)⟩
            · have := blt c e; have := (n16' c hc).1; omega
            · have := (n16' c hc).1; omega
        · intro z hz
          rcases n20 z hz with g1 | g1
          · exact q5 z g1
          · omega
        · intro y hy p hp
          rcases List.mem_append.1 hy with hy | hy
          · obtain ⟨j, hj⟩ := List.getElem?_of_mem hy
            have hjl := (List.getElem?_eq_some_iff.1 hj).1
            have h2 := q6 y hy p hp
            have h1 := ylt j y _ hj (List.getElem?_eq_getElem (show j < xs.length by omega)) p hp
            refine ⟨h2.1, fun hc => ?_⟩
            rcases n20 _ hc with g1 | g1
            · exact h2.2 g1
            · omega
          · have : y = ⟨q.tr, q.fl, 44, q.hp, [p0, p1, p2, p3, p4, p5, p6, p7, p8, p9, p10, p11, p12, p13, p14, p15, p16, p17, p18, p19, p20, p21, p22, p23, p24, p25, p26, p27, p28, p29, p30, p31], s16⟩ := by simpa using hy
            subst this
            have hp : s16.a = some p := hp
            have hat16 : SliceV.at s16 p.block := by
              obtain ⟨_, ⟨h2, _⟩ | ⟨bb, pad, h2, _⟩⟩ := b16
              · rw [hp] at h2; cases h2
              · rw [hp] at h2; cases h2; exact ⟨0, hp⟩
            have h1 := (n16' _ hat16).1
            have h2 := l16 _ hat16
            refine ⟨by omega, fun hc => ?_⟩
            rcases n20 _ hc with g1 | g1
            · have := blt _ g1; omega
            · omega
        · exact fV.trans F fun y hy hS => by
            rcases hS with hS | ⟨hS, _⟩
            · exact hS
            · omega
      · rintro W ⟨buf, ys, q1, q2, q3, q4, q5, q6, q7, q8⟩ hmk
        have hmk := hmk rfl
        have rcW := rc8.fr q7 (by omega)
        have rdW := rd8.fr q7 (by omega)
        simp -zeta only [List.getElem?_cons_zero, LdV_some, dec_slice, q1.cell]
        refine St_row rcW rfl (by simp) fun w10 r10 f10 z10 => ?_
        simp only [List.set_cons_zero] at r10
        have f10c := f10 (· = c) rfl
        refine St_row (rdW.fr f10c (by omega)) rfl (by simp) fun w11 r11 f11 z11 => ?_
        simp only [List.set_cons_zero] at r11
        have f11d := f11 (· = d) rfl
        have pf := Fr8.putDef w11 w8.heap.size (.deferred none)
        have r10' := (r10.fr f11d (by omega)).fr pf (by omega)
        have r11' := r11.fr pf (by omega)
        refine ⟨?_, ?_⟩
        · rw [f11d.same _ (by omega) (by omega), f10c.same _ (by omega) (by omega)]; exact hmk
        simp -zeta only [List.getElem?_cons_zero, LdV_some, dec_slice, dec_int, r10'.cell, r11'.cell]
        have x8 : Ext w w8 := (((x4.trans x46).trans f7).trans f8)
        refine ⟨by trivial, ?_, ys, ?_⟩
        · exact (((x8.new q7 fun y hy e => by omega).new f10c fun y hy e => by omega).new f11d fun y hy e => by omega).new pf fun y hy e => by omega
        · have hbuf := ((q2.fr f10c fun z hz e => by have := q5 z hz; omega).fr f11d fun z hz e => by have := q5 z hz; omega).fr pf fun z hz e => by have := q5 z hz; omega
          have hyl2 : ys.length = xs.length := q3.trans hyl
          refine ⟨?_, fun z hz => by have := q5 _ (q2.at_eq hz); omega, fun y hy z hz => by have := (q6 y hy z hz).1; omega⟩
          refine ⟨hbuf.sl eV_len (by omega), by rw [List.length_map, hyl2], fun j y p hy hp => ?_⟩
          rw [List.getElem?_map] at hp
          obtain ⟨x, hx, rfl⟩ := Option.map_eq_some_iff.1 hp
          have hs := fun z hz => (q6 y (List.mem_of_getElem? hy) z hz).1
          exact (((q4 j y x hy hx).fr f10c fun z hz e => by have := hs z hz; omega).fr f11d fun z hz e => by have := hs z hz; omega).fr pf fun z hz e => by have := hs z hz; omega
  clear_value J12
  rw [decide_eq_false (show ¬ (mtu : Int) < 1280 by omega), cond_false, decide_eq_false (show ¬ (mtu : Int) > 65535 by omega), cond_false]
  simp -zeta only [Ld_eq, List.getElem?_cons_zero, LdV_some, dec_int, rb.cell]
  refine cm_be_Fits (fits_ok _ 4 w4) ?_
  rintro rr w5 ⟨hr, hw⟩
  subst hw
  rw [hr, decide_eq_true (show fitsP (id : Int) 4 from ⟨⟨by omega, by omega⟩, by omega, by simp; omega⟩), Bool.not_true]
  exact hJ
end Go.Proofs
