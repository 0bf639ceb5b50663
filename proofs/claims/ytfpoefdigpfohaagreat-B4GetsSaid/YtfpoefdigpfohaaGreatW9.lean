import Derived.Test.YtfpoefdigpfohaaGreatW8
section
namespace Go.Proofs
open Gp Gp.V4
set_option maxRecDepth 100000
set_option maxHeartbeats 1000000
structure FC where
  t0 : Int
  t1 : Int
  t2 : Int
  t3 : Int
  b : List Int
  s : ah
def U0 (l : List Int) : List Int := (l ++ List.replicate 32 0).take 32
def eV (x : FC) : List Value := .int .i64 x.t0 :: .int .i64 x.t1 :: .int .i64 x.t2 :: .int .i64 x.t3 :: ((U0 x.b).map (fun n => Value.int .u8 n) ++ [.slice x.s.a x.s.len x.s.cap])
theorem rJ (x : FC) : (eV x).length = 37 := by simp [eV, U0]
theorem L6 (x : FC) : ∀ v ∈ eV x, dD v = true := by
  intro v hv
  simp only [eV, List.mem_cons, List.mem_append, List.mem_map, List.not_mem_nil, or_false] at hv
  rcases hv with rfl | rfl | rfl | rfl | ⟨n, _, rfl⟩ | rfl <;> rfl
theorem FH (t0 t1 t2 t3 p0 p1 p2 p3 p4 p5 p6 p7 p8 p9 p10 p11 p12 p13 p14 p15 p16 p17 p18 p19 p20 p21 p22 p23 p24 p25 p26 p27 p28 p29 p30 p31 : Int) (s : ah) : eV ⟨t0, t1, t2, t3, [p0, p1, p2, p3, p4, p5, p6, p7, p8, p9, p10, p11, p12, p13, p14, p15, p16, p17, p18, p19, p20, p21, p22, p23, p24, p25, p26, p27, p28, p29, p30, p31], s⟩ = [.int .i64 t0, .int .i64 t1, .int .i64 t2, .int .i64 t3, .int .u8 p0, .int .u8 p1, .int .u8 p2, .int .u8 p3, .int .u8 p4, .int .u8 p5, .int .u8 p6, .int .u8 p7, .int .u8 p8, .int .u8 p9, .int .u8 p10, .int .u8 p11, .int .u8 p12, .int .u8 p13, .int .u8 p14, .int .u8 p15, .int .u8 p16, .int .u8 p17, .int .u8 p18, .int .u8 p19, .int .u8 p20, .int .u8 p21, .int .u8 p22, .int .u8 p23, .int .u8 p24, .int .u8 p25, .int .u8 p26, .int .u8 p27, .int .u8 p28, .int .u8 p29, .int .u8 p30, .int .u8 p31, .slice s.a s.len s.cap] := rfl
structure DN (W : World) (y : FC) (q : dZ) : Prop where
  n : y.t0 = q.tr ∧ y.t1 = q.fl ∧ y.t2 = q.nx ∧ y.t3 = q.hp
  b : y.b = bi q.src ++ bi q.dst
  s : aS W y.s q.data
theorem DN.fr {W W' : World} {y : FC} {q : dZ} {S : Nat -> Prop} (h : DN W y q) (hf : bF W W' S) (hs : ∀ x, y.s.a = some x -> ¬ S x.block) : DN W' y q := ⟨h.n, h.b, h.s.fr hf fun x hx _ => hs x hx⟩
theorem DN.ext {W W' : World} {y : FC} {q : dZ} (h : DN W y q) (hf : Ext W W') : DN W' y q := ⟨h.n, h.b, h.s.ext hf⟩
structure Va (W : World) (r : ah) (ys : List FC) (ps : List dZ) : Prop where
  sl : xQ 37 eV W r ys
  len : ys.length = ps.length
  in_ : ∀ (j : Nat) y q, ys[j]? = some y -> ps[j]? = some q -> DN W y q
  bf : gK 37 eV W r ys
  ap : ∀ y ∈ ys, ∀ p, y.s.a = some p -> ¬ ah.at r p.block
theorem Va.ext {W W' : World} {r : ah} {ys : List FC} {ps : List dZ} (h : Va W r ys ps) (hf : Ext W W') : Va W' r ys ps := ⟨h.sl.ext hf, h.len, fun j y q h1 h2 => (h.in_ j y q h1 h2).ext hf, h.bf.ext hf, h.ap⟩
theorem Rt {W W' : World} {l : Nat} (h : Ext W W') (hl : l < W.heap.size) : Ext (aZ W l) (aZ W' l) := by
  intro S
  have hs := h.size
  refine ⟨by simpa [aZ] using hs, fun b hb _ => ?_, (h S).io⟩
  have hb : b < W.heap.size := by simpa [aZ] using hb
  have e := (h fun _ => False).same b hb (by simp)
  simp only [aZ, Array.getElem?_modify, e]
theorem QA {w : World} {s : ah} (n : Int) : jK s n w fun v w' => ∃ f0 f1, v = Value.func (.func r_) #[] #[(Value.pointer (some ⟨f0, 0, none⟩)), (Value.pointer (some ⟨f1, 0, none⟩))] ∧ Row w' f0 [.int .i64 n] ∧ Row w' f1 [.slice s.a s.len s.cap] ∧ Ext w w' ∧ w.heap.size <= f0 ∧ w.heap.size <= f1 := by
  apply Dy
  refine ⟨rfl, aK fun f1 w1 r1 e1 z1 x1 => ⟨rfl, aK fun f0 w2 r2 e2 z2 x2 => ?_⟩⟩
  exact ⟨f0, f1, rfl, r2, r1.ext x2, x1.trans x2, by omega, by omega⟩
theorem Om {w : World} {q : dZ} {t0 t1 t2 t3 p0 p1 p2 p3 p4 p5 p6 p7 p8 p9 p10 p11 p12 p13 p14 p15 p16 p17 p18 p19 p20 p21 p22 p23 p24 p25 p26 p27 p28 p29 p30 p31 : Int} {s : ah} (h : vF w q t0 t1 t2 t3 [p0, p1, p2, p3, p4, p5, p6, p7, p8, p9, p10, p11, p12, p13, p14, p15] [p16, p17, p18, p19, p20, p21, p22, p23, p24, p25, p26, p27, p28, p29, p30, p31] s) (hc : q.check = 0) {id mtu : Nat} (hid : id < 4294967296) (hm : 1280 <= mtu) (hM : mtu <= 65535) :
    lH t0 t1 t2 t3 p0 p1 p2 p3 p4 p5 p6 p7 p8 p9 p10 p11 p12 p13 p14 p15 p16 p17 p18 p19 p20 p21 p22 p23 p24 p25 p26 p27 p28 p29 p30 p31 s (id : Int) (mtu : Int) w fun r e w' => e = 0 ∧ Ext w w' ∧ ∃ ys, Va w' r ys (rG q id mtu) ∧ yX w r ∧ ∀ y ∈ ys, yX w y.s := by
  obtain ⟨⟨rfl, rfl, rfl, rfl⟩, hsrc, hdst, hdata⟩ := h
  obtain ⟨⟨⟨fa, fb, fc⟩, fd, fe⟩, fl⟩ := fZ hc
  have fb' := mP fb
  have hlen := hdata.1
  have hb32 : ([p0, p1, p2, p3, p4, p5, p6, p7, p8, p9, p10, p11, p12, p13, p14, p15, p16, p17, p18, p19, p20, p21, p22, p23, p24, p25, p26, p27, p28, p29, p30, p31] : List Int) = bi q.src ++ bi q.dst := by rw [<- hsrc, <- hdst]; rfl
  apply JL
  refine aK fun a w1 r1 e1 z1 f1 => ⟨rfl, aK fun b w2 r2 e2 z2 f2 => aK fun c w3 r3 e3 z3 f3 => aK fun d w4 r4 e4 z4 f4 => ?_⟩
  have s1 := f1.size
  have s2 := f2.size
  have s3 := f3.size
  have s4 := f4.size
  have x14 := f2.trans (f3.trans f4)
  have x4 := f1.trans x14
  have ra := r1.ext x14
  have rb := (r2.ext f3).ext f4
  have rc := r3.ext f4
  have hd4 := hdata.ext x4
  intro J12
  have hJ : J12 false w4 := by
    simp -zeta only [J12, cond_false]
    simp -zeta only [sx, ra.cell]
    refine tV (zD q (s := s) hlen w4) ?_
    rintro _ w5 ⟨rfl, f5⟩
    rw [hc, show ((0 : Int) != 0) = false from rfl, cond_false]
    have ra5 := ra.ext f5
    simp -zeta only [List.getElem?_cons_zero, List.getElem?_cons_succ, aj, aA, au, ra5.cell]
    refine Nr (RQ (s := s) _ _ _ _ _ _ _ _ _ _ _ _ _ _ _ _ _ _ _ _ _ _ _ _ _ _ _ _ _ _ _ _ _ _ _ _ (by omega)) ?_
    rintro _ w6 ⟨rfl, f6⟩
    have x46 := f5.trans f6
    have s6 := x46.size
    have ra6 := ra.ext x46
    have rb6 := rb.ext x46
    have rc6 := rc.ext x46
    have rd6 := r4.ext x46
    have hd6 := hd4.ext x46
    by_cases hsm : 40 + (s.len : Int) <= (mtu : Int)
    · rw [decide_eq_true hsm, cond_true]
      simp -zeta only [List.getElem?_cons_zero, List.getElem?_cons_succ, aj, aA, ra6.cell]
      refine aI (iZ hd6 (by omega)) ?_
      rintro s7 w7 ⟨b7, _, f7, n7⟩
      have s7' := f7.size
      refine bM (ra6.ext f7) rfl (by simp) fun w8 r8 f8 z8 => ?_
      simp only [List.set_cons_zero, List.set_cons_succ] at r8
      have f8a := f8 (· = a) rfl
      simp -zeta only [List.getElem?_cons_zero, List.getElem?_cons_succ, aj, aA, au, r8.cell]
      refine aK fun m w9 r9 e9 z9 f9 => ?_
      have rc8 := ((rc6.ext f7).fr f8a (by omega)).ext f9
      have rd8 := ((rd6.ext f7).fr f8a (by omega)).ext f9
      have s9 := f9.size
      refine bM rc8 rfl (by simp) fun w10 r10 f10 z10 => ?_
      simp only [List.set_cons_zero] at r10
      have f10c := f10 (· = c) rfl
      refine bM (rd8.fr f10c (by omega)) rfl (by simp) fun w11 r11 f11 z11 => ?_
      simp only [List.set_cons_zero] at r11
      have f11d := f11 (· = d) rfl
      have r10' := r10.fr f11d (by omega)
      simp -zeta only [List.getElem?_cons_zero, aj, aA, au, r10'.cell, r11.cell]
      have hn7 : ∀ x, s7.a = some x -> w6.heap.size <= x.block := uV b7 n7
      have hm11 := (r9.fr f10c (by omega)).fr f11d (by omega)
      have hs11 : aS w11 s7 q.data := ((((aS.aV b7).fr f8a fun x hx _ e => by have := hn7 x hx; omega).ext f9).fr f10c fun x hx _ e => by have := hn7 x hx; omega).fr f11d fun x hx _ e => by have := hn7 x hx; omega
      have ecut : rG q id mtu = [q] := by unfold rG; rw [if_pos (by omega)]
      refine ⟨by trivial, ?_, [⟨q.tr, q.fl, q.nx, q.hp, [p0, p1, p2, p3, p4, p5, p6, p7, p8, p9, p10, p11, p12, p13, p14, p15, p16, p17, p18, p19, p20, p21, p22, p23, p24, p25, p26, p27, p28, p29, p30, p31], s7⟩], ?_⟩
      · exact (((((x4.trans x46).trans f7).new f8a fun y hy e => by omega).trans f9).new f10c fun y hy e => by omega).new f11d fun y hy e => by omega
      · rw [ecut]
        refine ⟨?_, fun x hx => by cases hx; simp only; omega, fun y hy x hx => ?_⟩
        rotate_left
        · have : y = ⟨q.tr, q.fl, q.nx, q.hp, [p0, p1, p2, p3, p4, p5, p6, p7, p8, p9, p10, p11, p12, p13, p14, p15, p16, p17, p18, p19, p20, p21, p22, p23, p24, p25, p26, p27, p28, p29, p30, p31], s7⟩ := by simpa using hy
          subst this
          have := hn7 x hx; omega
        have hbf := (gK.row (n := 37) (f := eV) (w := w11) (xs := [(⟨q.tr, q.fl, q.nx, q.hp, [p0, p1, p2, p3, p4, p5, p6, p7, p8, p9, p10, p11, p12, p13, p14, p15, p16, p17, p18, p19, p20, p21, p22, p23, p24, p25, p26, p27, p28, p29, p30, p31], s7⟩ : FC)]) (by rw [List.flatMap_cons, List.flatMap_nil, List.append_nil, FH]; exact hm11))
        refine ⟨hbf.sl rJ (by omega), rfl, fun j y p hy hp => ?_, hbf, fun y hy p hp hc => ?_⟩
        rotate_left
        · obtain rfl : y = _ := List.mem_singleton.1 hy
          have h1 := b7.lt (b7.at_eq hp)
          obtain ⟨o, hc⟩ := hc
          cases hc
          omega
        · match j with
          | 0 =>
            simp only [List.getElem?_cons_zero, Option.some.injEq] at hy hp
            subst hy hp
            exact ⟨⟨rfl, rfl, rfl, rfl⟩, hb32, hs11⟩
          | j + 1 => simp at hp
    · rw [decide_eq_false hsm, cond_false]
      refine aK fun o w7 r7 e7 z7 f7 => ?_
      have ra7 := ra6.ext f7
      have rb7 := rb6.ext f7
      have rc7 := rc6.ext f7
      have rd7 := rd6.ext f7
      have hd7 := hd6.ext f7
      have s7' := f7.size
      simp -zeta only [List.getElem?_cons_zero, List.getElem?_cons_succ, aj, aA, ra7.cell]
      rw [wrap_i64 (n := (mtu : Int) - 40) (by omega) (by omega), wrap_i64 (n := (mtu : Int) - 40 - 8) (by omega) (by omega), show (mtu : Int) - 40 - 8 = ((mtu - 48 : Nat) : Int) by omega]
      refine DK (QA _) ?_
      rintro _ w8 ⟨g0, g1, rfl, rg0, rg1, f8, lg0, lg1⟩
      have s8 := f8.size
      have ra8 := ra7.ext f8
      have rb8 := rb7.ext f8
      have rc8 := rc7.ext f8
      have rd8 := rd7.ext f8
      have ro8 := r7.ext f8
      have hd8 := hd7.ext f8
      have ecut : rG q id mtu = (dX (mtu - 48) ((mtu - 48) / 8 * 8) q.data (q.data.length + 1) 0).map (jl q id) := by unfold rG; rw [if_neg (by omega)]
      have hck : ∀ x ∈ dX (mtu - 48) ((mtu - 48) / 8 * 8) q.data (q.data.length + 1) 0, Jf (mtu - 48) q.data x := chunk_ok (by omega) (by omega) (Nat.zero_le _) rfl
      have hcl : (dX (mtu - 48) ((mtu - 48) / 8 * 8) q.data (q.data.length + 1) 0).length <= q.data.length + 1 := vk
      have hit := La (s := s) (D := q.data) (f0 := g0) (f1 := g1) (most := mtu - 48) (size := (mtu - 48) / 8 * 8) (by omega) (by omega) rfl (by omega)
      rw [ecut]
      generalize dX (mtu - 48) ((mtu - 48) / 8 * 8) q.data (q.data.length + 1) 0 = xs at hck hcl hit ⊢
      have hla : ji none w8 = w8.heap.size + 1 := rfl
      have hyl : (Tj s xs).length = xs.length := by simp [Tj]
      have hdl : ∀ x, s.a = some x -> 0 < q.data.length -> x.block < w8.heap.size := fun x hx h0 => hd8.lt hx h0
      refine Ce hit (fun i W => ∃ (buf : ah) (ys : List FC), Row W o [.slice buf.a buf.len buf.cap] ∧ gK 37 eV W buf ys ∧ ys.length = i ∧ (∀ (j : Nat) y x, ys[j]? = some y -> xs[j]? = some x -> DN W y (jl q id x)) ∧
          (∀ z, ah.at buf z -> w8.heap.size + 1 < z) ∧ (∀ y ∈ ys, ∀ x, y.s.a = some x -> w8.heap.size + 1 < x.block ∧ ¬ ah.at buf x.block) ∧ bF w8 W (· = o) ∧ w8.heap.size + 2 <= W.heap.size)
        (fun _ _ => False) (by simp) ?_ ?_ ?_ (by intro e W W' h; exact h.elim) (by intro e W h; exact h.elim) ?_ ?_ (by intro W h; exact h.elim) (by intro id W h; exact h.elim)
      · intro w9 f9 z9
        exact ⟨⟨none, 0, 0⟩, [], ro8.ext f9, gK.nil, rfl, fun j y x hy => by simp at hy, (by rintro z ⟨o, h⟩; cases h), fun y hy => by simp at hy, f9 _, by omega⟩
      · rintro i W ⟨_, _, _, _, _, _, _, _, hf, _⟩
        have hol := r7.lt
        exact ⟨rg0.fr hf (by omega), rg1.fr hf (by omega), hd8.fr hf (F9 hd8 ro8 (by intro v hv n e; subst e; simp at hv))⟩
      · rintro i W W' ⟨buf, ys, q1, q2, q3, q4, q5, q6, q7, q8⟩ hf
        have hs := hf.size
        refine ⟨buf, ys, q1.fr hf (by omega), q2.fr hf fun z hz e => by have := q5 z hz; omega, q3, fun j y x hy hx => (q4 j y x hy hx).fr hf fun z hz e => by have := (q6 y (List.mem_of_getElem? hy) z hz).1; omega, q5, q6, q7.trans hf fun y hy e => by omega, by omega⟩
      · intro i v W Kb hv ⟨buf, ys, q1, q2, q3, q4, q5, q6, q7, q8⟩ hlt hnorm _
        unfold Tj at hv
        rw [List.getElem?_map] at hv
        obtain ⟨x, hx, hv⟩ := Option.map_eq_some_iff.1 hv
        subst hv
        obtain ⟨hle, hat, hu, hlt2, hcut⟩ := hck x (List.mem_of_getElem? hx)
        have hil := (List.getElem?_eq_some_iff.1 hx).1
        have hol := ro8.lt
        rw [hla] at hlt hnorm ⊢
        have dpos : ∀ z, 0 < (jl q id z).data.length := fun z => by
          show 0 < (lC _ _ _ _ ++ z.2.2).length
          rw [List.length_append, lG]; omega
        have ylt : ∀ (j : Nat) y z, ys[j]? = some y -> xs[j]? = some z -> ∀ p, y.s.a = some p -> p.block < W.heap.size := fun j y z hy hz p hp => (q4 j y z hy hz).s.lt hp (dpos z)
        have blt : ∀ z, ah.at buf z -> z < W.heap.size := fun z hz => q2.lt hz
        refine aK fun g w9 r9 e9 z9 f9 => ?_
        refine aT r9 rfl rfl fun w10 r10 f10 z10 => ?_
        have f10g := f10 (· = g) rfl
        have x10 : Ext W w10 := f9.new f10g fun y hy e => by omega
        refine ⟨by rw [f10g.same _ (by omega) (by omega), (f9 fun _ => False).same _ hlt (by simp)], ?_⟩
        have fb : Ext (aZ W (w8.heap.size + 1)) (aZ w10 (w8.heap.size + 1)).drew := (Rt x10 hlt).trans (Ext.drew _)
        have fV : bF w8 (aZ W (w8.heap.size + 1)) (· = o) := q7.trans (bF.aZ W _) fun y hy e => by omega
        have fV' := fV.ext fb
        have pA := ra8.fr fV' (by omega)
        have pB := rb8.fr fV' (by omega)
        have pG : Row (aZ w10 (w8.heap.size + 1)).drew g _ := (r10.fr (bF.aZ w10 _) (by omega)).drew
        have hzV : (aZ w10 (w8.heap.size + 1)).drew.heap.size = w10.heap.size := by simp [aZ]
        have pO : Row (aZ w10 (w8.heap.size + 1)).drew o _ := (q1.fr (bF.aZ W (w8.heap.size + 1)) (by omega)).ext fb
        have pBuf : gK 37 eV (aZ w10 (w8.heap.size + 1)).drew buf ys := (q2.fr (bF.aZ W (w8.heap.size + 1)) fun z hz e => by have := q5 z hz; omega).ext fb
        have pD : aS (aZ w10 (w8.heap.size + 1)).drew s q.data := hd8.fr fV' (F9 hd8 ro8 (by intro v hv n e; subst e; simp at hv))
        have pInU : ∀ (j : Nat) y z, ys[j]? = some y -> xs[j]? = some z -> DN (aZ W (w8.heap.size + 1)) y (jl q id z) := fun j y z hy hz => (q4 j y z hy hz).fr (bF.aZ W (w8.heap.size + 1)) fun p hp e => by have := (q6 y (List.mem_of_getElem? hy) p hp).1; omega
        have fbS := fb (fun b => b = o ∨ (w8.heap.size + 1 < b ∧ (W.heap.size <= b ∨ ah.at buf b)))
        generalize (aZ w10 (w8.heap.size + 1)).drew = V at pA pB pG hzV pO pBuf pD fbS ⊢
        simp -zeta only [sx, pA.cell, pB.cell]
        refine bM pG rfl (by simp) fun w11 r11 f11 z11 => ?_
        simp only [List.set_cons_zero] at r11
        have f11g := f11 (· = g) rfl
        simp -zeta only [true_and, List.getElem?_cons_zero, (pB.fr f11g (by omega)).cell]
        refine bM r11 rfl (by simp) fun w12 r12 f12 z12 => ?_
        simp only [List.set_cons_zero, List.set_cons_succ] at r12
        have f12g := f12 (· = g) rfl
        simp -zeta only [List.getElem?_cons_zero, List.getElem?_cons_succ, aj, au, aJ, r12.cell]
        refine AX (Ez x.2.1 (by omega) (by omega) (by omega) hu hid) ?_
        rintro r e w13 ⟨rfl, b13, f13, n13⟩
        rw [show ((0 : Int) != 0) = false from rfl, cond_false]
        have s13 := f13.size
        have pA13 := ((pA.fr f11g (by omega)).fr f12g (by omega)).ext f13
        simp -zeta only [List.getElem?_cons_zero, List.getElem?_cons_succ, aj, aA, au, pA13.cell]
        refine aK fun h w14 r14 e14 z14 f14 => ?_
        have s14 := f14.size
        refine aT r14 rfl rfl fun w15 r15 f15 z15 => ?_
        have f15h := f15 (· = h) rfl
        have rlt : ∀ c, ah.at r c -> c < w13.heap.size := fun c hc => b13.lt hc
        have b15 := (b13.ext f14).fr f15h fun c hc e => by have := rlt c hc; omega
        have sD : ∀ p, s.a = some p -> 0 < q.data.length -> p.block < w8.heap.size := hdl
        have d15 : aS w15 s q.data := ((((pD.fr f11g fun p hp h0 e => by have := sD p hp h0; omega).fr f12g fun p hp h0 e => by have := sD p hp h0; omega).ext f13).ext f14).fr f15h fun p hp h0 e => by have := sD p hp h0; omega
        have c15 : aS w15 (Hf s x.1 (x.1 + x.2.2.length)) x.2.2 := by
          have := TF d15 (lo := x.1) (hi := x.1 + x.2.2.length) (by omega) hlt2
          rw [hcut] at this; exact this
        refine bC b15 c15 (by rw [lG]; omega) fun s16 w16 b16 f16 n16 _ => ?_
        have s16' := f16.size
        have n16' : ∀ c, ah.at s16 c -> w12.heap.size <= c ∧ c ≠ h := fun c hc => by
          rcases n16 c hc with g1 | g1
          · have := n13 c g1; have := rlt c g1; exact ⟨by omega, by omega⟩
          · exact ⟨by omega, by omega⟩
        have l16 : ∀ c, ah.at s16 c -> c < w16.heap.size := fun c hc => b16.lt hc
        have r16 := r15.fr f16 fun hc => by have := rlt h hc; omega
        refine bM r16 rfl (by simp) fun w17 r17 f17 z17 => ?_
        simp only [List.set_cons_zero, List.set_cons_succ] at r17
        have f17h := f17 (· = h) rfl
        refine bM r17 rfl (by simp) fun w18 r18 f18 z18 => ?_
        simp only [List.set_cons_zero, List.set_cons_succ] at r18
        have f18h := f18 (· = h) rfl
        have pO18 := (((((((pO.fr f11g (by omega)).fr f12g (by omega)).ext f13).ext f14).fr f15h (by omega)).fr f16 fun hc => by have := n13 o hc; omega).fr f17h (by omega)).fr f18h (by omega)
        have pBuf18 := (((((((pBuf.fr f11g fun z hz e => by have := blt z hz; omega).fr f12g fun z hz e => by have := blt z hz; omega).ext f13).ext f14).fr f15h fun z hz e => by have := blt z hz; omega).fr f16 fun z hz hc => by have := n13 z hc; have := blt z hz; omega).fr f17h fun z hz e => by have := blt z hz; omega).fr f18h fun z hz e => by have := blt z hz; omega
        have b18 := (b16.fr f17h fun c hc e => (n16' c hc).2 e).fr f18h fun c hc e => (n16' c hc).2 e
        simp -zeta only [sx, pO18.cell, r18.cell]
        refine aK fun m w19 r19 e19 z19 f19 => ?_
        have s19 := f19.size
        have hel : xQ 37 eV w19 ⟨some ⟨m, 0, none⟩, 1, 1⟩ [(⟨q.tr, q.fl, 44, q.hp, [p0, p1, p2, p3, p4, p5, p6, p7, p8, p9, p10, p11, p12, p13, p14, p15, p16, p17, p18, p19, p20, p21, p22, p23, p24, p25, p26, p27, p28, p29, p30, p31], s16⟩ : FC)] := (gK.row (xs := [(⟨q.tr, q.fl, 44, q.hp, [p0, p1, p2, p3, p4, p5, p6, p7, p8, p9, p10, p11, p12, p13, p14, p15, p16, p17, p18, p19, p20, p21, p22, p23, p24, p25, p26, p27, p28, p29, p30, p31], s16⟩ : FC)]) (by rw [List.flatMap_cons, List.flatMap_nil, List.append_nil, FH]; exact r19)).sl rJ (by omega)
        refine xC rJ (pBuf18.ext f19) hel rfl (by omega) L6 (by simp only [List.length_singleton]; omega) (by simp only [List.length_singleton]; omega) fun s20 w20 b20 f20 n20 => ?_
        have s20' := f20.size
        have pO20 := (pO18.ext f19).fr f20 fun hc => by have := q5 o hc; omega
        refine bM pO20 rfl (by simp) fun w21 r21 f21 z21 => ?_
        simp only [List.set_cons_zero] at r21
        have f21o := f21 (· = o) rfl
        have F : bF (aZ W (w8.heap.size + 1)) w21 (fun b => b = o ∨ (w8.heap.size + 1 < b ∧ (W.heap.size <= b ∨ ah.at buf b))) := by
          refine (((((((((((fbS.trans f11g ?_).trans f12g ?_).trans (f13 _) fun _ _ e => e).trans (f14 _) fun _ _ e => e).trans f15h ?_).trans f16 ?_).trans f17h ?_).trans f18h ?_).trans (f19 _) fun _ _ e => e).trans f20 ?_).trans f21o ?_)
          · intro y _ e; exact .inr ⟨by omega, .inl (by omega)⟩
          · intro y _ e; exact .inr ⟨by omega, .inl (by omega)⟩
          · intro y _ e; exact .inr ⟨by omega, .inl (by omega)⟩
          · intro y _ e; have := n13 y e; exact .inr ⟨by omega, .inl (by omega)⟩
          · intro y _ e; exact .inr ⟨by omega, .inl (by omega)⟩
          · intro y _ e; exact .inr ⟨by omega, .inl (by omega)⟩
          · intro y _ e; exact .inr ⟨q5 y e, .inr e⟩
          · intro y _ e; exact .inl e
        refine hnorm w21 _ F (fun b h1 h2 hS => ?_) ⟨s20, ys ++ [⟨q.tr, q.fl, 44, q.hp, [p0, p1, p2, p3, p4, p5, p6, p7, p8, p9, p10, p11, p12, p13, p14, p15, p16, p17, p18, p19, p20, p21, p22, p23, p24, p25, p26, p27, p28, p29, p30, p31], s16⟩], r21, b20.fr f21o fun z hz e => ?_, by simp [q3], ?_, ?_, ?_, ?_, by omega⟩
        · rcases hS with hS | ⟨hS, _⟩ <;> omega
        · rcases n20 z hz with g1 | g1
          · have := q5 z g1; omega
          · omega
        · intro j y z hy hz
          by_cases hj : j < ys.length
          · rw [List.getElem?_append_left hj] at hy
            refine (pInU j y z hy hz).fr F fun p hp hS => ?_
            have h1 := ylt j y z hy hz p hp
            have h2 := q6 y (List.mem_of_getElem? hy) p hp
            rcases hS with hS | ⟨_, hS | hS⟩
            · omega
            · omega
            · exact h2.2 hS
          · rw [List.getElem?_append_right (by omega)] at hy
            have hj2 : j = i := by
              have := (List.getElem?_eq_some_iff.1 hy).1
              simp at this; omega
            subst hj2
            rw [hx] at hz
            cases hz
            rw [q3, Nat.sub_self, List.getElem?_cons_zero] at hy
            cases hy
            refine ⟨⟨rfl, rfl, rfl, rfl⟩, hb32, aS.aV (((b18.ext f19).fr f20 fun c hc e => ?_).fr f21o fun c hc e => ?_)⟩
            · have := blt c e; have := (n16' c hc).1; omega
            · have := (n16' c hc).1; omega
        · intro z hz
          rcases n20 z hz with g1 | g1
          · exact q5 z g1
          · omega
        · intro y hy p hp
          rcases List.mem_append.1 hy with hy | hy
          · obtain ⟨j, hj⟩ := List.getElem?_of_mem hy
            have hjl := (List.getElem?_eq_some_iff.1 hj).1
            have h2 := q6 y hy p hp
            have h1 := ylt j y _ hj (List.getElem?_eq_getElem (show j < xs.length by omega)) p hp
            refine ⟨h2.1, fun hc => ?_⟩
            rcases n20 _ hc with g1 | g1
            · exact h2.2 g1
            · omega
          · have : y = ⟨q.tr, q.fl, 44, q.hp, [p0, p1, p2, p3, p4, p5, p6, p7, p8, p9, p10, p11, p12, p13, p14, p15, p16, p17, p18, p19, p20, p21, p22, p23, p24, p25, p26, p27, p28, p29, p30, p31], s16⟩ := by simpa using hy
            subst this
            have hp : s16.a = some p := hp
            have hat16 : ah.at s16 p.block := by
              obtain ⟨_, ⟨h2, _⟩ | ⟨bb, pad, h2, _⟩⟩ := b16
              · rw [hp] at h2; cases h2
              · rw [hp] at h2; cases h2; exact ⟨0, hp⟩
            have h1 := (n16' _ hat16).1
            have h2 := l16 _ hat16
            refine ⟨by omega, fun hc => ?_⟩
            rcases n20 _ hc with g1 | g1
            · have := blt _ g1; omega
            · omega
        · exact fV.trans F fun y hy hS => by
            rcases hS with hS | ⟨hS, _⟩
            · exact hS
            · omega
      · rintro W ⟨buf, ys, q1, q2, q3, q4, q5, q6, q7, q8⟩ hmk
        have hmk := hmk rfl
        have rcW := rc8.fr q7 (by omega)
        have rdW := rd8.fr q7 (by omega)
        simp -zeta only [List.getElem?_cons_zero, aj, aA, q1.cell]
        refine bM rcW rfl (by simp) fun w10 r10 f10 z10 => ?_
        simp only [List.set_cons_zero] at r10
        have f10c := f10 (· = c) rfl
        refine bM (rdW.fr f10c (by omega)) rfl (by simp) fun w11 r11 f11 z11 => ?_
        simp only [List.set_cons_zero] at r11
        have f11d := f11 (· = d) rfl
        have pf := bF.nT w11 w8.heap.size (.deferred none)
        have r10' := (r10.fr f11d (by omega)).fr pf (by omega)
        have r11' := r11.fr pf (by omega)
        refine ⟨?_, ?_⟩
        · rw [f11d.same _ (by omega) (by omega), f10c.same _ (by omega) (by omega)]; exact hmk
        simp -zeta only [List.getElem?_cons_zero, aj, aA, au, r10'.cell, r11'.cell]
        have x8 : Ext w w8 := (((x4.trans x46).trans f7).trans f8)
        refine ⟨by trivial, ?_, ys, ?_⟩
        · exact (((x8.new q7 fun y hy e => by omega).new f10c fun y hy e => by omega).new f11d fun y hy e => by omega).new pf fun y hy e => by omega
        · have hbuf := ((q2.fr f10c fun z hz e => by have := q5 z hz; omega).fr f11d fun z hz e => by have := q5 z hz; omega).fr pf fun z hz e => by have := q5 z hz; omega
          have hyl2 : ys.length = xs.length := q3.trans hyl
          refine ⟨?_, fun z hz => by have := q5 _ (q2.at_eq hz); omega, fun y hy z hz => by have := (q6 y hy z hz).1; omega⟩
          refine ⟨hbuf.sl rJ (by omega), by rw [List.length_map, hyl2], fun j y p hy hp => ?_, hbuf, fun y hy p hp => (q6 y hy p hp).2⟩
          rw [List.getElem?_map] at hp
          obtain ⟨x, hx, rfl⟩ := Option.map_eq_some_iff.1 hp
          have hs := fun z hz => (q6 y (List.mem_of_getElem? hy) z hz).1
          exact (((q4 j y x hy hx).fr f10c fun z hz e => by have := hs z hz; omega).fr f11d fun z hz e => by have := hs z hz; omega).fr pf fun z hz e => by have := hs z hz; omega
  clear_value J12
  rw [decide_eq_false (show ¬ (mtu : Int) < 1280 by omega), cond_false, decide_eq_false (show ¬ (mtu : Int) > 65535 by omega), cond_false]
  simp -zeta only [sx, rb.cell]
  refine cu (gW _ 4 w4) ?_
  rintro rr w5 ⟨hr, hw⟩
  subst hw
  rw [hr, decide_eq_true (show aU (id : Int) 4 from ⟨⟨by omega, by omega⟩, by omega, by simp; omega⟩), Bool.not_true]
  exact hJ
end Go.Proofs
end
section
namespace Go.Proofs
open Gp Gp.V4
set_option maxRecDepth 100000
set_option maxHeartbeats 1000000
theorem TD {f : FuncId} {cap : Array Value} {sh : List Shape} {args : List Value} {w : World} {K : Value -> World -> Prop} (hb : iF Tryz.prog f = true) (h : wL Tryz.prog sh f (args ++ cap.toList) w K) :
    iC Tryz.prog sh (.func (.func f) #[] cap) args w K := by
  unfold iC
  simp only [hb, cond_true]
  exact h
def ownB : List UInt8 := [32, 2, 0, 0, 0, 0, 0, 0, 0, 0, 0, 0, 0, 0, 0, 0]
def uH : List UInt8 := [32, 1, 0, 0, 0, 0, 0, 0, 0, 0, 0, 0, 0, 0, 0, 0]
structure BW (w : World) (x ct l : Nat) (mtu : Int) (tb : Addr) (id : Int) (cs : List Int) : Prop where
  hd : Row w x (.int .u8 32 :: .int .u8 2 :: .int .u8 0 :: .int .u8 0 :: .int .u8 0 :: .int .u8 0 :: .int .u8 0 :: .int .u8 0 :: .int .u8 0 :: .int .u8 0 :: .int .u8 0 :: .int .u8 0 :: .int .u8 0 :: .int .u8 0 :: .int .u8 0 :: .int .u8 0 :: .int .u8 32 :: .int .u8 1 :: .int .u8 0 :: .int .u8 0 :: .int .u8 0 :: .int .u8 0 :: .int .u8 0 :: .int .u8 0 :: .int .u8 0 :: .int .u8 0 :: .int .u8 0 :: .int .u8 0 :: .int .u8 0 :: .int .u8 0 :: .int .u8 0 :: .int .u8 0 :: .int .i64 mtu :: .int .i64 64 :: .int .i64 4 :: .int .i64 10000 :: .int .i64 60 :: .pointer (some tb) :: .pointer (some ⟨ct, 0, none⟩) :: .int .i64 0 :: .int .i64 id :: [])
  cr : Row w ct [.slice (some ⟨l, 0, none⟩) 14 14]
  ls : Row w l (cs.map fun n => Value.int .i64 n)
  len : cs.length = 14
  ne : x ≠ ct ∧ x ≠ l ∧ ct ≠ l
section
variable {w w' : World} {x ct l : Nat} {mtu : Int} {tb : Addr} {id : Int} {cs : List Int}
theorem BW.fr {S : Nat -> Prop} (h : BW w x ct l mtu tb id cs) (hf : bF w w' S) (h1 : ¬ S x) (h2 : ¬ S ct) (h3 : ¬ S l) : BW w' x ct l mtu tb id cs := ⟨h.hd.fr hf h1, h.cr.fr hf h2, h.ls.fr hf h3, h.len, h.ne⟩
theorem BW.ext (h : BW w x ct l mtu tb id cs) (hf : Ext w w') : BW w' x ct l mtu tb id cs := h.fr (hf fun _ => False) (by simp) (by simp) (by simp)
theorem Cc (h : BW w x ct l mtu tb id cs) : iL (some ⟨x, 0, none⟩) w fun r w' => r = true ∧ w' = w := by
  apply Dk
  simp only [sx, h.hd.cell, Bool.not_false]
  exact ⟨by trivial, by trivial⟩
theorem UG (h : BW w x ct l mtu tb id cs) {r : Nat} (h0 : 0 < r) (h14 : r < 14) : bJ (some ⟨x, 0, none⟩) (r : Int) w fun e w' => e = (r : Int) ∧ bF w w' (· = l) ∧ ∃ cs', BW w' x ct l mtu tb id cs' := by
  apply wG
  simp only [sx, h.hd.cell]
  apply mV
  intro J3
  have hJ : J3 false w := by
    simp only [sx, J3, h.cr.cell]
    have hc : (cs.map fun n => Value.int .i64 n)[r]? = some (.int .i64 (cs[r]'(by rw [h.len]; exact h14))) := by
      rw [List.getElem?_map, List.getElem?_eq_getElem (by rw [h.len]; exact h14)]; rfl
    refine ⟨by omega, by omega, ?_⟩
    simp only [aj, au, Int.toNat_natCast, Nat.mul_one, h.ls.cell, hc]
    refine ⟨by omega, by omega, ?_⟩
    refine bM h.ls rfl (by rw [List.length_map, h.len]; omega) fun w1 r1 f1 z1 => ?_
    have f1l := f1 (· = l) rfl
    refine ⟨by trivial, f1l, cs.set r (IntKind.i64.wrap (cs[r]'(by rw [h.len]; exact h14) + 1)), h.hd.fr f1l h.ne.2.1, h.cr.fr f1l h.ne.2.2, ?_, by rw [List.length_set]; exact h.len, h.ne⟩
    rw [<- List.map_set] at r1
    exact r1
  clear_value J3
  apply nS
  simp only [sx, Bool.not_false, decide_eq_true (show (r : Int) >= 0 by omega), h.cr.cell, decide_eq_true (show (r : Int) < ((14 : Nat) : Int) by omega), Bool.not_true]
  rw [show ((r : Int) == 0) = false by rw [beq_eq_false_iff_ne]; omega]
  exact hJ
end
theorem Td {w : World} (p : dL) {o d : ah} (ho : aS w o p.opts) (hd : aS w d p.data) (h1 : p.opts.length <= 2 ^ 40) (h2 : p.data.length <= 2 ^ 40) (ht : 0 <= p.ttl ∧ p.ttl <= 255) :
    oW p.tos p.id p.off p.ttl p.proto p.src p.dst p.df p.mf o d w fun t i o' l' p' s d' df mf op da ok w' => ok = decide (1 < p.ttl) ∧ (1 < p.ttl -> LQ w' { p with ttl := p.ttl - 1 } t i o' l' p' s d' df mf op da) ∧ Ext w w' := by
  apply JJ
  refine aK fun a w1 r1 e1 z1 f1 => aK fun b w2 r2 e2 z2 f2 => ?_
  have r1' := r1.ext f2
  have s1 := f1.size
  have s2 := f2.size
  have x2 := f1.trans f2
  simp only [sx, r1'.cell]
  by_cases hb : p.ttl <= 1
  · rw [decide_eq_true hb, cond_true]
    refine aT r2 rfl rfl fun w3 r3 f3 z3 => ?_
    simp only [List.getElem?_cons_zero, List.getElem?_cons_succ, aj, aA, au, aJ, r3.cell]
    exact ⟨by rw [decide_eq_false (by omega)], fun h => by omega, x2.new (f3 (· = b) rfl) fun y hy e => by omega⟩
  rw [decide_eq_false hb, cond_false]
  refine bM r1' rfl (by simp) fun w3 r3 f3 z3 => ?_
  simp only [List.set_cons_zero, List.set_cons_succ] at r3
  have f3a := f3 (· = a) rfl
  have x3 : Ext w w3 := x2.new f3a fun y hy e => by omega
  have x3d := x3.trans (Ext.drew w3)
  have r3d := r3.drew
  have zd : w3.drew.heap.size = w3.heap.size := rfl
  simp only [List.getElem?_cons_zero, List.getElem?_cons_succ, aj, aA, r3d.cell]
  refine aI (iZ (ho.ext x3d) (by omega)) ?_
  rintro so w4 ⟨b4, _, f4, n4⟩
  have s4 := f4.size
  have r4 := r3d.ext f4
  simp only [true_and, List.getElem?_cons_zero, List.getElem?_cons_succ, r4.cell]
  refine aI (iZ ((hd.ext x3d).ext f4) (by omega)) ?_
  rintro sd w5 ⟨b5, _, f5, n5⟩
  have s5 := f5.size
  refine bM (r4.ext f5) rfl (by simp) fun w6 r6 f6 z6 => ?_
  simp only [List.set_cons_zero, List.set_cons_succ] at r6
  have f6a := f6 (· = a) rfl
  refine bM r6 rfl (by simp) fun w7 r7 f7 z7 => ?_
  simp only [List.set_cons_zero, List.set_cons_succ] at r7
  have f7a := f7 (· = a) rfl
  simp only [List.getElem?_cons_zero, List.getElem?_cons_succ, aj, aA, au, aJ, r7.cell]
  have r2b := (((((r2.fr f3a (by omega)).drew.ext f4).ext f5).fr f6a (by omega)).fr f7a (by omega))
  refine aT r2b rfl rfl fun w8 r8 f8 z8 => ?_
  have f8b := f8 (· = b) rfl
  simp only [List.getElem?_cons_zero, List.getElem?_cons_succ, aj, aA, au, aJ, r8.cell]
  refine ⟨by rw [decide_eq_true (by omega)], fun _ => ⟨rfl, rfl, rfl, by rw [wrap_i64 (by omega) (by omega)], rfl, rfl, rfl, rfl, rfl, ?_, ?_⟩, ?_⟩
  · exact aS.aV ((((b4.ext f5).fr f6a fun c hc e => by have := n4 c hc; omega).fr f7a fun c hc e => by have := n4 c hc; omega).fr f8b fun c hc e => by have := n4 c hc; omega)
  · exact aS.aV (((b5.fr f6a fun c hc e => by have := n5 c hc; omega).fr f7a fun c hc e => by have := n5 c hc; omega).fr f8b fun c hc e => by have := n5 c hc; omega)
  · exact (((((x3d.trans f4).trans f5).new f6a fun y hy e => by omega).new f7a fun y hy e => by omega).new f8b fun y hy e => by omega)
theorem uU {n a b : Int} (h : a <= n ∧ n <= b) {w : World} {K : Value -> World -> Prop} (hK : K (.bool true) w) : iC Tryz.prog [.one .bool] (Value.func (.func 41) #[] #[]) [(Value.int .i64 n), (Value.int .i64 a), (Value.int .i64 b)] w K := by
  refine TD (by kernel_rfl) ?_
  refine Fe (a0 := n) (a1 := a) (a2 := b) (K := fun r w' => K (Value.bool r) w') ?_
  simp only [decide_eq_true (show n >= a from h.1), decide_eq_true h.2, cond_true]
  exact hK
theorem UF (w : World) : lN 4 10000 60 w fun p e w' => e = 0 ∧ (∃ t : Nat, p = some ⟨t, 0, none⟩) ∧ Ext w w' := by
  apply Ak
  intro J4
  have hJ : J4 false w := by
    simp only [J4, cond_false, Al]
    exact ⟨by trivial, ⟨_, rfl⟩, fun S => (bF.alloc w _ S).trans (bF.alloc _ _ S) fun _ _ e => e⟩
  clear_value J4
  refine uU (by omega) ⟨true, rfl, ?_⟩
  rw [Bool.not_true, cond_false]
  refine uU (by omega) ⟨true, rfl, ?_⟩
  rw [Bool.not_true, cond_false]
  refine uU (by omega) ⟨true, rfl, ?_⟩
  rw [Bool.not_true]
  exact hJ
theorem OL (w : World) : kJ w fun p w' => (∃ ct l : Nat, p = some ⟨ct, 0, none⟩ ∧ Row w' ct [.slice (some ⟨l, 0, none⟩) 14 14] ∧ Row w' l ((List.replicate 14 (0 : Int)).map fun n => Value.int .i64 n) ∧ w.heap.size <= l ∧ l < ct ∧ ct < w'.heap.size) ∧ Ext w w' := by
  apply EF
  refine KR (by omega) (by omega) (by omega) (by omega) fun l w1 r1 e1 z1 f1 => ?_
  refine aK fun ct w2 r2 e2 z2 f2 => ?_
  have f1 : Ext w w1 := f1
  refine ⟨⟨ct, l, rfl, r2, ?_, by omega, by omega, by omega⟩, f1.trans f2⟩
  have := r1.ext f2
  exact this
theorem OC (a0 a1 a2 a3 a4 a5 a6 a7 a8 a9 a10 a11 a12 a13 a14 a15 : Int) (h : a0 = 32) (w : World) : lM a0 a1 a2 a3 a4 a5 a6 a7 a8 a9 a10 a11 a12 a13 a14 a15 w fun r w' => r = true ∧ Ext w w' := by
  subst h
  apply Ku
  refine aK fun a w1 r1 e1 z1 f1 => aK fun b w2 r2 e2 z2 f2 => ?_
  have r1' := r1.ext f2
  simp only [sx, r1'.cell, r2.cell]
  rw [show ((32 : Int) == 0) = false from rfl, Bool.false_and, Bool.not_false, cond_true]
  refine ⟨by omega, by omega, ?_⟩
  simp only [List.getElem?_cons_zero, aj, au, show Int.toNat 0 * 1 = 0 from rfl]
  exact ⟨by trivial, f1.trans f2⟩
theorem Ed {n a b : Int} (h : a <= n ∧ n <= b) (w : World) : fJ n a b w fun r w' => r = true ∧ w' = w := by
  apply He
  simp only [decide_eq_true h.1, decide_eq_true h.2, cond_true]
  exact ⟨by trivial, by trivial⟩
theorem RZ {m : Int} (hm : 1280 <= m ∧ m <= 65535) (w : World) : je 32 2 0 0 0 0 0 0 0 0 0 0 0 0 0 0 32 1 0 0 0 0 0 0 0 0 0 0 0 0 0 0 m 64 4 10000 60 w fun r w' => r = true ∧ Ext w w' := by
  apply Bd
  refine aK fun a w1 r1 e1 z1 f1 => ?_
  intro J4
  have hJ : ∀ W, Ext w1 W -> J4 true W := by
    intro W hx
    have rW := r1.ext hx
    simp -zeta only [J4]
    simp only [sx, rW.cell]
    refine kV (Ed (by omega) W) ?_
    rintro _ W1 ⟨rfl, hw⟩
    subst hw
    simp only [cond_true, List.getElem?_cons_zero, List.getElem?_cons_succ, aj, au, rW.cell]
    refine kV (Ed (by omega) _) ?_
    rintro _ W2 ⟨rfl, hw⟩
    subst hw
    simp only [cond_true, List.getElem?_cons_zero, List.getElem?_cons_succ, aj, au, rW.cell]
    refine kV (Ed (by omega) _) ?_
    rintro _ W3 ⟨rfl, hw⟩
    subst hw
    simp only [cond_true, List.getElem?_cons_zero, List.getElem?_cons_succ, aj, au, rW.cell]
    refine kV (Ed (by omega) _) ?_
    rintro _ W4 ⟨rfl, hw⟩
    subst hw
    simp only [cond_true, List.getElem?_cons_zero, List.getElem?_cons_succ, aj, au, rW.cell]
    refine kV (Ed (by omega) _) ?_
    rintro _ W5 ⟨rfl, hw⟩
    subst hw
    exact ⟨rfl, f1.trans hx⟩
  clear_value J4
  simp -zeta only [sx, r1.cell]
  refine zT (OC _ _ _ _ _ _ _ _ _ _ _ _ _ _ _ _ rfl w1) ?_
  rintro _ w2 ⟨rfl, f2⟩
  have r2 := r1.ext f2
  simp -zeta only [cond_true, List.getElem?_cons_zero, List.getElem?_cons_succ, aj, au, r2.cell]
  refine zT (OC _ _ _ _ _ _ _ _ _ _ _ _ _ _ _ _ rfl w2) ?_
  rintro _ w3 ⟨rfl, f3⟩
  have r3 := r2.ext f3
  simp -zeta only [cond_true, List.getElem?_cons_zero, List.getElem?_cons_succ, aj, au, r3.cell]
  exact hJ w3 (f2.trans f3)
theorem yA {w : World} {K : Int -> Int -> Int -> Int -> Int -> Int -> Int -> Int -> Int -> Int -> Int -> Int -> Int -> Int -> Int -> Int -> Int -> Int -> Int -> Int -> Int -> Int -> Int -> Int -> Int -> Int -> Int -> Int -> Int -> Int -> Int -> Int -> Int -> Int -> Int -> Int -> Int -> World -> Prop} (h : ∀ w', Ext w w' -> K 32 2 0 0 0 0 0 0 0 0 0 0 0 0 0 0 32 1 0 0 0 0 0 0 0 0 0 0 0 0 0 0 1280 64 4 10000 60 w') : jW w K := by
  apply Iy
  refine aK fun a w1 r1 e1 z1 f1 => ?_
  refine aT r1 rfl rfl fun w2 r2 f2 z2 => ?_
  simp only [sx, r2.cell]
  exact h w2 (f1.new (f2 (· = a) rfl) fun y hy e => by omega)
theorem Vf {m : Int} (hm : 1280 <= m ∧ m <= 65535) (w : World) : pJ 32 2 0 0 0 0 0 0 0 0 0 0 0 0 0 0 32 1 0 0 0 0 0 0 0 0 0 0 0 0 0 0 m 64 4 10000 60 w fun p e w' => e = 0 ∧ (∃ x ct l tb, p = some ⟨x, 0, none⟩ ∧ BW w' x ct l m tb 1 (List.replicate 14 0) ∧ w.heap.size <= x ∧ w.heap.size <= ct ∧ w.heap.size <= l) ∧ Ext w w' := by
  apply FT
  refine aK fun a w1 r1 e1 z1 f1 => ?_
  simp only [sx, r1.cell]
  refine rZ (RZ hm w1) ?_
  rintro _ w2 ⟨rfl, f2⟩
  have r2 := r1.ext f2
  rw [Bool.not_true, cond_false]
  simp only [List.getElem?_cons_zero, List.getElem?_cons_succ, aj, au, r2.cell]
  refine Aa (UF w2) ?_
  rintro p e w3 ⟨rfl, ⟨t, rfl⟩, f3⟩
  have r3 := (r2.ext f3).drew
  rw [show ((0 : Int) != 0) = false from rfl, cond_false]
  simp only [List.getElem?_cons_zero, List.getElem?_cons_succ, aj, au, r3.cell]
  refine wK (OL w3.drew) ?_
  rintro p w4 ⟨⟨ct, l, rfl, rc, rl, h1, h2, h3⟩, f4⟩
  have r4 := r3.ext f4
  simp only [true_and, List.getElem?_cons_zero, List.getElem?_cons_succ, r4.cell]
  refine aK fun x w5 r5 e5 z5 f5 => ?_
  have s1 := f1.size
  have s2 := f2.size
  have s3 := f3.size
  have s4 := f4.size
  have zd : w3.drew.heap.size = w3.heap.size := rfl
  exact ⟨⟨x, ct, l, ⟨t, 0, none⟩, rfl, ⟨r5, rc.ext f5, rl.ext f5, rfl, by omega, by omega, by omega⟩, by omega, by omega, by omega⟩, ((((f1.trans f2).trans f3).trans (Ext.drew w3)).trans f4).trans f5⟩
end Go.Proofs
end
section
namespace Go.Proofs
open Gp Gp.V4
set_option maxRecDepth 100000
set_option maxHeartbeats 2000000
theorem TS (s : ah) (w : World) : qX s 0 w fun r w' => r.len = 1 ∧ Ext w w' := by
  apply Ci
  rw [show ((0 : Int) != 0) = false from rfl, cond_false]
  exact aK fun a w1 r1 e1 z1 f1 => ⟨rfl, f1⟩
theorem SG {w : World} (p : dL) {o d : ah} (ho : aS w o p.opts) (hd : aS w d p.data) (h1 : p.opts.length <= 2 ^ 46) (h2 : p.data.length <= 2 ^ 46) (hc : p.check = 0) :
    jR p.tos p.id p.off p.ttl p.proto p.src p.dst p.df p.mf o d 0 w fun r w' => r.len = 1 ∧ Ext w w' := by
  apply Ag
  refine aK fun a w1 r1 e1 z1 f1 => ?_
  rw [show ((0 : Int) != 0) = false from rfl, cond_false]
  simp only [sx, r1.cell]
  refine qj (yu p (ho.ext f1) (hd.ext f1) h1 h2) ?_
  rintro r e w2 ⟨he, _, _, f2, _⟩
  rw [hc] at he
  subst he
  refine DL (TS r w2) ?_
  rintro r' w3 ⟨hl, f3⟩
  exact ⟨hl, (f1.trans f2).trans f3⟩
theorem UC {w : World} {p : dL} {n : Nat} (h : Dg p n) (hn : n <= 5000) {o d : ah} (ho : aS w o p.opts) (hd : aS w d p.data) :
    qV p.tos p.id p.off p.ttl p.proto p.src p.dst p.df p.mf o d w fun r w' => r.len = 1 ∧ Ext w w' := by
  have hdl := h.data
  have hol : p.opts.length = 0 := by rw [h.opts]; rfl
  have hpl := h.len
  apply MW
  refine aK fun a w1 r1 e1 z1 f1 => ?_
  simp only [sx, r1.cell]
  refine qj (yu p (ho.ext f1) (hd.ext f1) (by omega) (by omega)) ?_
  rintro r e w2 ⟨he, _, hb, f2, _⟩
  rw [h.check] at he
  subst he
  rw [show ((0 : Int) != 0) = false from rfl, cond_false]
  have hb := aS.aV (hb h.check)
  apply Dv
  refine Ic (Uc hb (by omega) 3221225474 11 0 0) ?_
  rintro i0 i1 i2 i3 i4 i5 i6 b0 b1 op da e w3 ⟨he, hk, f3⟩
  have hmay := (h.may (m := p.bytes.length) (by omega)).1
  rw [List.take_length] at hmay
  have h0 : pU 3221225474 11 0 0 p.bytes = 0 := by rw [Rf ⟨by omega, by omega⟩ ⟨by omega, by omega⟩ ⟨by omega, by omega⟩ ⟨by omega, by omega⟩, if_pos hmay]
  rw [h0] at he
  subst he
  have er : Cm 3221225474 11 0 0 p.bytes = iU 3221225474 11 0 0 p.bytes := by unfold Cm; rw [if_pos h0]
  rw [er] at hk
  have hck := (MS h0).2.2
  have hsz := (jg hck).2.1
  generalize iU 3221225474 11 0 0 p.bytes = P at *
  obtain ⟨rfl, rfl, rfl, rfl, rfl, rfl, rfl, rfl, rfl, hop, hda⟩ := hk
  refine zX (SG P hop hda (by omega) (by omega) hck) ?_
  rintro r' w4 ⟨hl, f4⟩
  exact ⟨hl, ((f1.trans f2).trans f3).trans f4⟩
def eS (u : ah) : List Value := [.slice u.a u.len u.cap]
theorem Nq (u : ah) : (eS u).length = 1 := rfl
theorem U_ (u : ah) : ∀ v ∈ eS u, dD v = true := by
  intro v hv
  simp only [eS, List.mem_cons, List.not_mem_nil, or_false] at hv
  subst hv; rfl
structure Wh (W : World) (r : ah) (us : List ah) (ps : List dZ) : Prop where
  sl : xQ 1 eS W r us
  len : us.length = ps.length
  in_ : ∀ (j : Nat) u q, us[j]? = some u -> ps[j]? = some q -> aS W u q.bytes
theorem Wh.ext {W W' : World} {r : ah} {us : List ah} {ps : List dZ} (h : Wh W r us ps) (hf : Ext W W') : Wh W' r us ps := ⟨h.sl.ext hf, h.len, fun j y q h1 h2 => (h.in_ j y q h1 h2).ext hf⟩
theorem QD {α : Type} {n : Nat} {f : α -> List Value} {w : World} {s : ah} {xs : List α} (hn : ∀ x, (f x).length = n) (hn0 : 0 < n) (h : xQ n f w s xs) {i : Nat} {K : Addr -> Prop} {x : α} (hx : xs[i]? = some x)
    (hK : ∀ a : Addr, (∀ j v, (f x)[j]? = some v -> w.cell? (a.add j) = some v) -> K a) : dN s n (i : Int) K := by
  obtain ⟨a, ha, hc⟩ := h.at_ hn hn0 hx
  have hlt := (List.getElem?_eq_some_iff.1 hx).1
  obtain ⟨sa, sl, sc⟩ := s
  simp only at ha
  subst ha
  have hl : sl = xs.length := h.len
  refine (zy ..).2 ⟨by omega, by omega, hK _ fun j v hj => ?_⟩
  rw [<- hc j v hj]
  congr 1
  obtain ⟨b, o, t⟩ := a
  unfold Addr.add
  by_cases h1 : (i : Int).toNat * n = 0 <;> by_cases h2 : j = 0 <;> simp_all [Nat.add_assoc]
theorem Js {W : World} {y : FC} {q : dZ} (h : DN W y q) (hok : q.ok) : ∃ p0 p1 p2 p3 p4 p5 p6 p7 p8 p9 p10 p11 p12 p13 p14 p15 p16 p17 p18 p19 p20 p21 p22 p23 p24 p25 p26 p27 p28 p29 p30 p31 : Int, y = ⟨q.tr, q.fl, q.nx, q.hp, [p0, p1, p2, p3, p4, p5, p6, p7, p8, p9, p10, p11, p12, p13, p14, p15, p16, p17, p18, p19, p20, p21, p22, p23, p24, p25, p26, p27, p28, p29, p30, p31], y.s⟩ ∧ [p0, p1, p2, p3, p4, p5, p6, p7, p8, p9, p10, p11, p12, p13, p14, p15] = bi q.src ∧ [p16, p17, p18, p19, p20, p21, p22, p23, p24, p25, p26, p27, p28, p29, p30, p31] = bi q.dst := by
  obtain ⟨a0, a1, a2, a3, a4, a5, a6, a7, a8, a9, a10, a11, a12, a13, a14, a15, ha, _⟩ := TL hok.1
  obtain ⟨b0, b1, b2, b3, b4, b5, b6, b7, b8, b9, b10, b11, b12, b13, b14, b15, hb, _⟩ := TL hok.2
  obtain ⟨t0, t1, t2, t3, b, s⟩ := y
  obtain ⟨⟨rfl, rfl, rfl, rfl⟩, hbb, hs⟩ := h
  refine ⟨a0, a1, a2, a3, a4, a5, a6, a7, a8, a9, a10, a11, a12, a13, a14, a15, b0, b1, b2, b3, b4, b5, b6, b7, b8, b9, b10, b11, b12, b13, b14, b15, ?_, ha.symm, hb.symm⟩
  simp only at hbb
  rw [hbb, ha, hb]
  rfl
theorem TV {w : World} {x ct l mtu : Nat} {tb : Addr} {id : Nat} {cs : List Int} (h : BW w x ct l (mtu : Int) tb (id : Int) cs) (hid : id < 4294967295) (hm : 1280 <= mtu) (hM : mtu <= 65535)
    {q : dZ} {t0 t1 t2 t3 p0 p1 p2 p3 p4 p5 p6 p7 p8 p9 p10 p11 p12 p13 p14 p15 p16 p17 p18 p19 p20 p21 p22 p23 p24 p25 p26 p27 p28 p29 p30 p31 : Int} {s : ah} (hq : vF w q t0 t1 t2 t3 [p0, p1, p2, p3, p4, p5, p6, p7, p8, p9, p10, p11, p12, p13, p14, p15] [p16, p17, p18, p19, p20, p21, p22, p23, p24, p25, p26, p27, p28, p29, p30, p31] s) (hc : q.check = 0) (hok : q.ok) (hn : q.nx ≠ 44) :
    nH (some ⟨x, 0, none⟩) t0 t1 t2 t3 p0 p1 p2 p3 p4 p5 p6 p7 p8 p9 p10 p11 p12 p13 p14 p15 p16 p17 p18 p19 p20 p21 p22 p23 p24 p25 p26 p27 p28 p29 p30 p31 s w fun r e w' => e = 0 ∧ (∃ us, Wh w' r us (rG q id mtu)) ∧ (∃ id', BW w' x ct l (mtu : Int) tb id' cs) ∧ bF w w' (· = x) := by
  have hcl := Vz hm hM hc hn (id := id)
  have hpl := Jv q id mtu
  have hdl := (fZ hc).2
  obtain ⟨⟨rfl, rfl, rfl, rfl⟩, hsrc, hdst, hdata⟩ := hq
  apply GX
  refine aK fun a w1 r1 e1 z1 f1 => ?_
  have s1 := f1.size
  have x1 := f1.trans (Ext.drew w1)
  have r1d := r1.drew
  have h1 := h.ext x1
  simp -zeta only [sx, r1d.cell, h1.hd.cell]
  refine zZ (Om ⟨⟨rfl, rfl, rfl, rfl⟩, hsrc, hdst, hdata.ext x1⟩ hc (by omega) hm hM) ?_
  rintro r e w2 ⟨rfl, f2, ys, hf, hnr, hny⟩
  rw [show ((0 : Int) != 0) = false from rfl, cond_false]
  have x2 := x1.trans f2
  have s2 := x2.size
  have h2 := h1.ext f2
  have hxl := h.hd.lt
  have hctl := h.cr.lt
  have hll := h.ls.lt
  generalize rG q id mtu = ps at hcl hpl hf ⊢
  have okp : ∀ (j : Nat) p, ps[j]? = some p -> p.check = 0 ∧ p.ok := fun j p hp => by
    have := hcl p (List.mem_of_getElem? hp)
    exact ⟨this.check, by rw [this.src]; exact hok.1, by rw [this.dst]; exact hok.2⟩
  have hlen := hf.len
  have hrl := hf.sl.len
  have hrc := hf.sl.cap
  intro J49
  have hJ : ∀ W id', bF w2 W (· = x) -> BW W x ct l (mtu : Int) tb id' cs -> Va W r ys ps -> J49 W := by
    intro W id' fW hW hfW
    simp only [J49]
    have sW := fW.size
    refine bn (fun st V => ∃ (i : Nat) (us : List ah), i <= ps.length ∧ st.2.1 = (i : Int) ∧ Ext W V ∧ gK 1 eS V st.1 us ∧ us.length = i ∧ (∀ (j : Nat) u p, us[j]? = some u -> ps[j]? = some p -> aS V u p.bytes) ∧
        (∀ z, ah.at st.1 z -> W.heap.size <= z) ∧ (∀ u ∈ us, ∀ a, u.a = some a -> ¬ ah.at st.1 a.block)) (fun st _ => ps.length - st.2.1.toNat)
      ⟨0, [], Nat.zero_le _, rfl, Ext.refl _, gK.nil, rfl, fun j u p hu => by simp at hu, (by rintro z ⟨o, hz⟩; cases hz), fun u hu => by simp at hu⟩ ?_
    rintro ⟨t, k, ⟨⟩⟩ V ⟨i, us, hi, rfl, hV, hb, hul, hin, hbz, hsep⟩ next hnext
    have hb : gK 1 eS V t us := hb
    have hbz : ∀ z, ah.at t z -> W.heap.size <= z := hbz
    have hsep : ∀ u ∈ us, ∀ a, u.a = some a -> ¬ ah.at t a.block := hsep
    have sV := hV.size
    by_cases hlt : i < ps.length
    · have hlt' : ((i : Int) < (r.len : Int)) := by omega
      simp -zeta only [hlt', decide_true, cond_true]
      have hfV := hfW.ext hV
      have hy : ys[i]? = some ys[i] := List.getElem?_eq_getElem (by omega)
      have hp : ps[i]? = some ps[i] := List.getElem?_eq_getElem hlt
      generalize ys[i] = y at hy
      generalize ps[i] = p at hp
      have hyin := hfV.in_ i y p hy hp
      obtain ⟨hpc, hpo⟩ := okp i p hp
      have hpm := hcl p (List.mem_of_getElem? hp)
      obtain ⟨c0, c1, c2, c3, c4, c5, c6, c7, c8, c9, c10, c11, c12, c13, c14, c15, c16, c17, c18, c19, c20, c21, c22, c23, c24, c25, c26, c27, c28, c29, c30, c31, ey, hsr, hds⟩ := Js hyin hpo
      generalize hys : y.s = ysl at ey
      subst ey
      refine QD rJ (by omega) hfV.sl hy fun aa hcell => ?_
      rw [FH] at hcell
      have k0 := hcell 0 _ rfl; have k1 := hcell 1 _ rfl; have k2 := hcell 2 _ rfl; have k3 := hcell 3 _ rfl; have k4 := hcell 4 _ rfl; have k5 := hcell 5 _ rfl; have k6 := hcell 6 _ rfl; have k7 := hcell 7 _ rfl; have k8 := hcell 8 _ rfl; have k9 := hcell 9 _ rfl; have k10 := hcell 10 _ rfl; have k11 := hcell 11 _ rfl; have k12 := hcell 12 _ rfl; have k13 := hcell 13 _ rfl; have k14 := hcell 14 _ rfl; have k15 := hcell 15 _ rfl; have k16 := hcell 16 _ rfl; have k17 := hcell 17 _ rfl; have k18 := hcell 18 _ rfl; have k19 := hcell 19 _ rfl; have k20 := hcell 20 _ rfl; have k21 := hcell 21 _ rfl; have k22 := hcell 22 _ rfl; have k23 := hcell 23 _ rfl; have k24 := hcell 24 _ rfl; have k25 := hcell 25 _ rfl; have k26 := hcell 26 _ rfl; have k27 := hcell 27 _ rfl; have k28 := hcell 28 _ rfl; have k29 := hcell 29 _ rfl; have k30 := hcell 30 _ rfl; have k31 := hcell 31 _ rfl; have k32 := hcell 32 _ rfl; have k33 := hcell 33 _ rfl; have k34 := hcell 34 _ rfl; have k35 := hcell 35 _ rfl; have k36 := hcell 36 _ rfl
      simp -zeta only [aj, aA, au, k0, k1, k2, k3, k4, k5, k6, k7, k8, k9, k10, k11, k12, k13, k14, k15, k16, k17, k18, k19, k20, k21, k22, k23, k24, k25, k26, k27, k28, k29, k30, k31, k32, k33, k34, k35, k36]
      refine aK fun m w4 r4 e4 z4 f4 => ?_
      have s4 := f4.size
      refine aT r4 rfl rfl fun w5 r5 f5 z5 => ?_
      have x5 : Ext V w5 := f4.new (f5 (· = m) rfl) fun y hy e => by omega
      simp -zeta only [sx, r5.cell]
      refine K_ (P6 (q := p) ⟨⟨rfl, rfl, rfl, rfl⟩, hsr, hds, hyin.s.ext x5⟩ (by have := hpm.len; omega)) ?_
      rintro u e w6 ⟨he, hbu, f6⟩
      rw [hpc] at he
      subst he
      rw [show ((0 : Int) != 0) = false from rfl, cond_false]
      obtain ⟨hbu, hnu⟩ := hbu rfl
      have hpbl : 0 < p.bytes.length := by rw [lI hpo]; omega
      have s6 := f6.size
      refine aK fun g w7 r7 e7 z7 f7 => ?_
      have s7 := f7.size
      have x7 := x5.trans (f6.trans f7)
      have hel : xQ 1 eS w7 ⟨some ⟨g, 0, none⟩, 1, 1⟩ [u] := (gK.row (xs := [u]) (by simpa [eS] using r7)).sl Nq (by omega)
      refine xC Nq (hb.ext x7) hel rfl (by omega) U_ (by simp only [List.length_singleton]; omega) (by simp only [List.length_singleton]; omega) fun t8 w8 b8 f8 n8 => ?_
      have s8 := f8.size
      have s5 := x5.size
      have tlt : ∀ z, ah.at t z -> z < V.heap.size := fun z hz => hb.lt hz
      have ult : ∀ a, u.a = some a -> a.block < w6.heap.size := fun a ha => hbu.lt ha hpbl
      rw [wrap_i64 (by omega) (by omega)]
      refine hnext _ _ ⟨i + 1, us ++ [u], by omega, by simp, (hV.trans x7).new f8 fun z hz hzz => by have := hbz z hzz; omega, b8, by simp [hul], fun j u' p' hu' hp' => ?_, fun z hz => ?_, fun u' hu' a' ha' hc' => ?_⟩ (by simp only; omega)
      · by_cases hj : j < us.length
        · rw [List.getElem?_append_left hj] at hu'
          exact ((hin j u' p' hu' hp').ext x7).fr f8 fun a ha _ => hsep u' (List.mem_of_getElem? hu') a ha
        · rw [List.getElem?_append_right (by omega)] at hu'
          have hj2 : j = i := by
            have := (List.getElem?_eq_some_iff.1 hu').1
            simp at this; omega
          subst hj2
          rw [hp] at hp'
          cases hp'
          rw [hul, Nat.sub_self, List.getElem?_cons_zero] at hu'
          cases hu'
          exact (hbu.ext f7).fr f8 fun a ha _ hc => by have := tlt _ hc; have := hnu a ha; omega
      · rcases n8 z hz with g1 | g1
        · exact hbz z g1
        · omega
      · rcases List.mem_append.1 hu' with hu' | hu'
        · obtain ⟨j, hj⟩ := List.getElem?_of_mem hu'
          have hjl := (List.getElem?_eq_some_iff.1 hj).1
          have hpj : ps[j]? = some (ps[j]'(by omega)) := List.getElem?_eq_getElem (by omega)
          have hpo' := (okp j _ hpj).2
          have h1 := (hin j u' _ hj hpj).lt ha' (by rw [lI hpo']; omega)
          rcases n8 _ hc' with g1 | g1
          · exact hsep u' hu' a' ha' g1
          · omega
        · have : u' = u := by simpa using hu'
          subst this
          have h1 := ult a' ha'
          have h2 := hnu a' ha'
          rcases n8 _ hc' with g1 | g1
          · have := tlt _ g1; omega
          · omega
    · have hlt' : ¬ ((i : Int) < (r.len : Int)) := by omega
      simp only [hlt', decide_false, cond_false]
      have hie : i = ps.length := by omega
      refine ⟨by trivial, ⟨us, hb.sl Nq (by omega), by omega, hin⟩, ⟨id', hW.ext hV⟩, ?_⟩
      exact ((x2 _).trans fW fun _ _ e => e).ext hV
  clear_value J49
  have zd1 : w1.drew.heap.size = w1.heap.size := rfl
  by_cases hmany : (r.len : Int) > 1
  · rw [decide_eq_true hmany, cond_true]
    simp only [List.getElem?_cons_zero, List.getElem?_cons_succ, aj, au, h2.hd.cell]
    refine bM h2.hd rfl (by simp) fun w3 r3 f3 z3 => ?_
    simp only [List.set_cons_zero, List.set_cons_succ] at r3
    have f3x := f3 (· = x) rfl
    refine hJ w3 _ f3x ⟨r3, h2.cr.fr f3x (fun e => h2.ne.1 e.symm), h2.ls.fr f3x (fun e => h2.ne.2.1 e.symm), h2.len, h2.ne⟩ ⟨hf.sl.fr f3x fun a ha _ e => by have := hnr a ha; omega, hf.len, fun j y p hy hp => (hf.in_ j y p hy hp).fr f3x fun a ha e => by have := hny y (List.mem_of_getElem? hy) a ha; omega, hf.bf.fr f3x fun b ⟨o, hb⟩ e => by (have := hnr _ hb; simp only at this; omega), hf.ap⟩
  · rw [decide_eq_false hmany, cond_false]
    exact hJ w2 _ (bF.refl _ _) h2 hf
end Go.Proofs
end
section
namespace Go.Proofs
open Gp Gp.V4
set_option maxRecDepth 100000
set_option maxHeartbeats 2000000
def yR (p : dL) : dL := { p with ttl := p.ttl - 1 }
theorem SK {p : dL} {n : Nat} (h : Dg p n) (ht : 1 < p.ttl) : Dg (yR p) n := by
  obtain ⟨hf, hs⟩ := jg h.check
  obtain ⟨⟨f1, f2, f3, f4⟩, fr⟩ := hf
  have g2 := mP f2
  refine ⟨?_, h.off, h.proto, h.src, h.dst, h.opts, h.data⟩
  have hfine : (yR p).fine := ⟨⟨f1, ⟨⟨by omega, by omega⟩, by simp only [yR]; omega, by simp only [yR]; simp; omega⟩, f3, f4⟩, fr⟩
  unfold dL.check
  rw [if_pos hfine, if_pos (show (yR p).short from hs)]
theorem Sm {p : dL} {n : Nat} (h : Dg p n) : 0 <= p.ttl ∧ p.ttl <= 255 := by
  have := mP (jg h.check).1.1.2.1
  omega
theorem Jo {p : dL} {n : Nat} (h : Dg p n) : fA p.bytes false = 0 ∧ V4.read p.bytes false = p := by
  obtain ⟨h1, h2, _⟩ := wX h.check []
  rw [List.append_nil] at h1 h2
  refine ⟨h1, ?_⟩
  unfold V4.read
  rw [if_pos h1, h2]
section
variable {w : World} {x ct l mtu : Nat} {tb : Addr} {cs : List Int}
theorem VK {id : Nat} (h : BW w x ct l (mtu : Int) tb (id : Int) cs) (hid : id < 4294967295) (hm : 1280 <= mtu) (hM : mtu <= 65535) {p : dL} {n : Nat} (hd : Dg p n) (hn : n <= 5000) (ht : 1 < p.ttl) {s : ah} (hs : aS w s p.bytes) :
    iG (some ⟨x, 0, none⟩) s w fun up host why w' => why = 0 ∧ host.len = 0 ∧ (∃ us, Wh w' up us (rG (nI ownB uH (yR p).bytes) id mtu)) ∧ (∃ id', BW w' x ct l (mtu : Int) tb id' cs) ∧ bF w w' (· = x) := by
  have hpl := hd.len
  have hh := SK hd ht
  have hhl := hh.len
  have htt := Sm hd
  obtain ⟨rd1, rd2⟩ := Jo hd
  have hxl := h.hd.lt
  apply wE
  refine pF (Cc h) ?_
  rintro _ w1 ⟨rfl, hw⟩
  subst hw
  simp -zeta only [Bool.not_true, cond_false]
  refine tN (Dc hs (by omega)) ?_
  rintro i0 i1 i2 i3 i4 i5 i6 b0 b1 op da e w2 ⟨he, hk, f2⟩
  rw [rd1] at he
  subst he
  rw [rd2] at hk
  obtain ⟨rfl, rfl, rfl, rfl, rfl, rfl, rfl, rfl, rfl, hop, hda⟩ := hk
  refine aK fun a w3 r3 e3 z3 f3 => ?_
  have s3 := f3.size
  refine aT r3 rfl rfl fun w4 r4 f4 z4 => ?_
  have x24 : Ext w2 w4 := f3.new (f4 (· = a) rfl) fun y hy e => by omega
  rw [show ((0 : Int) != 0) = false from rfl, cond_false]
  simp -zeta only [sx, r4.cell]
  refine oz (BD _ w4) ?_
  rintro r w5 ⟨hr, f5⟩
  rw [hr, decide_eq_true hd.src, Bool.not_true, cond_false]
  have r5 := r4.ext f5
  simp -zeta only [List.getElem?_cons_zero, List.getElem?_cons_succ, aj, aA, au, aJ, r5.cell]
  have x25 := x24.trans f5
  refine Aq (Td p (hop.ext x25) (hda.ext x25) (by rw [hd.opts]; simp) (by rw [hd.data]; omega) htt) ?_
  rintro i0 i1 i2 i3 i4 i5 i6 b0 b1 op' da' ok w6 ⟨hok, hk, f6⟩
  obtain ⟨rfl, rfl, rfl, rfl, rfl, rfl, rfl, rfl, rfl, hop', hda'⟩ := hk ht
  refine aK fun b w7 r7 e7 z7 f7 => ?_
  have s7 := f7.size
  refine aT r7 rfl rfl fun w8 r8 f8 z8 => ?_
  have x68 : Ext w6 w8 := f7.new (f8 (· = b) rfl) fun y hy e => by omega
  rw [hok, decide_eq_true ht, Bool.not_true, cond_false]
  simp -zeta only [sx, r8.cell]
  refine qj (yu (yR p) (hop'.ext x68) (hda'.ext x68) (by show p.opts.length <= _; rw [hd.opts]; simp) (by show p.data.length <= _; rw [hd.data]; omega)) ?_
  rintro r e w9 ⟨_, _, hb, f9, _⟩
  have hb := aS.aV (hb hh.check)
  have x9 : Ext w1 w9 := ((f2.trans x25).trans f6).trans (x68.trans f9)
  have hwp : (nI ownB uH (yR p).bytes).check = 0 := PU (by omega)
  have hwo : (nI ownB uH (yR p).bytes).ok := ⟨rfl, rfl⟩
  intro J84
  have hJ : ∀ (q : Nat) (W : World) (t0 t1 t2 t3 v0 v1 v2 v3 v4 v5 v6 v7 v8 v9 v10 v11 v12 v13 v14 v15 v16 v17 v18 v19 v20 v21 v22 v23 v24 v25 v26 v27 v28 v29 v30 v31 : Int) (s9 : ah), Ext w1 W -> Row W q [.int .i64 t0, .int .i64 t1, .int .i64 t2, .int .i64 t3, .int .u8 v0, .int .u8 v1, .int .u8 v2, .int .u8 v3, .int .u8 v4, .int .u8 v5, .int .u8 v6, .int .u8 v7, .int .u8 v8, .int .u8 v9, .int .u8 v10, .int .u8 v11, .int .u8 v12, .int .u8 v13, .int .u8 v14, .int .u8 v15, .int .u8 v16, .int .u8 v17, .int .u8 v18, .int .u8 v19, .int .u8 v20, .int .u8 v21, .int .u8 v22, .int .u8 v23, .int .u8 v24, .int .u8 v25, .int .u8 v26, .int .u8 v27, .int .u8 v28, .int .u8 v29, .int .u8 v30, .int .u8 v31, .slice s9.a s9.len s9.cap] -> vF W (nI ownB uH (yR p).bytes) t0 t1 t2 t3 [v0, v1, v2, v3, v4, v5, v6, v7, v8, v9, v10, v11, v12, v13, v14, v15] [v16, v17, v18, v19, v20, v21, v22, v23, v24, v25, v26, v27, v28, v29, v30, v31] s9 -> J84 0 ⟨q, 0, none⟩ W := by
    intro q W t0 t1 t2 t3 v0 v1 v2 v3 v4 v5 v6 v7 v8 v9 v10 v11 v12 v13 v14 v15 v16 v17 v18 v19 v20 v21 v22 v23 v24 v25 v26 v27 v28 v29 v30 v31 s9 hx hr hk
    simp only [J84]
    rw [show ((0 : Int) != 0) = false from rfl, cond_false]
    simp only [sx, hr.cell]
    refine Ie (TV (h.ext hx) hid hm hM hk hwp hwo (show (4 : Int) ≠ 44 by decide)) ?_
    rintro up e W1 ⟨rfl, hup, hB, fW⟩
    rw [show ((0 : Int) != 0) = false from rfl, cond_false]
    exact ⟨by trivial, by trivial, hup, hB, (hx _).trans fW fun _ _ e => e⟩
  clear_value J84
  have hown : [32, 2, 0, 0, 0, 0, 0, 0, 0, 0, 0, 0, 0, 0, 0, 0] = bi ownB := rfl
  have haf : [32, 1, 0, 0, 0, 0, 0, 0, 0, 0, 0, 0, 0, 0, 0, 0] = bi uH := rfl
  have hd9 := (h.ext x9).hd.drew
  simp -zeta only [List.getElem?_cons_zero, List.getElem?_cons_succ, aj, au, hd9.cell]
  have x9d := x9.trans (Ext.drew w9)
  have hbd := hb.ext (Ext.drew w9)
  have zd : w9.drew.heap.size = w9.heap.size := rfl
  refine ⟨?_, ?_⟩
  · refine yc (Oo hbd (by omega) hown haf) ?_
    rintro t0 t1 t2 t3 v0 v1 v2 v3 v4 v5 v6 v7 v8 v9 v10 v11 v12 v13 v14 v15 v16 v17 v18 v19 v20 v21 v22 v23 v24 v25 v26 v27 v28 v29 v30 v31 s' e wa ⟨he, hk, fa⟩
    have he : e = 0 := he.trans hwp
    subst he
    obtain ⟨hk, hn⟩ := hk rfl
    refine aK fun q wb rb eb zb fb => ?_
    have sb := fb.size
    have hdb := (hd9.ext fa).ext fb
    simp -zeta only [true_and, List.getElem?_cons_zero, List.getElem?_cons_succ, hdb.cell]
    refine aT rb rfl rfl fun wc rc fc zc => ?_
    have xac : Ext wa wc := fb.new (fc (· = q) rfl) fun y hy e => by omega
    exact hJ q wc t0 t1 t2 t3 v0 v1 v2 v3 v4 v5 v6 v7 v8 v9 v10 v11 v12 v13 v14 v15 v16 v17 v18 v19 v20 v21 v22 v23 v24 v25 v26 v27 v28 v29 v30 v31 s' (x9d.trans (fa.trans xac)) rc (hk.ext xac)
  · refine aK fun q wb rb eb zb fb => ?_
    have sb := fb.size
    have hdb := hd9.ext fb
    simp -zeta only [true_and, List.getElem?_cons_zero, List.getElem?_cons_succ, hdb.cell]
    refine yc (Oo (hbd.ext fb) (by omega) hown haf) ?_
    rintro t0 t1 t2 t3 v0 v1 v2 v3 v4 v5 v6 v7 v8 v9 v10 v11 v12 v13 v14 v15 v16 v17 v18 v19 v20 v21 v22 v23 v24 v25 v26 v27 v28 v29 v30 v31 s' e wa ⟨he, hk, fa⟩
    have he : e = 0 := he.trans hwp
    subst he
    obtain ⟨hk, hn⟩ := hk rfl
    refine aT (rb.ext fa) rfl rfl fun wc rc fc zc => ?_
    have fcq := fc (· = q) rfl
    have sa := fa.size
    have xc : Ext w9.drew wc := (fb.trans fa).new fcq fun y hy e => by omega
    exact hJ q wc t0 t1 t2 t3 v0 v1 v2 v3 v4 v5 v6 v7 v8 v9 v10 v11 v12 v13 v14 v15 v16 v17 v18 v19 v20 v21 v22 v23 v24 v25 v26 v27 v28 v29 v30 v31 s' (x9d.trans xc) rc ⟨hk.n, hk.src, hk.dst, hk.data.fr fcq fun y hy _ e => by have := hn y hy; omega⟩
theorem TY {id : Int} (h : BW w x ct l (mtu : Int) tb id cs) {p : dL} {n : Nat} (hd : Dg p n) (hn : n <= 5000) (ht : p.ttl <= 1) {s : ah} (hs : aS w s p.bytes) :
    iG (some ⟨x, 0, none⟩) s w fun _ host why w' => why = 3 ∧ host.len = 1 ∧ bF w w' (· = l) := by
  have hpl := hd.len
  have htt := Sm hd
  obtain ⟨rd1, rd2⟩ := Jo hd
  apply wE
  refine pF (Cc h) ?_
  rintro _ w1 ⟨rfl, hw⟩
  subst hw
  simp -zeta only [Bool.not_true, cond_false]
  refine tN (Dc hs (by omega)) ?_
  rintro i0 i1 i2 i3 i4 i5 i6 b0 b1 op da e w2 ⟨he, hk, f2⟩
  rw [rd1] at he
  subst he
  rw [rd2] at hk
  obtain ⟨rfl, rfl, rfl, rfl, rfl, rfl, rfl, rfl, rfl, hop, hda⟩ := hk
  refine aK fun a w3 r3 e3 z3 f3 => ?_
  have s3 := f3.size
  refine aT r3 rfl rfl fun w4 r4 f4 z4 => ?_
  have x24 : Ext w2 w4 := f3.new (f4 (· = a) rfl) fun y hy e => by omega
  rw [show ((0 : Int) != 0) = false from rfl, cond_false]
  simp -zeta only [sx, r4.cell]
  refine oz (BD _ w4) ?_
  rintro r w5 ⟨hr, f5⟩
  rw [hr, decide_eq_true hd.src, Bool.not_true, cond_false]
  have r5 := r4.ext f5
  simp -zeta only [List.getElem?_cons_zero, List.getElem?_cons_succ, aj, aA, au, aJ, r5.cell]
  have x25 := x24.trans f5
  refine Aq (Td p (hop.ext x25) (hda.ext x25) (by rw [hd.opts]; simp) (by rw [hd.data]; omega) htt) ?_
  rintro i0 i1 i2 i3 i4 i5 i6 b0 b1 op' da' ok w6 ⟨hok, _, f6⟩
  refine aK fun b w7 r7 e7 z7 f7 => ?_
  have s7 := f7.size
  refine aT r7 rfl rfl fun w8 r8 f8 z8 => ?_
  have x68 : Ext w6 w8 := f7.new (f8 (· = b) rfl) fun y hy e => by omega
  rw [hok, decide_eq_false (show ¬ 1 < p.ttl by omega), Bool.not_false, cond_true]
  have x58 := f6.trans x68
  have r58 := r5.ext x58
  simp -zeta only [List.getElem?_cons_zero, List.getElem?_cons_succ, aj, aA, au, aJ, r58.cell]
  have x28 := x25.trans x58
  refine Md (UC hd hn (hop.ext x28) (hda.ext x28)) ?_
  rintro r w9 ⟨hl, f9⟩
  have x9 : Ext w1 w9 := (f2.trans x28).trans f9
  refine wz (UG (r := 3) (h.ext x9) (by omega) (by omega)) ?_
  rintro e wa ⟨he, fa, _⟩
  exact ⟨he, hl, (x9 _).trans fa fun _ _ e => e⟩
end
theorem BX (w : World) : iK w fun r w' => r = true ∧ Ext w w' := by
  apply Dn
  refine yA fun w1 f1 => ?_
  refine Gh (Vf (m := 1280) (by omega) w1) ?_
  rintro p e w2 ⟨rfl, ⟨x, ct, l, tb, rfl, hB, h1, h2, h3⟩, f2⟩
  have s1 := f1.size
  have x2 := f1.trans f2
  intro J42
  have hJ : J42 false := by
    simp -zeta only [J42, cond_false]
    refine iT (Rj aS.nil (by simp) (by decide) (by decide) (by omega) (by omega) (by omega)) ?_
    rintro r w3 ⟨⟨p, hd, hb, _, ht⟩, _, f3⟩
    have hd : Dg p 0 := hd
    have hh := (SK hd (by omega)).len
    refine wI (VK (mtu := 1280) (id := 1) (hB.ext f3) (by omega) (by omega) (by omega) hd (by omega) (by omega) hb) ?_
    rintro up host why w4 ⟨rfl, hh0, ⟨us, hu⟩, ⟨id', hB4⟩, f4⟩
    have hc : rG (nI ownB uH (yR p).bytes) 1 1280 = [nI ownB uH (yR p).bytes] := by
      unfold rG
      rw [if_pos (show 40 + (nI ownB uH (yR p).bytes).data.length <= 1280 by show 40 + (yR p).bytes.length <= 1280; omega)]
    have hul : up.len = 1 := by
      rw [hu.sl.len, hu.len, hc]; rfl
    refine iT (Rj aS.nil (by simp) (by decide) (by decide) (by omega) (by omega) (by omega)) ?_
    rintro r w5 ⟨⟨p', hd', hb', _, ht'⟩, _, f5⟩
    have hd' : Dg p' 0 := hd'
    refine wI (TY (mtu := 1280) (hB4.ext f5) hd' (by omega) (by omega) hb') ?_
    rintro up' host' why' w6 ⟨rfl, hl', f6⟩
    intro J56
    have hJ2 : J56 true w6 := by
      simp only [J56]
      have x4 : Ext w w4 := (x2.trans f3).new f4 fun y hy e => by omega
      exact ⟨by trivial, (x4.trans f5).new f6 fun y hy e => by omega⟩
    clear_value J56
    rw [hul, hh0, hl']
    simp only [show (((1 : Nat) : Int) == 1) = true from rfl, show (((0 : Nat) : Int) == 0) = true from rfl, show ((0 : Int) == 0) = true from rfl, show ((3 : Int) == 3) = true from rfl, cond_true]
    apply Dv
    exact hJ2
  clear_value J42
  simp only [Option.isNone_some, cond_false]
  exact hJ
end Go.Proofs
end
section
namespace Gp.Hol
abbrev Pc := Int × Bool × List UInt8
def pend (p : Pc) : Int := p.1 + (p.2.2.length : Int)
def sh (p q : Pc) : Bool := (p.2.2.isEmpty && q.2.2.isEmpty && decide (p.1 = q.1)) || (!p.2.2.isEmpty && !q.2.2.isEmpty && decide (q.1 < pend p) && decide (p.1 < pend q))
def far (l : List Pc) : Int := l.foldl (fun n q => max n (pend q)) 0
def bI : List Pc -> Int
  | [] => -1
  | p :: l => if p.2.1 = false then pend p else bI l
def sum (l : List Pc) : Int := (l.map fun p => (p.2.2.length : Int)).sum
def may (p : Pc) : Int := if p.1 < 0 ∨ (p.2.1 = true ∧ (p.2.2.length = 0 ∨ p.2.2.length % 8 ≠ 0)) then 4 else if p.1 > 65535 - (p.2.2.length : Int) then 6 else 0
theorem I8 (p q : Pc) : sh p q = sh q p := by
  unfold sh
  have h : decide (p.1 = q.1) = decide (q.1 = p.1) := decide_eq_decide.2 eq_comm
  cases p.2.2.isEmpty <;> cases q.2.2.isEmpty <;> simp [h, Bool.and_comm]
structure Good (L : List Pc) : Prop where
  ok : ∀ p ∈ L, 0 <= p.1 ∧ pend p <= 65535 ∧ (p.2.1 = true -> p.2.2 ≠ [])
  apart : L.Pairwise fun p q => sh p q = false
  last : ∀ p ∈ L, p.2.1 = false -> ∀ q ∈ L, pend q <= pend p
  one : L.Pairwise fun p q => p.2.1 = true ∨ q.2.1 = true
theorem Good.nil : Good [] := ⟨by simp, by simp, by simp, by simp⟩
theorem Good.perm {L L' : List Pc} (h : Good L) (hp : L.Perm L') : Good L' :=
  ⟨fun p hm => h.ok p (hp.mem_iff.2 hm), h.apart.perm hp (fun {p q} e => by rw [I8]; exact e), fun p hm e q hq => h.last p (hp.mem_iff.2 hm) e q (hp.mem_iff.2 hq), h.one.perm hp (fun {p q} e => e.symm)⟩
theorem lX {L : List Pc} : (∀ p ∈ L, p.2.1 = true) -> bI L = -1 := by
  induction L with
  | nil => intro _; rfl
  | cons p l ih =>
    intro h
    unfold bI
    rw [if_neg (by rw [h p (by simp)]; simp)]
    exact ih fun q hq => h q (by simp [hq])
theorem dO {L : List Pc} (h1 : L.Pairwise fun p q => p.2.1 = true ∨ q.2.1 = true) {p : Pc} (hp : p ∈ L) (hm : p.2.1 = false) : bI L = pend p := by
  induction L with
  | nil => simp at hp
  | cons q l ih =>
    unfold bI
    by_cases hq : q.2.1 = false
    · rw [if_pos hq]
      rcases List.mem_cons.1 hp with rfl | hp
      · rfl
      · rcases (List.pairwise_cons.1 h1).1 p hp with h | h
        · rw [hq] at h; cases h
        · rw [hm] at h; cases h
    · rw [if_neg hq]
      rcases List.mem_cons.1 hp with rfl | hp
      · exact absurd hm hq
      · exact ih (List.pairwise_cons.1 h1).2 hp
theorem wS {L L' : List Pc} (h : L.Pairwise fun p q => p.2.1 = true ∨ q.2.1 = true) (hp : L.Perm L') : bI L = bI L' := by
  by_cases he : ∃ p ∈ L, p.2.1 = false
  · obtain ⟨p, hm, hf⟩ := he
    rw [dO h hm hf, dO (h.perm hp (fun {p q} e => e.symm)) (hp.mem_iff.1 hm) hf]
  · have h1 : ∀ p ∈ L, p.2.1 = true := fun p hm => by
      cases hb : p.2.1
      · exact absurd ⟨p, hm, hb⟩ he
      · rfl
    rw [lX h1, lX fun p hm => h1 p (hp.mem_iff.2 hm)]
theorem DW {L : List Pc} : ∀ {n : Int}, n <= L.foldl (fun n q => max n (pend q)) n ∧ ∀ p ∈ L, pend p <= L.foldl (fun n q => max n (pend q)) n := by
  induction L with
  | nil => intro n; simp
  | cons q l ih =>
    intro n
    have := @ih (max n (pend q))
    simp only [List.foldl_cons, List.mem_cons]
    refine ⟨by omega, ?_⟩
    rintro p (rfl | hp)
    · omega
    · exact this.2 p hp
theorem IC {L : List Pc} : ∀ {n m : Int}, n <= m -> (∀ p ∈ L, pend p <= m) -> L.foldl (fun n q => max n (pend q)) n <= m := by
  induction L with
  | nil => intro n m h _; simpa using h
  | cons q l ih =>
    intro n m h hp
    simp only [List.foldl_cons]
    have := hp q (by simp)
    exact ih (by omega) fun p h => hp p (by simp [h])
theorem QT {L L' : List Pc} (hp : L.Perm L') : far L = far L' := by
  unfold far
  refine Int.le_antisymm (IC (DW).1 fun p hm => (DW (n := 0)).2 p (hp.mem_iff.1 hm)) (IC (DW).1 fun p hm => (DW (n := 0)).2 p (hp.mem_iff.2 hm))
theorem Oc {L : List Pc} {m : Int} (h : 0 <= m) : far L <= m ↔ ∀ p ∈ L, pend p <= m :=
  ⟨fun hf p hm => Int.le_trans ((DW (n := 0)).2 p hm) hf, fun hp => IC h hp⟩
theorem pq {L L' : List Pc} (hp : L.Perm L') : sum L = sum L' := by
  induction hp with
  | nil => rfl
  | cons x _ ih => unfold sum at *; simp only [List.map_cons, List.sum_cons]; omega
  | swap x y l => unfold sum; simp only [List.map_cons, List.sum_cons]; omega
  | trans _ _ i1 i2 => omega
def fits (l : List Pc) (last : Int) (p : Pc) : Bool := if p.2.1 = true then decide (last < 0) || decide (pend p <= last) else decide (last < 0) && decide (far l <= pend p)
def add (L : List Pc) (p : Pc) : Int × List Pc :=
  if may p ≠ 0 then (may p, L) else if p ∈ L then (0, L) else if L.any (sh p) then (9, L) else if fits L (bI L) p = false then (4, L) else (0, L ++ [p])
theorem uY {L : List Pc} (h : Good L) : bI L < 0 ↔ ∀ p ∈ L, p.2.1 = true := by
  constructor
  · intro hl p hm
    cases hb : p.2.1
    · rw [dO h.one hm hb] at hl
      have := (h.ok p hm).1
      unfold pend at hl
      omega
    · rfl
  · intro h1; rw [lX h1]; omega
theorem GK {p : Pc} (h : may p = 0) : 0 <= p.1 ∧ pend p <= 65535 ∧ (p.2.1 = true -> p.2.2 ≠ []) := by
  unfold may at h
  split at h
  · cases h
  · rename_i h1
    split at h
    · cases h
    · rename_i h2
      unfold pend
      refine ⟨by omega, by omega, fun hm he => h1 (.inr ⟨hm, .inl (by rw [he]; rfl)⟩)⟩
theorem Good.add {L : List Pc} (h : Good L) {p : Pc} (h1 : may p = 0) (h2 : L.any (sh p) = false) (h3 : fits L (bI L) p = true) : Good (L ++ [p]) := by
  have hok := GK h1
  have hp0 : 0 <= pend p := by unfold pend; omega
  refine ⟨?_, ?_, ?_, ?_⟩
  · intro q hq
    rcases List.mem_append.1 hq with hq | hq
    · exact h.ok q hq
    · rw [List.mem_singleton.1 hq]; exact hok
  · rw [List.pairwise_append]
    refine ⟨h.apart, by simp, fun q hq r hr => ?_⟩
    rw [List.mem_singleton.1 hr, I8]
    have := List.any_eq_false.1 h2 q hq
    simpa using this
  · intro q hq hqm r hr
    unfold fits at h3
    rcases List.mem_append.1 hq with hq | hq
    · have hl := dO h.one hq hqm
      have hl0 : 0 <= pend q := by have := (h.ok q hq).1; unfold pend; omega
      rcases List.mem_append.1 hr with hr | hr
      · exact h.last q hq hqm r hr
      · rw [List.mem_singleton.1 hr]
        split at h3
        · simp only [Bool.or_eq_true, decide_eq_true_eq] at h3
          omega
        · simp only [Bool.and_eq_true, decide_eq_true_eq] at h3
          omega
    · have hq := List.mem_singleton.1 hq
      subst hq
      rw [hqm] at h3
      simp only [Bool.false_eq_true, if_false, Bool.and_eq_true, decide_eq_true_eq] at h3
      rcases List.mem_append.1 hr with hr | hr
      · exact (Oc hp0).1 h3.2 r hr
      · rw [List.mem_singleton.1 hr]; exact Int.le_refl _
  · rw [List.pairwise_append]
    refine ⟨h.one, by simp, fun q hq r hr => ?_⟩
    rw [List.mem_singleton.1 hr]
    cases hb : p.2.1
    · unfold fits at h3
      rw [hb] at h3
      simp only [Bool.false_eq_true, if_false, Bool.and_eq_true, decide_eq_true_eq] at h3
      exact .inl ((uY h).1 h3.1 q hq)
    · exact .inr rfl
def le (p q : Pc) : Prop := p.1 < q.1 ∨ (p.1 = q.1 ∧ p.2.2.length <= q.2.2.length)
def Chain (l : List Pc) : Prop := l.Pairwise fun p q => pend p <= q.1
theorem Good.chain {l : List Pc} (h : Good l) (hs : l.Pairwise le) : Chain l := by
  unfold Chain
  have h1 := h.apart
  have h2 := h.one
  have : ∀ (m : List Pc), (∀ p ∈ m, p ∈ l) -> m.Pairwise le -> (m.Pairwise fun p q => sh p q = false) -> m.Pairwise fun p q => pend p <= q.1 := by
    intro m
    induction m with
    | nil => intro _ _ _; simp
    | cons p m ih =>
      intro hm h1 h2
      rw [List.pairwise_cons] at h1 h2 ⊢
      refine ⟨fun q hq => ?_, ih (fun p h => hm p (by simp [h])) h1.2 h2.2⟩
      have a1 := h1.1 q hq
      have a2 := h2.1 q hq
      unfold le at a1
      unfold sh at a2
      by_cases hp : p.2.2 = []
      · unfold pend; rw [hp]; simp only [List.length_nil]; omega
      · by_cases hq' : q.2.2 = []
        · have hqm : q.2.1 = false := by
            cases hb : q.2.1
            · rfl
            · exact absurd hq' ((h.ok q (hm q (by simp [hq]))).2.2 hb)
          have := h.last q (hm q (by simp [hq])) hqm p (hm p (by simp))
          unfold pend at this ⊢
          rw [hq'] at this
          simp only [List.length_nil] at this
          omega
        · have e1 : p.2.2.isEmpty = false := by cases hh : p.2.2 <;> simp_all
          have e2 : q.2.2.isEmpty = false := by cases hh : q.2.2 <;> simp_all
          have lq : 0 < q.2.2.length := List.length_pos_iff.2 hq'
          rw [e1, e2] at a2
          simp only [Bool.false_and, Bool.not_false, Bool.true_and, Bool.false_or, Bool.and_eq_false_iff, decide_eq_false_iff_not] at a2
          unfold pend at a2 ⊢
          omega
  exact this l (fun _ h => h) hs h1
def gaps : Int -> List Pc -> Int -> List (Int × Int)
  | at_, [], last => if last > at_ then [(at_, last)] else []
  | at_, p :: l, last => (if p.1 > at_ then [(at_, p.1)] else []) ++ gaps (max at_ (pend p)) l last
def cat (l : List Pc) : List UInt8 := l.flatMap fun p => p.2.2
theorem take_snoc' {l : List Pc} {i : Nat} {x : Pc} (h : l[i]? = some x) : l.take (i + 1) = l.take i ++ [x] := by
  rw [List.take_add_one, h]; rfl
theorem LU (l : List Pc) (p : Pc) : cat (l ++ [p]) = cat l ++ p.2.2 := by
  unfold cat; rw [List.flatMap_append]; simp
theorem Ia (l : List Pc) : ((cat l).length : Int) = sum l := by
  induction l with
  | nil => rfl
  | cons p l ih =>
    unfold cat sum at *
    simp only [List.flatMap_cons, List.length_append, List.map_cons, List.sum_cons]
    omega
theorem lW (l : List Pc) : 0 <= sum l := by rw [<- Ia]; omega
theorem QV {l : List Pc} : ∀ {a : Int}, Chain l -> (∀ p ∈ l, a <= p.1) -> (last : Int) -> (∀ p ∈ l, pend p <= last) -> a <= last ->
    (gaps a l last = [] ↔ sum l = last - a) ∧ sum l <= last - a := by
  induction l with
  | nil =>
    intro a _ _ last _ h
    unfold gaps
    split
    · refine ⟨⟨fun h => by simp at h, fun h => ?_⟩, by simp [sum]; omega⟩
      simp [sum] at h; omega
    · refine ⟨⟨fun _ => ?_, fun _ => rfl⟩, by simp [sum]; omega⟩
      simp [sum]; omega
  | cons p l ih =>
    intro a hc ha last hl h
    unfold Chain at hc
    rw [List.pairwise_cons] at hc
    have hp := ha p (by simp)
    have hpl := hl p (by simp)
    have hpe : p.1 <= pend p := by unfold pend; omega
    have hsum : sum (p :: l) = (p.2.2.length : Int) + sum l := by simp [sum]
    have hmax : max a (pend p) = pend p := by omega
    have := @ih (pend p) hc.2 hc.1 last (fun q hq => hl q (by simp [hq])) hpl
    unfold gaps
    rw [hmax, hsum]
    by_cases hgt : p.1 > a
    · rw [if_pos hgt]
      refine ⟨⟨fun h => by simp at h, fun h => ?_⟩, ?_⟩
      · have := this.2; unfold pend at *; omega
      · have := this.2; unfold pend at *; omega
    · rw [if_neg hgt, List.nil_append, this.1]
      refine ⟨⟨fun h => ?_, fun h => ?_⟩, ?_⟩
      · unfold pend at *; omega
      · unfold pend at *; omega
      · have := this.2; unfold pend at *; omega
theorem Um {l : List Pc} : ∀ {a : Int} {last : Int}, Chain l -> (∀ p ∈ l, a <= p.1) -> gaps a l last = [] -> ∀ p ∈ l, ∀ k, k < p.2.2.length -> (cat l)[(p.1 - a).toNat + k]? = p.2.2[k]? := by
  induction l with
  | nil => intro a last _ _ _ p hp; simp at hp
  | cons q l ih =>
    intro a last hc ha hg p hp k hk
    unfold Chain at hc
    rw [List.pairwise_cons] at hc
    have hq := ha q (by simp)
    have hpe : q.1 <= pend q := by unfold pend; omega
    have hmax : max a (pend q) = pend q := by omega
    unfold gaps at hg
    rw [hmax, List.append_eq_nil_iff] at hg
    have hqa : q.1 = a := by
      have := hg.1
      split at this
      · simp at this
      · omega
    show (q.2.2 ++ cat l)[(p.1 - a).toNat + k]? = _
    rcases List.mem_cons.1 hp with rfl | hp
    · rw [List.getElem?_append_left (by omega)]
      congr 1; omega
    · have h1 := hc.1 p hp
      have := ih hc.2 hc.1 hg.2 p hp k hk
      rw [List.getElem?_append_right (by unfold pend at *; omega), <- this]
      congr 1; unfold pend at *; omega
theorem VE {l : List Pc} : ∀ {a : Int} {last : Int}, Chain l -> (∀ p ∈ l, a <= p.1) -> gaps a l last = [] -> ∀ i, i < (cat l).length -> ∃ p ∈ l, ∃ k, k < p.2.2.length ∧ (i : Int) = p.1 - a + k := by
  induction l with
  | nil => intro a last _ _ _ i hi; simp [cat] at hi
  | cons q l ih =>
    intro a last hc ha hg i hi
    unfold Chain at hc
    rw [List.pairwise_cons] at hc
    have hq := ha q (by simp)
    have hpe : q.1 <= pend q := by unfold pend; omega
    have hmax : max a (pend q) = pend q := by omega
    unfold gaps at hg
    rw [hmax, List.append_eq_nil_iff] at hg
    have hqa : q.1 = a := by
      have := hg.1
      split at this
      · simp at this
      · omega
    have hi' : i < q.2.2.length + (cat l).length := by
      have : (cat (q :: l)).length = q.2.2.length + (cat l).length := by simp [cat]
      omega
    by_cases hlt : i < q.2.2.length
    · exact ⟨q, by simp, i, hlt, by omega⟩
    · obtain ⟨p, hp, k, hk, he⟩ := ih hc.2 hc.1 hg.2 (i - q.2.2.length) (by omega)
      exact ⟨p, by simp [hp], k, hk, by unfold pend at he; omega⟩
end Gp.Hol
end
section
namespace Gp.Hol
theorem TG {L L' : List Pc} (hp : L.Perm L') (f : Pc -> Bool) : L.any f = L'.any f := by
  rw [Bool.eq_iff_iff, List.any_eq_true, List.any_eq_true]
  exact ⟨fun ⟨p, h, e⟩ => ⟨p, hp.mem_iff.1 h, e⟩, fun ⟨p, h, e⟩ => ⟨p, hp.mem_iff.2 h, e⟩⟩
theorem RU {L L' : List Pc} (G : Good L) (hp : L.Perm L') (p : Pc) : (add L p).1 = (add L' p).1 ∧ (add L p).2.Perm (add L' p).2 := by
  have h1 : (p ∈ L) = (p ∈ L') := propext hp.mem_iff
  have h2 := TG hp (sh p)
  have h3 := wS G.one hp
  have h4 := QT hp
  have h5 : fits L (bI L) p = fits L' (bI L') p := by unfold fits; rw [h3, h4]
  unfold add
  by_cases c1 : may p ≠ 0
  · rw [if_pos c1, if_pos c1]; exact ⟨rfl, hp⟩
  rw [if_neg c1, if_neg c1]
  by_cases c2 : p ∈ L
  · rw [if_pos c2, if_pos (hp.mem_iff.1 c2)]; exact ⟨rfl, hp⟩
  rw [if_neg c2, if_neg (show ¬ p ∈ L' from fun h => c2 (hp.mem_iff.2 h)), h2]
  by_cases c3 : L'.any (sh p) = true
  · rw [if_pos c3, if_pos c3]; exact ⟨rfl, hp⟩
  rw [if_neg c3, if_neg c3, h5]
  by_cases c4 : fits L' (bI L') p = false
  · rw [if_pos c4, if_pos c4]; exact ⟨rfl, hp⟩
  · rw [if_neg c4, if_neg c4]; exact ⟨rfl, hp.append_right _⟩
theorem Good.add' {L : List Pc} (G : Good L) (p : Pc) : Good (Gp.Hol.add L p).2 := by
  unfold Gp.Hol.add
  by_cases c1 : may p ≠ 0
  · rw [if_pos c1]; exact G
  rw [if_neg c1]
  by_cases c2 : p ∈ L
  · rw [if_pos c2]; exact G
  rw [if_neg c2]
  by_cases c3 : L.any (sh p) = true
  · rw [if_pos c3]; exact G
  rw [if_neg c3]
  by_cases c4 : fits L (bI L) p = false
  · rw [if_pos c4]; exact G
  · rw [if_neg c4]; exact G.add (by simpa using c1) (by simpa using c3) (by simpa using c4)
theorem Ua (L : List Pc) (p : Pc) : (add L p).2.length <= L.length + 1 := by
  unfold add
  split
  · simp
  · split
    · simp
    · split
      · simp
      · split <;> simp
theorem Good.below {l : List Pc} (G : Good l) (h : 0 <= bI l) : ∀ p ∈ l, pend p <= bI l := by
  by_cases hex : ∃ q ∈ l, q.2.1 = false
  · obtain ⟨q, hq, hqm⟩ := hex
    rw [dO G.one hq hqm]
    exact G.last q hq hqm
  · have := (uY G).2 fun q hq => by
      cases hb : q.2.1
      · exact absurd ⟨q, hq, hb⟩ hex
      · rfl
    omega
theorem Lh {l : List Pc} (G : Good l) (hs : l.Pairwise le) (h : 0 <= bI l) : gaps 0 l (bI l) = [] ↔ sum l = bI l := by
  have := (QV (a := 0) (G.chain hs) (fun p hp => (G.ok p hp).1) (bI l) (G.below h) h).1
  rw [this]; omega
theorem Vh {l : List Pc} (G : Good l) (hs : l.Pairwise le) (h : 0 <= bI l) (hsum : sum l = bI l) {out : List UInt8} (hl : (out.length : Int) = bI l)
    (hset : ∀ p ∈ l, ∀ k, k < p.2.2.length -> out[p.1.toNat + k]? = p.2.2[k]?) : cat l = out := by
  have hg := (Lh G hs h).2 hsum
  have hc := G.chain hs
  have h0 : ∀ p ∈ l, (0 : Int) <= p.1 := fun p hp => (G.ok p hp).1
  have hlen : (cat l).length = out.length := by have := Ia l; omega
  refine List.ext_getElem? fun i => ?_
  by_cases hi : i < (cat l).length
  · obtain ⟨p, hp, k, hk, he⟩ := VE hc h0 hg i hi
    have h1 := Um hc h0 hg p hp k hk
    have h2 := hset p hp k hk
    have := h0 p hp
    have e1 : (p.1 - 0).toNat + k = i := by omega
    have e2 : p.1.toNat + k = i := by omega
    rw [e1] at h1
    rw [e2] at h2
    rw [h1, h2]
  · rw [List.getElem?_eq_none (by omega), List.getElem?_eq_none (by omega)]
theorem Good.sub {L M : List Pc} (G : Good M) (h : L.Sublist M) : Good L :=
  ⟨fun p hp => G.ok p (h.subset hp), G.apart.sublist h, fun p hp e q hq => G.last p (h.subset hp) e q (h.subset hq), G.one.sublist h⟩
theorem T_ (p : Pc) : sh p p = true := by
  unfold sh
  cases hb : p.2.2 with
  | nil => simp
  | cons a l =>
    have : p.1 < pend p := by unfold pend; rw [hb]; simp only [List.length_cons]; omega
    simp [this]
theorem PV {L : List Pc} {p : Pc} (G : Good (L ++ [p])) (hm : may p = 0) : add L p = (0, L ++ [p]) := by
  have hap := (List.pairwise_append.1 G.apart).2.2
  have hone := (List.pairwise_append.1 G.one).2.2
  have GL := G.sub (List.sublist_append_left L [p])
  have hno : L.any (sh p) = false := List.any_eq_false.2 fun q hq => by rw [I8, hap q hq p (by simp)]; simp
  have hmem : p ∉ L := fun h => by
    have := List.any_eq_false.1 hno p h
    rw [T_] at this
    simp at this
  have hpo := GK hm
  have hfit : fits L (bI L) p = true := by
    unfold fits
    cases hb : p.2.1
    · have h1 : ∀ q ∈ L, q.2.1 = true := fun q hq => by
        rcases hone q hq p (by simp) with h | h
        · exact h
        · rw [hb] at h; cases h
      rw [if_neg (by simp), decide_eq_true ((uY GL).2 h1), decide_eq_true ((Oc (by unfold pend; omega)).2 fun q hq => G.last p (by simp) hb q (by simp [hq]))]
      rfl
    · rw [if_pos rfl]
      by_cases hn : bI L < 0
      · rw [decide_eq_true hn, Bool.true_or]
      · by_cases hex : ∃ q ∈ L, q.2.1 = false
        · obtain ⟨q, hq, hqm⟩ := hex
          rw [dO GL.one hq hqm, decide_eq_true (G.last q (by simp [hq]) hqm p (by simp)), Bool.or_true]
        · exact absurd ((uY GL).2 fun q hq => by
            cases hc : q.2.1
            · exact absurd ⟨q, hq, hc⟩ hex
            · rfl) hn
  unfold add
  rw [if_neg (by rw [hm]; simp), if_neg hmem, if_neg (by rw [hno]; simp), if_neg (by rw [hfit]; simp)]
end Gp.Hol
namespace Gp.Hol
structure Cut (b : List UInt8) (n : Nat) (l : List Pc) : Prop where
  each : ∀ p ∈ l, p.2.1 = true ∧ 0 <= p.1 ∧ pend p <= (n : Int) ∧ p.2.2 ≠ [] ∧ may p = 0 ∧ ∀ k, k < p.2.2.length -> b[p.1.toNat + k]? = p.2.2[k]?
  chain : Chain l
  sum : Gp.Hol.sum l = (n : Int)
  le : n <= b.length
theorem Oj (l : List Pc) (p : Pc) : sum (l ++ [p]) = sum l + (p.2.2.length : Int) := by
  unfold sum; simp
theorem Cut.nil (b : List UInt8) : Cut b 0 [] := ⟨by simp, by simp [Chain], rfl, by omega⟩
theorem TU {b : List UInt8} {n m k : Nat} (hk : k < ((b.take m).drop n).length) : b[n + k]? = ((b.take m).drop n)[k]? := by
  rw [List.length_drop, List.length_take] at hk
  rw [List.getElem?_drop, List.getElem?_take_of_lt (by omega)]
theorem Cut.step {b : List UInt8} {n : Nat} {l : List Pc} (h : Cut b n l) {m : Nat} (hm : n + m < b.length) (hm0 : 0 < m) (h8 : m % 8 = 0) (hb : b.length <= 65535) : Cut b (n + m) (l ++ [((n : Int), true, (b.take (n + m)).drop n)]) := by
  have hlen : ((b.take (n + m)).drop n).length = m := by rw [List.length_drop, List.length_take]; omega
  have hpe : pend ((n : Int), true, (b.take (n + m)).drop n) = ((n + m : Nat) : Int) := by unfold pend; simp only; rw [hlen]; omega
  refine ⟨fun p hp => ?_, ?_, by rw [Oj, h.sum]; simp only; rw [hlen]; omega, by omega⟩
  · rcases List.mem_append.1 hp with hp | hp
    · obtain ⟨a1, a2, a3, a4⟩ := h.each p hp
      exact ⟨a1, a2, by omega, a4⟩
    · rw [List.mem_singleton.1 hp]
      refine ⟨rfl, by simp only; omega, by rw [hpe]; omega, fun e => ?_, ?_, fun k hk => ?_⟩
      · simp only at e; rw [e] at hlen; simp at hlen; omega
      · unfold may
        simp only
        rw [hlen, if_neg (by omega), if_neg (by omega)]
      · simp only
        rw [Int.toNat_natCast]
        exact TU hk
  · unfold Chain
    rw [List.pairwise_append]
    exact ⟨h.chain, by simp, fun p hp q hq => by rw [List.mem_singleton.1 hq]; exact (h.each p hp).2.2.1⟩
theorem LH {p q : Pc} (h : pend p <= q.1) (hp : p.2.2 ≠ []) : sh p q = false := by
  unfold sh
  have : p.2.2.isEmpty = false := by cases hh : p.2.2 with
    | nil => exact absurd hh hp
    | cons _ _ => rfl
  rw [this, decide_eq_false (show ¬ q.1 < pend p by omega)]
  simp
def allOf (b : List UInt8) (n : Nat) (l : List Pc) : List Pc := l ++ [((n : Int), false, b.drop n)]
theorem Cut.all {b : List UInt8} {n : Nat} {l : List Pc} (h : Cut b n l) (hb : b.length <= 65535) :
    Good (allOf b n l) ∧ (∀ p ∈ allOf b n l, may p = 0) ∧ bI (allOf b n l) = (b.length : Int) ∧ Gp.Hol.sum (allOf b n l) = (b.length : Int) ∧ ∀ p ∈ allOf b n l, ∀ k, k < p.2.2.length -> b[p.1.toNat + k]? = p.2.2[k]? := by
  have hle := h.le
  have hlen : (b.drop n).length = b.length - n := List.length_drop
  have hpe : pend ((n : Int), false, b.drop n) = (b.length : Int) := by unfold pend; simp only; rw [hlen]; omega
  have hG : Good (allOf b n l) := by
    unfold allOf
    refine ⟨fun p hp => ?_, ?_, fun p hp hm q hq => ?_, ?_⟩
    · rcases List.mem_append.1 hp with hp | hp
      · obtain ⟨a1, a2, a3, a4, _⟩ := h.each p hp
        exact ⟨a2, by omega, fun _ => a4⟩
      · rw [List.mem_singleton.1 hp]
        exact ⟨by simp only; omega, by rw [hpe]; omega, fun e => by cases e⟩
    · rw [List.pairwise_append]
      refine ⟨?_, by simp, fun p hp q hq => by rw [List.mem_singleton.1 hq]; exact LH (h.each p hp).2.2.1 (h.each p hp).2.2.2.1⟩
      have hc := h.chain
      unfold Chain at hc
      refine List.Pairwise.imp_of_mem (fun {p q} hp hq hpq => LH hpq (h.each p hp).2.2.2.1) hc
    · rcases List.mem_append.1 hp with hp | hp
      · rw [(h.each p hp).1] at hm; cases hm
      · rw [List.mem_singleton.1 hp, hpe]
        rcases List.mem_append.1 hq with hq | hq
        · have := (h.each q hq).2.2.1; omega
        · rw [List.mem_singleton.1 hq, hpe]; exact Int.le_refl _
    · rw [List.pairwise_append]
      exact ⟨List.Pairwise.imp_of_mem (fun {p q} hp _ _ => .inl (h.each p hp).1) h.chain, by simp, fun p hp q hq => .inl (h.each p hp).1⟩
  refine ⟨hG, fun p hp => ?_, ?_, ?_, fun p hp k hk => ?_⟩
  · rcases List.mem_append.1 hp with hp | hp
    · exact (h.each p hp).2.2.2.2.1
    · rw [List.mem_singleton.1 hp]
      unfold may
      simp only
      rw [hlen, if_neg (by simp), if_neg (by omega)]
  · rw [dO hG.one (p := ((n : Int), false, b.drop n)) (by unfold allOf; simp) rfl, hpe]
  · unfold allOf
    rw [Oj, h.sum]
    simp only
    rw [hlen]; omega
  · rcases List.mem_append.1 hp with hp | hp
    · exact (h.each p hp).2.2.2.2.2 k hk
    · rw [List.mem_singleton.1 hp] at hk ⊢
      simp only
      rw [Int.toNat_natCast]
      exact List.getElem?_drop.symm
end Gp.Hol
end
section
namespace Gp.Jn
open Gp.Hol
abbrev Key := ByteArray
structure Bf where
  since : Int
  head : ByteArray
  begun : Bool
  L : List Pc
abbrev JT := List (Key × Bf)
def room (l : List Pc) (off : Int) (b : List UInt8) : Int := if ((off, true, b) : Pc) ∈ l ∨ ((off, false, b) : Pc) ∈ l then 0 else b.length
def yY (l : JT) : Int := (l.map fun x => sum x.2.L).sum
def N7 (now : Int) : Int := min (max now 0) 1099511627776
def fresh (now : Int) : Bf := ⟨N7 now, ⟨#[]⟩, false, []⟩
def qM (many : Int) (l : JT) (k : Key) (now : Int) : Option Bf :=
  match Jb l k with
  | some x => some x
  | none => if many <= (l.length : Int) then none else some (fresh now)
def begin_ (x : Bf) (off : Int) (head : ByteArray) : Bf := if off = 0 ∧ x.begun = false then { x with head := head, begun := true } else x
theorem Ug (x : Bf) (off : Int) (head : ByteArray) : (begin_ x off head).L = x.L := by unfold begin_; split <;> rfl
theorem KA (x : Bf) (off : Int) (head : ByteArray) : (begin_ x off head).since = x.since := by unfold begin_; split <;> rfl
def zO (L : List Pc) : Bool := decide (0 <= bI L ∧ sum L = bI L)
structure Out where
  head : ByteArray
  done : Bool
  e : Int
  l : JT
def Vs (bytes : Int) (l : JT) (x : Bf) (k : Key) (off : Int) (more : Bool) (b : List UInt8) (head : ByteArray) : Out :=
  if bytes - yY l < room x.L off b then ⟨⟨#[]⟩, false, 7, l⟩
  else if (Hol.add x.L (off, more, b)).1 ≠ 0 then ⟨⟨#[]⟩, false, (Hol.add x.L (off, more, b)).1, oP l k⟩
  else if zO (Hol.add x.L (off, more, b)).2 = true then ⟨(begin_ { x with L := (Hol.add x.L (off, more, b)).2 } off head).head, true, 0, oP l k⟩
  else ⟨⟨#[]⟩, false, 0, zV l k (begin_ { x with L := (Hol.add x.L (off, more, b)).2 } off head)⟩
def Fh (many bytes : Int) (l : JT) (k : Key) (off : Int) (more : Bool) (b : List UInt8) (head : ByteArray) (now : Int) : Out :=
  match qM many l k now with
  | none => ⟨⟨#[]⟩, false, 7, l⟩
  | some x => Vs bytes l x k off more b head
end Gp.Jn
end
