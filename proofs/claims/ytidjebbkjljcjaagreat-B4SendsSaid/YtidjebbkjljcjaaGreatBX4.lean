import Derived.Test.YtidjebbkjljcjaaGreatBX3
/- What the element does with a datagram. -/
namespace Go.Proofs
open Gp Gp.V4
set_option maxRecDepth 100000
set_option maxHeartbeats 2000000

theorem list_ok (s : SliceV) (w : World) : c_b4_list s 0 w fun r w' => r.len = 1 ∧ Ext w w' := by
  apply ok_b4_list
  unfold s_b4_list
  rw [show ((0 : Int) != 0) = false from rfl, cond_false]
  exact Al_e fun a w1 r1 e1 z1 f1 => ⟨rfl, f1⟩

theorem built_ok {w : World} (p : Pkt) {o d : SliceV} (ho : SlB w o p.opts) (hd : SlB w d p.data) (h1 : p.opts.length ≤ 2 ^ 46) (h2 : p.data.length ≤ 2 ^ 46) (hc : p.check = 0) :
    c_b4_built p.tos p.id p.off p.ttl p.proto p.src p.dst p.df p.mf o d 0 w fun r w' => r.len = 1 ∧ Ext w w' := by
  apply ok_b4_built
  unfold s_b4_built
  refine Al_e fun a w1 r1 e1 z1 f1 => ?_
  rw [show ((0 : Int) != 0) = false from rfl, cond_false]
  simp only [Ld_eq, List.getElem?_cons_zero, List.getElem?_cons_succ, LdV_some, dec_slice, dec_int, dec_bool, add_mk, Nat.zero_add, Nat.add_zero, r1.cell]
  refine cm_v4_Build (build_ok p (ho.ext f1) (hd.ext f1) h1 h2) ?_
  rintro r e w2 ⟨he, _, _, f2, _⟩
  rw [hc] at he
  subst he
  refine cm_b4_list (list_ok r w2) ?_
  rintro r' w3 ⟨hl, f3⟩
  exact ⟨hl, (f1.trans f2).trans f3⟩

theorem over_ok {w : World} {p : Pkt} {n : Nat} (h : Dg p n) (hn : n ≤ 5000) {o d : SliceV} (ho : SlB w o p.opts) (hd : SlB w d p.data) :
    c_b4_over p.tos p.id p.off p.ttl p.proto p.src p.dst p.df p.mf o d w fun r w' => r.len = 1 ∧ Ext w w' := by
  have hdl := h.data
  have hol : p.opts.length = 0 := by rw [h.opts]; rfl
  have hpl := h.len
  apply ok_b4_over
  unfold s_b4_over
  refine Al_e fun a w1 r1 e1 z1 f1 => ?_
  simp only [Ld_eq, List.getElem?_cons_zero, List.getElem?_cons_succ, LdV_some, dec_slice, dec_int, dec_bool, add_mk, Nat.zero_add, Nat.add_zero, r1.cell]
  refine cm_v4_Build (build_ok p (ho.ext f1) (hd.ext f1) (by omega) (by omega)) ?_
  rintro r e w2 ⟨he, _, hb, f2, _⟩
  rw [h.check] at he
  subst he
  rw [show ((0 : Int) != 0) = false from rfl, cond_false]
  have hb := SlB.of_buf (hb h.check)
  apply ok_b4_Addr
  unfold s_b4_Addr
  refine cm_errs_Make (make_ok hb (by omega) 3221225474 11 0 0) ?_
  rintro i0 i1 i2 i3 i4 i5 i6 b0 b1 op da e w3 ⟨he, hk, f3⟩
  have hmay := (h.may (m := p.bytes.length) (by omega)).1
  rw [List.take_length] at hmay
  have h0 : makeE 3221225474 11 0 0 p.bytes = 0 := by rw [make_may ⟨by omega, by omega⟩ ⟨by omega, by omega⟩ ⟨by omega, by omega⟩ ⟨by omega, by omega⟩, if_pos hmay]
  rw [h0] at he
  subst he
  have er : makeR 3221225474 11 0 0 p.bytes = makeP 3221225474 11 0 0 p.bytes := by unfold makeR; rw [if_pos h0]
  rw [er] at hk
  have hck := (makeE_zero h0).2.2
  have hsz := (check_zero hck).2.1
  generalize makeP 3221225474 11 0 0 p.bytes = P at *
  obtain ⟨rfl, rfl, rfl, rfl, rfl, rfl, rfl, rfl, rfl, hop, hda⟩ := hk
  refine cm_b4_built (built_ok P hop hda (by omega) (by omega) hck) ?_
  rintro r' w4 ⟨hl, f4⟩
  exact ⟨hl, ((f1.trans f2).trans f3).trans f4⟩

/-! ### What goes out -/
def eS (u : SliceV) : List Value := [.slice u.a u.len u.cap]
theorem eS_len (u : SliceV) : (eS u).length = 1 := rfl
theorem eS_one (u : SliceV) : ∀ v ∈ eS u, isOne v = true := by
  intro v hv
  simp only [eS, List.mem_cons, List.not_mem_nil, or_false] at hv
  subst hv; rfl

/-- A slice of packets' bytes. -/
structure Ups (W : World) (r : SliceV) (us : List SliceV) (ps : List Pk6) : Prop where
  sl : SlN 1 eS W r us
  len : us.length = ps.length
  in_ : ∀ (j : Nat) u q, us[j]? = some u → ps[j]? = some q → SlB W u q.bytes

theorem Ups.ext {W W' : World} {r : SliceV} {us : List SliceV} {ps : List Pk6} (h : Ups W r us ps) (hf : Ext W W') : Ups W' r us ps := ⟨h.sl.ext hf, h.len, fun j y q h1 h2 => (h.in_ j y q h1 h2).ext hf⟩

theorem SlN_at {α : Type} {n : Nat} {f : α → List Value} {w : World} {s : SliceV} {xs : List α} (hn : ∀ x, (f x).length = n) (hn0 : 0 < n) (h : SlN n f w s xs) {i : Nat} {K : Addr → Prop} {x : α} (hx : xs[i]? = some x)
    (hK : ∀ a : Addr, (∀ j v, (f x)[j]? = some v → w.cell? (a.add j) = some v) → K a) : AtIx s n (i : Int) K := by
  obtain ⟨a, ha, hc⟩ := h.at_ hn hn0 hx
  have hlt := (List.getElem?_eq_some_iff.1 hx).1
  obtain ⟨sa, sl, sc⟩ := s
  simp only at ha
  subst ha
  have hl : sl = xs.length := h.len
  refine (AtIx_some ..).2 ⟨by omega, by omega, hK _ fun j v hj => ?_⟩
  rw [← hc j v hj]
  congr 1
  obtain ⟨b, o, t⟩ := a
  unfold Addr.add
  by_cases h1 : (i : Int).toNat * n = 0 <;> by_cases h2 : j = 0 <;> simp_all [Nat.add_assoc]

/-- The packet that one is of. -/
theorem v6_parts {W : World} {y : V6T} {q : Pk6} (h : V6In W y q) (hok : q.ok) : ∃ p0 p1 p2 p3 p4 p5 p6 p7 p8 p9 p10 p11 p12 p13 p14 p15 p16 p17 p18 p19 p20 p21 p22 p23 p24 p25 p26 p27 p28 p29 p30 p31 : Int, y = ⟨q.tr, q.fl, q.nx, q.hp, [p0, p1, p2, p3, p4, p5, p6, p7, p8, p9, p10, p11, p12, p13, p14, p15, p16, p17, p18, p19, p20, p21, p22, p23, p24, p25, p26, p27, p28, p29, p30, p31], y.s⟩ ∧ [p0, p1, p2, p3, p4, p5, p6, p7, p8, p9, p10, p11, p12, p13, p14, p15] = bi q.src ∧ [p16, p17, p18, p19, p20, p21, p22, p23, p24, p25, p26, p27, p28, p29, p30, p31] = bi q.dst := by
  obtain ⟨a0, a1, a2, a3, a4, a5, a6, a7, a8, a9, a10, a11, a12, a13, a14, a15, ha, _⟩ := ex16 hok.1
  obtain ⟨b0, b1, b2, b3, b4, b5, b6, b7, b8, b9, b10, b11, b12, b13, b14, b15, hb, _⟩ := ex16 hok.2
  obtain ⟨t0, t1, t2, t3, b, s⟩ := y
  obtain ⟨⟨rfl, rfl, rfl, rfl⟩, hbb, hs⟩ := h
  refine ⟨a0, a1, a2, a3, a4, a5, a6, a7, a8, a9, a10, a11, a12, a13, a14, a15, b0, b1, b2, b3, b4, b5, b6, b7, b8, b9, b10, b11, b12, b13, b14, b15, ?_, ha.symm, hb.symm⟩
  simp only at hbb
  rw [hbb, ha, hb]
  rfl

theorem cutb_ok {w : World} {x ct l mtu : Nat} {tb : Addr} {id : Nat} {cs : List Int} (h : BW w x ct l (mtu : Int) tb (id : Int) cs) (hid : id < 4294967295) (hm : 1280 ≤ mtu) (hM : mtu ≤ 65535)
    {q : Pk6} {t0 t1 t2 t3 p0 p1 p2 p3 p4 p5 p6 p7 p8 p9 p10 p11 p12 p13 p14 p15 p16 p17 p18 p19 p20 p21 p22 p23 p24 p25 p26 p27 p28 p29 p30 p31 : Int} {s : SliceV} (hq : Pk6L w q t0 t1 t2 t3 [p0, p1, p2, p3, p4, p5, p6, p7, p8, p9, p10, p11, p12, p13, p14, p15] [p16, p17, p18, p19, p20, p21, p22, p23, p24, p25, p26, p27, p28, p29, p30, p31] s) (hc : q.check = 0) (hok : q.ok) (hn : q.nx ≠ 44) :
    c_b4_B4_cut (some ⟨x, 0, none⟩) t0 t1 t2 t3 p0 p1 p2 p3 p4 p5 p6 p7 p8 p9 p10 p11 p12 p13 p14 p15 p16 p17 p18 p19 p20 p21 p22 p23 p24 p25 p26 p27 p28 p29 p30 p31 s w fun r e w' => e = 0 ∧ (∃ us, Ups w' r us (cutL q id mtu)) ∧ (∃ id', BW w' x ct l (mtu : Int) tb id' cs) ∧ Fr8 w w' (· = x) := by
  have hcl := cut_ok hm hM hc hn (id := id)
  have hpl := cutL_len q id mtu
  have hdl := (check6_zero hc).2
  obtain ⟨⟨rfl, rfl, rfl, rfl⟩, hsrc, hdst, hdata⟩ := hq
  apply ok_b4_B4_cut
  unfold s_b4_B4_cut
  refine Al_e fun a w1 r1 e1 z1 f1 => ?_
  have s1 := f1.size
  have x1 := f1.trans (Ext.drew w1)
  have r1d := r1.drew
  have h1 := h.ext x1
  simp -zeta only [ex_some, Ld_eq, List.getElem?_cons_zero, List.getElem?_cons_succ, LdV_some, dec_slice, dec_int, add_mk, Nat.zero_add, Nat.add_zero, r1d.cell, h1.hd.cell]
  refine cm_cut6_Cut (cut6_ok ⟨⟨rfl, rfl, rfl, rfl⟩, hsrc, hdst, hdata.ext x1⟩ hc (by omega) hm hM) ?_
  rintro r e w2 ⟨rfl, f2, ys, hf, hnr, hny⟩
  rw [show ((0 : Int) != 0) = false from rfl, cond_false]
  have x2 := x1.trans f2
  have s2 := x2.size
  have h2 := h1.ext f2
  have hxl := h.hd.lt
  have hctl := h.cr.lt
  have hll := h.ls.lt
  generalize cutL q id mtu = ps at hcl hpl hf ⊢
  have okp : ∀ (j : Nat) p, ps[j]? = some p → p.check = 0 ∧ p.ok := fun j p hp => by
    have := hcl p (List.mem_of_getElem? hp)
    exact ⟨this.check, by rw [this.src]; exact hok.1, by rw [this.dst]; exact hok.2⟩
  have hlen := hf.len
  have hrl := hf.sl.len
  have hrc := hf.sl.cap
  intro J49
  have hJ : ∀ W id', Fr8 w2 W (· = x) → BW W x ct l (mtu : Int) tb id' cs → Frs W r ys ps → J49 W := by
    intro W id' fW hW hfW
    simp only [J49]
    have sW := fW.size
    refine LoopP_inv (fun st V => ∃ (i : Nat) (us : List SliceV), i ≤ ps.length ∧ st.2.1 = (i : Int) ∧ Ext W V ∧ BufN 1 eS V st.1 us ∧ us.length = i ∧ (∀ (j : Nat) u p, us[j]? = some u → ps[j]? = some p → SlB V u p.bytes) ∧
        (∀ z, SliceV.at st.1 z → W.heap.size ≤ z) ∧ (∀ u ∈ us, ∀ a, u.a = some a → ¬ SliceV.at st.1 a.block)) (fun st _ => ps.length - st.2.1.toNat)
      ⟨0, [], Nat.zero_le _, rfl, Ext.refl _, BufN.nil, rfl, fun j u p hu => by simp at hu, (by rintro z ⟨o, hz⟩; cases hz), fun u hu => by simp at hu⟩ ?_
    rintro ⟨t, k, ⟨⟩⟩ V ⟨i, us, hi, rfl, hV, hb, hul, hin, hbz, hsep⟩ next hnext
    have hb : BufN 1 eS V t us := hb
    have hbz : ∀ z, SliceV.at t z → W.heap.size ≤ z := hbz
    have hsep : ∀ u ∈ us, ∀ a, u.a = some a → ¬ SliceV.at t a.block := hsep
    have sV := hV.size
    by_cases hlt : i < ps.length
    · have hlt' : ((i : Int) < (r.len : Int)) := by omega
      simp -zeta only [hlt', decide_true, cond_true]
      have hfV := hfW.ext hV
      have hy : ys[i]? = some ys[i] := List.getElem?_eq_getElem (by omega)
      have hp : ps[i]? = some ps[i] := List.getElem?_eq_getElem hlt
      generalize ys[i] = y at hy
      generalize ps[i] = p at hp
      have hyin := hfV.in_ i y p hy hp
      obtain ⟨hpc, hpo⟩ := okp i p hp
      have hpm := hcl p (List.mem_of_getElem? hp)
      obtain ⟨c0, c1, c2, c3, c4, c5, c6, c7, c8, c9, c10, c11, c12, c13, c14, c15, c16, c17, c18, c19, c20, c21, c22, c23, c24, c25, c26, c27, c28, c29, c30, c31, ey, hsr, hds⟩ := v6_parts hyin hpo
      generalize hys : y.s = ysl at ey
      subst ey
      refine SlN_at eV_len (by omega) hfV.sl hy fun aa hcell => ?_
      rw [eV_eq] at hcell
      have k0 := hcell 0 _ rfl; have k1 := hcell 1 _ rfl; have k2 := hcell 2 _ rfl; have k3 := hcell 3 _ rfl; have k4 := hcell 4 _ rfl; have k5 := hcell 5 _ rfl; have k6 := hcell 6 _ rfl; have k7 := hcell 7 _ rfl; have k8 := hcell 8 _ rfl; have k9 := hcell 9 _ rfl; have k10 := hcell 10 _ rfl; have k11 := hcell 11 _ rfl; have k12 := hcell 12 _ rfl; have k13 := hcell 13 _ rfl; have k14 := hcell 14 _ rfl; have k15 := hcell 15 _ rfl; have k16 := hcell 16 _ rfl; have k17 := hcell 17 _ rfl; have k18 := hcell 18 _ rfl; have k19 := hcell 19 _ rfl; have k20 := hcell 20 _ rfl; have k21 := hcell 21 _ rfl; have k22 := hcell 22 _ rfl; have k23 := hcell 23 _ rfl; have k24 := hcell 24 _ rfl; have k25 := hcell 25 _ rfl; have k26 := hcell 26 _ rfl; have k27 := hcell 27 _ rfl; have k28 := hcell 28 _ rfl; have k29 := hcell 29 _ rfl; have k30 := hcell 30 _ rfl; have k31 := hcell 31 _ rfl; have k32 := hcell 32 _ rfl; have k33 := hcell 33 _ rfl; have k34 := hcell 34 _ rfl; have k35 := hcell 35 _ rfl; have k36 := hcell 36 _ rfl
      simp -zeta only [LdV_some, dec_slice, dec_int, k0, k1, k2, k3, k4, k5, k6, k7, k8, k9, k10, k11, k12, k13, k14, k15, k16, k17, k18, k19, k20, k21, k22, k23, k24, k25, k26, k27, k28, k29, k30, k31, k32, k33, k34, k35, k36]
      refine Al_e fun m w4 r4 e4 z4 f4 => ?_
      have s4 := f4.size
      refine StN_full r4 rfl rfl fun w5 r5 f5 z5 => ?_
      have x5 : Ext V w5 := f4.new (f5 (· = m) rfl) fun y hy e => by omega
      simp -zeta only [List.getElem?_cons_zero, List.getElem?_cons_succ, LdV_some, dec_slice, dec_int, add_mk, Nat.zero_add, Nat.add_zero, r5.cell]
      refine cm_v6_Build (build6_ok (q := p) ⟨⟨rfl, rfl, rfl, rfl⟩, hsr, hds, hyin.s.ext x5⟩ (by have := hpm.len; omega)) ?_
      rintro u e w6 ⟨he, hbu, f6⟩
      rw [hpc] at he
      subst he
      rw [show ((0 : Int) != 0) = false from rfl, cond_false]
      obtain ⟨hbu, hnu⟩ := hbu rfl
      have hpbl : 0 < p.bytes.length := by rw [bytes6_len hpo]; omega
      have s6 := f6.size
      refine Al_e fun g w7 r7 e7 z7 f7 => ?_
      have s7 := f7.size
      have x7 := x5.trans (f6.trans f7)
      have hel : SlN 1 eS w7 ⟨some ⟨g, 0, none⟩, 1, 1⟩ [u] := (BufN.row (xs := [u]) (by simpa [eS] using r7)).sl eS_len (by omega)
      refine AppSl_bufN eS_len (hb.ext x7) hel rfl (by omega) eS_one (by simp only [List.length_singleton]; omega) (by simp only [List.length_singleton]; omega) fun t8 w8 b8 f8 n8 => ?_
      have s8 := f8.size
      have s5 := x5.size
      have tlt : ∀ z, SliceV.at t z → z < V.heap.size := fun z hz => hb.lt hz
      have ult : ∀ a, u.a = some a → a.block < w6.heap.size := fun a ha => hbu.lt ha hpbl
      rw [wrap_i64 (by omega) (by omega)]
      refine hnext _ _ ⟨i + 1, us ++ [u], by omega, by simp, (hV.trans x7).new f8 fun z hz hzz => by have := hbz z hzz; omega, b8, by simp [hul], fun j u' p' hu' hp' => ?_, fun z hz => ?_, fun u' hu' a' ha' hc' => ?_⟩ (by simp only; omega)
      · by_cases hj : j < us.length
        · rw [List.getElem?_append_left hj] at hu'
          exact ((hin j u' p' hu' hp').ext x7).fr f8 fun a ha _ => hsep u' (List.mem_of_getElem? hu') a ha
        · rw [List.getElem?_append_right (by omega)] at hu'
          have hj2 : j = i := by
            have := (List.getElem?_eq_some_iff.1 hu').1
            simp at this; omega
          subst hj2
          rw [hp] at hp'
          cases hp'
          rw [hul, Nat.sub_self, List.getElem?_cons_zero] at hu'
          cases hu'
          exact (hbu.ext f7).fr f8 fun a ha _ hc => by have := tlt _ hc; have := hnu a ha; omega
      · rcases n8 z hz with g1 | g1
        · exact hbz z g1
        · omega
      · rcases List.mem_append.1 hu' with hu' | hu'
        · obtain ⟨j, hj⟩ := List.getElem?_of_mem hu'
          have hjl := (List.getElem?_eq_some_iff.1 hj).1
          have hpj : ps[j]? = some (ps[j]'(by omega)) := List.getElem?_eq_getElem (by omega)
          have hpo' := (okp j _ hpj).2
          have h1 := (hin j u' _ hj hpj).lt ha' (by rw [bytes6_len hpo']; omega)
          rcases n8 _ hc' with g1 | g1
          · exact hsep u' hu' a' ha' g1
          · omega
        · have : u' = u := by simpa using hu'
          subst this
          have h1 := ult a' ha'
          have h2 := hnu a' ha'
          rcases n8 _ hc' with g1 | g1
          · have := tlt _ g1; omega
          · omega
    · have hlt' : ¬ ((i : Int) < (r.len : Int)) := by omega
      simp only [hlt', decide_false, cond_false]
      have hie : i = ps.length := by omega
      refine ⟨by trivial, ⟨us, hb.sl eS_len (by omega), by omega, hin⟩, ⟨id', hW.ext hV⟩, ?_⟩
      exact ((x2 _).trans fW fun _ _ e => e).ext hV
  clear_value J49
  have zd1 : w1.drew.heap.size = w1.heap.size := rfl
  by_cases hmany : (r.len : Int) > 1
  · rw [decide_eq_true hmany, cond_true]
    simp only [List.getElem?_cons_zero, List.getElem?_cons_succ, LdV_some, dec_int, h2.hd.cell]
    refine St_row h2.hd rfl (by simp) fun w3 r3 f3 z3 => ?_
    simp only [List.set_cons_zero, List.set_cons_succ] at r3
    have f3x := f3 (· = x) rfl
    refine hJ w3 _ f3x ⟨r3, h2.cr.fr f3x (fun e => h2.ne.1 e.symm), h2.ls.fr f3x (fun e => h2.ne.2.1 e.symm), h2.len, h2.ne⟩ ⟨hf.sl.fr f3x fun a ha _ e => by have := hnr a ha; omega, hf.len, fun j y p hy hp => (hf.in_ j y p hy hp).fr f3x fun a ha e => by have := hny y (List.mem_of_getElem? hy) a ha; omega⟩
  · rw [decide_eq_false hmany, cond_false]
    exact hJ w2 _ (Fr8.refl _ _) h2 hf
end Go.Proofs
