import Derived.Test.YtfpoefdigpfohaaGreatW11
namespace Go.Proofs
open Gp Gp.V4 Gp.Hol Gp.Jn Gp.Gets
set_option maxRecDepth 100000
set_option maxHeartbeats 4000000
theorem Zs.Q7 {β : Type} {g : β -> dZ} {W : World} {r : ah} {ys : List FC} {C : List β} (h : Va W r ys (C.map g)) : Zs g W r (ys.zip C) := by
  have hl : ys.length = C.length := by rw [h.len, List.length_map]
  refine ⟨by rw [List.map_fst_zip (by omega)]; exact h.bf, fun z hz => ?_, fun z hz => h.ap z.1 (List.of_mem_zip hz).1⟩
  obtain ⟨j, hj⟩ := List.getElem?_of_mem hz
  rw [List.getElem?_zip_eq_some] at hj
  exact h.in_ j _ _ hj.1 (by rw [List.getElem?_map, hj.2]; rfl)
theorem ES.Wv {w w' : World} {x ct l t m : Nat} {cs : List Int} {S : Nat -> Prop} (h : ES w x ct l t m cs []) (f : bF w w' S) (hx : ¬ S x) (hc : ¬ S ct) (hl : ¬ S l) (ht : ¬ S t) (hm : ¬ S m) : ES w' x ct l t m cs [] :=
  ⟨h.bw.fr f hx hc hl, h.jt.fr f ht hm (by simp), h.xt, h.xm, h.ct_, h.cm, h.lt, h.lm, h.ap⟩
theorem Tc {w : World} {r : ah} {ys : List FC} {p : dL} {n : Nat} (hg : Dg p n) (hn : n <= 3000) (hF : Va w r ys (rG (zJ p.bytes) 77 1280)) (x ct l t m : Nat) :
    ∃ (β : Type) (g : β -> dZ) (zs0 : List (FC × β)), Zs g w r zs0 ∧ zs0.length <= 4000 ∧ (∀ z ∈ zs0, z.1 ∈ ys) ∧ (∀ z ∈ zs0, (g z.2).check = 0 ∧ (g z.2).ok) ∧
      ∀ zs : List (FC × β), zs.Perm zs0 -> ∀ (wl : World) (cs : List Int), ES wl x ct l t m cs [] -> ∃ Inv, RV x l m p.bytes (zs.map fun z => g z.2) wl Inv := by
  have hl := hg.len
  have hyl : ys.length <= 4000 := by
    have := Jv (zJ p.bytes) 77 1280
    rw [<- hF.len] at this
    have h2 : (zJ p.bytes).data.length = p.bytes.length := rfl
    omega
  by_cases hs : 40 + p.bytes.length <= 1280
  · have e : rG (zJ p.bytes) 77 1280 = [zJ p.bytes].map id := by
      unfold rG; rw [if_pos (show 40 + (zJ p.bytes).data.length <= 1280 from hs)]; rfl
    rw [e] at hF
    refine ⟨dZ, id, ys.zip [zJ p.bytes], .Q7 hF, by rw [List.length_zip]; omega, fun z hz => (List.of_mem_zip hz).1, fun z hz => ?_, fun zs hp wl cs E => ?_⟩
    · obtain h := List.mem_singleton.1 (List.of_mem_zip hz).2
      rw [h]
      exact ⟨C9 (by omega), rfl, rfl⟩
    · have h1 : (zs.map fun z => id z.2).Perm [zJ p.bytes] := by
        have := hp.map (fun z => id z.2)
        have e2 : (ys.zip [zJ p.bytes]).map (fun z => id z.2) = [zJ p.bytes] := List.map_snd_zip (by have := hF.len; simp at this; simp; omega)
        rwa [e2] at this
      rw [List.perm_singleton.1 h1]
      exact Ll hg hn E
  · have e : rG (zJ p.bytes) 77 1280 = (dX 1232 1232 p.bytes (p.bytes.length + 1) 0).map (jl (zJ p.bytes) 77) := by
      unfold rG; rw [if_neg (show ¬ 40 + (zJ p.bytes).data.length <= 1280 from hs)]; rfl
    rw [e] at hF
    generalize hC : dX 1232 1232 p.bytes (p.bytes.length + 1) 0 = C at hF
    refine ⟨_, jl (zJ p.bytes) 77, ys.zip C, .Q7 hF, by rw [List.length_zip]; omega, fun z hz => (List.of_mem_zip hz).1, fun z hz => ?_, fun zs hp wl cs E => ?_⟩
    · have hm := (List.of_mem_zip hz).2
      rw [<- hC] at hm
      have ok := chunk_ok (Nat.le_refl _) (by decide) (Nat.zero_le _) rfl z.2 hm
      have := ok.lt
      exact ⟨JY z.2 (by omega), rfl, rfl⟩
    · have h1 : (zs.map Prod.snd).Perm C := by
        have := hp.map Prod.snd
        have hl2 := hF.len
        rw [List.length_map] at hl2
        rwa [List.map_snd_zip (by omega)] at this
      have := Pv hg hn E hC.symm h1
      rwa [List.map_map] at this
theorem Dx (b : ByteArray) : strEq b b = true := by unfold strEq; simp
theorem UM {w : World} {a0 a1 : ah} {dl ol : List UInt8} (h0 : aS w a0 dl) (h1 : aS w a1 ol) : uG a0 a1 w fun r w' => r = true ∧ Ext w w' := by
  apply AU
  by_cases hl : (a0.len : Int) > 3000
  · rw [decide_eq_true hl, cond_true]
    exact sO (BX w) fun r w' h => h
  rw [decide_eq_false hl, cond_false]
  have hdl := h0.1
  refine yA fun w1 f1 => ?_
  refine Gh (UH w1) ?_
  rintro xp e w2 ⟨rfl, ⟨x, ct, l, t, m, rfl, E, nx, nc, nl, nt, nm⟩, f2⟩
  obtain ⟨lx, lc, ll⟩ := E.Wu
  have lt_ := E.jt.row.lt
  have lm := E.jt.map.lt
  have s1 := f1.size
  intro J
  have hJ : J false := by
    simp -zeta only [J]
    rw [cond_false]
    refine iT (Rj (h0.ext (f1.trans f2)) (by omega) (by decide) (by decide) (by omega) (by omega) (by omega)) ?_
    rintro b w3 ⟨⟨p, hg, hb, hps, hpt⟩, hnb, f3⟩
    have hbl := hg.len
    refine yA fun w4 f4 => yA fun w5 f5 => ?_
    have hb5 := (hb.ext f4).ext f5
    refine zZ (Om (q := zJ p.bytes) (id := 77) (mtu := 1280) ⟨⟨rfl, rfl, rfl, rfl⟩, rfl, rfl, hb5⟩ (C9 (by omega)) (by omega) (by omega) (by omega)) ?_
    rintro r e w6 ⟨rfl, f6, ys, hF, hnr, hny⟩
    rw [show ((0 : Int) != 0) = false from rfl, cond_false]
    obtain ⟨β, g, zs0, Z, hz4, hys, hgood, hstep⟩ := Tc hg (by omega) hF x ct l t m
    have x25 := f3.trans (f4.trans f5)
    have s25 := x25.size
    have s3 := f3.size
    have hr5 : ∀ z, ah.at r z -> w5.heap.size <= z := fun z ⟨o, hz⟩ => hnr _ hz
    have E6 := E.ext (x25.trans f6)
    have hb6 := hb5.ext f6
    have hbb : ∀ a, b.a = some a -> w2.heap.size <= a.block ∧ a.block < w5.heap.size := fun a ha => ⟨hnb a ha, hb5.lt ha (by omega)⟩
    refine bn (fun st W => ∃ (i : Nat) (zs : List (FC × β)), i <= zs0.length ∧ st.1 = (i : Int) ∧ zs.Perm zs0 ∧ Zs g W r zs ∧ bF w6 W (ah.at r)) (fun st _ => zs0.length - st.1.toNat) ⟨0, zs0, by omega, rfl, .refl _, Z, bF.refl _ _⟩ ?_
    rintro ⟨s, ⟨⟩⟩ W ⟨i, zs, hi, hs, hp, hZ, hf⟩ next hnext
    simp only at hs
    subst hs
    have hzl := hp.length_eq
    have hrl := hZ.len
    have hokz : ∀ z ∈ zs, (g z.2).check = 0 ∧ (g z.2).ok := fun z hz => hgood z (hp.mem_iff.1 hz)
    by_cases hlt : (i : Int) < (r.len : Int)
    · simp -zeta only [hlt, decide_true, cond_true]
      intro J132
      have hJ132 : ∀ W' zs', zs'.Perm zs0 -> Zs g W' r zs' -> bF w6 W' (ah.at r) -> J132 W' := by
        intro W' zs' hp' hZ' hf'
        simp only [J132]
        rw [wrap_i64 (by omega) (by omega)]
        exact hnext _ _ ⟨i + 1, zs', by omega, by simp, hp', hZ', hf'⟩ (by simp only; omega)
      clear_value J132
      by_cases ho : (i : Int) < (a1.len : Int)
      · rw [decide_eq_true ho, cond_true]
        have hol := h1.1
        have ha1 : aS W a1 ol := (((((h1.ext f1).ext f2).ext x25).ext f6)).fr hf fun a ha h0 hS => by
          have := h1.lt ha h0; have := hr5 _ hS; have := f2.size; omega
        refine byte_at ha1 (i := i) (by omega) fun a2 c2 k2 => ?_
        refine ⟨((ol[i]'(by omega)).toNat : Int), c2, ?_⟩
        have hb255 := (ol[i]'(by omega)).toNat_lt
        have ek : IntKind.i64.wrap ((i : Int) + Int.tmod (IntKind.i64.wrap ((ol[i]'(by omega)).toNat : Int)) (IntKind.i64.wrap ((r.len : Int) - (i : Int)))) = ((i + (ol[i]'(by omega)).toNat % (zs.length - i) : Nat) : Int) := by
          have e1 : IntKind.i64.wrap ((r.len : Int) - (i : Int)) = ((zs.length - i : Nat) : Int) := by rw [wrap_i64 (by omega) (by omega)]; omega
          have e2 : IntKind.i64.wrap ((ol[i]'(by omega)).toNat : Int) = ((ol[i]'(by omega)).toNat : Int) := wrap_i64 (by omega) (by omega)
          rw [e1, e2, show ∀ u v : Nat, Int.tmod (u : Int) (v : Int) = ((u % v : Nat) : Int) from fun u v => rfl]
          have := Nat.mod_lt (ol[i]'(by omega)).toNat (show 0 < zs.length - i by omega)
          rw [wrap_i64 (by omega) (by omega)]
          omega
        have hk := Nat.mod_lt (ol[i]'(by omega)).toNat (show 0 < zs.length - i by omega)
        refine ⟨by rw [wrap_i64 (by omega) (by omega)]; omega, ?_⟩
        simp only [ek]
        refine Us (hZ.ext (Ext.drew W)) (fun z hz => (hokz z hz).2) (i := i) (k := i + (ol[i]'(by omega)).toNat % (zs.length - i)) (by omega) (by omega) fun W' hZ' hf' => hJ132 W' _ ?_ hZ' (hf.trans ((Ext.drew W _).trans hf' fun _ _ e => e) fun _ _ e => e)
        exact (List.set_set_perm (by omega) (by omega)).trans hp
      · rw [decide_eq_false ho, cond_false]
        exact hJ132 W zs hp hZ hf
    simp -zeta only [hlt, decide_false, cond_false]
    have hEW : ES W x ct l t m (List.replicate 14 0) [] := E6.Wv hf (fun h => by have := hr5 _ h; omega) (fun h => by have := hr5 _ h; omega) (fun h => by have := hr5 _ h; omega) (fun h => by have := hr5 _ h; omega) (fun h => by have := hr5 _ h; omega)
    obtain ⟨Inv, SI⟩ := hstep zs hp W _ hEW
    have hbW : aS W b p.bytes := hb6.fr hf fun a ha _ hS => by have := hr5 _ hS; have := hbb a ha; omega
    have hqs : (zs.map fun z => g z.2).length = zs.length := List.length_map _
    have sW := hf.size
    have s6 := f6.size
    refine bn (fun st V => ∃ i : Nat, i <= zs.length ∧ st.1 = (i : Int) ∧ Inv i V) (fun st _ => zs.length - st.1.toNat) ⟨0, by omega, rfl, SI.z⟩ ?_
    rintro ⟨s, ⟨⟩⟩ V ⟨i, hi, hs, hI⟩ next hnext
    simp only at hs
    subst hs
    have fV := SI.fr i V hI
    by_cases hlt : (i : Int) < (r.len : Int)
    case neg =>
      simp -zeta only [hlt, decide_false, cond_false]
      refine sO (BX V) ?_
      rintro q V' ⟨rfl, f⟩
      refine ⟨rfl, Ext.trans ?_ f⟩
      exact (((f1.trans f2).trans (x25.trans f6)).new hf fun z hz hS => by have := hr5 _ hS; have := f2.size; omega).new fV fun z hz hS => by rcases hS with h | h <;> omega
    simp -zeta only [hlt, decide_true, cond_true]
    have hiz : i < zs.length := by omega
    have hZV : Zs g V r zs := hZ.fr fV (fun z hz hS => by have := hr5 z hz; rcases hS with h | h <;> omega) fun z hz a ha hS => by
      have h1 := hny z.1 (hys z (hp.mem_iff.1 hz)) a ha
      rcases hS with h | h <;> omega
    obtain ⟨hck, hqo⟩ := hokz _ (List.getElem_mem hiz)
    obtain ⟨_, _, _, _, _, _, _, _, _, _, _, _, _, _, _, _, _, _, _, _, _, _, _, _, _, _, _, _, _, _, _, _, s, ek, hsr, hds, hda, hK⟩ := hZV.get (fun z hz => (hokz z hz).2) hiz (Ext.refl V)
    refine hK _ ?_
    refine rD rfl rfl fun a V1 ra ea z1 fa => ?_
    simp -zeta only [sx, ra.cell]
    refine Cj (Oa (q := g zs[i].2) ⟨⟨rfl, rfl, rfl, rfl⟩, hsr, hds, hda.ext fa⟩ hck) ?_
    rintro c e V2 ⟨rfl, hc, _, fb⟩
    refine A_ (SI.go i (by omega) V2 c (SI.ext _ _ _ hI (fa.trans fb)) (by rw [List.getElem_map]; exact hc)) ?_
    rintro up host why V3 ⟨rfl, hI3, hO, hN⟩
    rw [hqs] at hO hN
    have hI3d := SI.ext _ _ _ hI3 (Ext.drew V3)
    refine z_.of fun J305 hJ305 => ?_
    have hfin : J305 ((false, ()), V3.drew) := hJ305 _ (by
      simp only [cond_false]
      rw [wrap_i64 (by omega) (by omega)]
      exact hnext _ _ ⟨i + 1, by omega, by simp, hI3d⟩ (by simp only; omega))
    rw [show ((0 : Int) != 0) = false from rfl, cond_false, cond_false, wrap_i64 (by omega) (by omega)]
    by_cases hlast : i + 1 = zs.length
    · obtain ⟨d, s', rfl, rd, hs'⟩ := hO hlast
      have e1 : ((i : Int) + 1 == (r.len : Int)) = true := by rw [beq_iff_eq]; omega
      rw [e1]
      simp only [show ((((1 : Nat) : Int) == 1) = true) from rfl, beq_self_eq_true, Bool.not_true, cond_false, cond_true]
      have rd := rd.drew
      have hs' := hs'.ext (Ext.drew V3)
      have fV3 := SI.fr _ _ hI3d
      have hb3 : aS V3.drew b p.bytes := hbW.fr fV3 fun a ha _ hS => by have := hbb a ha; rcases hS with h | h <;> omega
      simp only [sx, rd.cell]
      refine ⟨by omega, by omega, ?_, ?_⟩
      · refine iD hs' (iD hb3 ?_)
        simp only [sx, rd.cell]
        rw [Dx]
        exact ⟨by trivial, hfin⟩
      · refine iD hb3 ?_
        simp only [sx, rd.cell]
        refine ⟨by trivial, iD hs' ?_⟩
        rw [Dx]
        exact hfin
    · obtain rfl := hN hlast
      have e1 : ((i : Int) + 1 == (r.len : Int)) = false := by rw [beq_eq_false_iff_ne]; omega
      rw [e1]
      exact ⟨hfin, hfin⟩
  clear_value J
  simp -zeta only [Option.isNone_some, cond_false]
  exact hJ
end Go.Proofs
