import Derived.Test.YtidjebbkjljcjaaGreatBX5
/- The law: what goes into the softwire. -/
namespace Go.Proofs
open Gp Gp.V4
set_option maxRecDepth 100000
set_option maxHeartbeats 4000000

theorem part_plain (q : Pk6) (h : q.nx ≠ 44) : V4.partOf q = q.data := by unfold V4.partOf; rw [if_neg h]

theorem sends_ok {w : World} {s : SliceV} {l : List UInt8} (hs : SlB w s l) {a1 a2 : Int} (h1 : 0 ≤ a1 ∧ a1 ≤ 255) (h2 : 0 ≤ a2 ∧ a2 ≤ 255) : c_law32_B4Sends s a1 a2 w fun r w' => r = true ∧ Ext w w' := by
  have hlen := hs.1
  apply ok_law32_B4Sends
  unfold s_law32_B4Sends
  by_cases hbig : (s.len : Int) > 4000
  · rw [decide_eq_true hbig, cond_true]
    exact awake32_ok w
  rw [decide_eq_false hbig, cond_false]
  refine set32_ok fun w1 f1 => ?_
  refine Al_e fun a w2 r2 e2 z2 f2 => ?_
  have s1 := f1.size
  have s2 := f2.size
  refine StN_full r2 rfl rfl fun w3 r3 f3 z3 => ?_
  have f3a := f3 (· = a) rfl
  refine St_row r3 rfl (by simp) fun w4 r4 f4 z4 => ?_
  simp only [List.set_cons_zero, List.set_cons_succ] at r4
  have f4a := f4 (· = a) rfl
  obtain ⟨n2, rfl⟩ := Int.eq_ofNat_of_zero_le h2.1
  obtain ⟨mtu, hmtu⟩ : ∃ m : Nat, m = 1280 + n2 := ⟨_, rfl⟩
  have em : IntKind.i64.wrap (1280 + (IntKind.i64.wrap (n2 : Int))) = (mtu : Int) := by
    rw [wrap_i64 (n := (n2 : Int)) (by omega) (by omega), wrap_i64 (by omega) (by omega)]; omega
  rw [em] at r4
  simp -zeta only [Ld_eq, List.getElem?_cons_zero, List.getElem?_cons_succ, LdV_some, dec_int, add_mk, Nat.zero_add, Nat.add_zero, r4.cell]
  have x4 : Ext w w4 := ((f1.trans f2).new f3a fun y hy e => by omega).new f4a fun y hy e => by omega
  have s4 := x4.size
  refine cm_b4_New (new_ok (m := (mtu : Int)) (by omega) w4) ?_
  rintro p e w5 ⟨rfl, ⟨x, ct, l5, tb, rfl, hB, b1, b2, b3⟩, f5⟩
  have x5 := x4.trans f5
  have ra5 := r4.ext f5
  have hs5 := hs.ext x5
  intro J88
  have hJ : J88 false := by
    simp -zeta only [J88, cond_false]
    refine ⟨by decide, ?_⟩
    have et : IntKind.i64.wrap (2 + (IntKind.i64.wrap (Int.tmod a1 200))) = 2 + a1 % 200 := by
      rw [Int.tmod_eq_emod_of_nonneg h1.1, wrap_i64 (n := a1 % 200) (by omega) (by omega), wrap_i64 (by omega) (by omega)]
    rw [et]
    refine cm_plain_Datagram (dg_ok hs5 (by omega) (by decide) (by decide) (by omega) (by omega) (by omega)) ?_
    rintro r6 w6 ⟨⟨P, hd, hb6, _, ht⟩, hn6, f6⟩
    have hpl := hd.len
    have hh := hop_dg hd (by omega)
    have hhl := hh.len
    refine cm_b4_B4_Host (up_ok (mtu := mtu) (id := 1) (hB.ext f6) (by omega) (by omega) (by omega) hd (by omega) (by omega) hb6) ?_
    rintro up host why w7 ⟨rfl, _, ⟨us, hu⟩, _, f7⟩
    rw [show ((0 : Int) != 0) = false from rfl, cond_false]
    have x67 : Ext w w7 := (x5.trans f6).new f7 fun y hy e => by omega
    have hbl6 : ∀ y, r6.a = some y → 0 < P.bytes.length → ¬ y.block = x := fun y hy _ e => by have := hn6 y hy; have := hB.hd.lt; omega
    have hb7 : SlB w7 r6 P.bytes := hb6.fr f7 hbl6
    have hal := r4.lt
    have ra7 := (ra5.ext f6).fr f7 (by omega)
    have hwp : (wrapP ownB aftrB (hopP P).bytes).check = 0 := wrap_fine (by omega)
    have hcl := cut_ok (p := wrapP ownB aftrB (hopP P).bytes) (id := 1) (mtu := mtu) (by omega) (by omega) hwp (show (4 : Int) ≠ 44 by decide)
    have hcat : (cutL (wrapP ownB aftrB (hopP P).bytes) 1 mtu).flatMap V4.partOf = (hopP P).bytes := cut_cat (by omega) (show (4 : Int) ≠ 44 by decide)
    have hpsl : (cutL (wrapP ownB aftrB (hopP P).bytes) 1 mtu).length ≤ (hopP P).bytes.length + 1 := cutL_len _ _ _
    generalize cutL (wrapP ownB aftrB (hopP P).bytes) 1 mtu = ps at hu hcl hcat hpsl
    have okp : ∀ (j : Nat) p, ps[j]? = some p → p.check = 0 ∧ p.ok := fun j p hp => by
      have := hcl p (List.mem_of_getElem? hp)
      exact ⟨this.check, by rw [this.src]; rfl, by rw [this.dst]; rfl⟩
    have hlu := hu.len
    have hul := hu.sl.len
    have hfm : ∀ i, ((ps.take i).flatMap V4.partOf).length ≤ (hopP P).bytes.length := fun i => by
      have h3 : (ps.take i).flatMap V4.partOf ++ (ps.drop i).flatMap V4.partOf = (hopP P).bytes := by rw [← List.flatMap_append, List.take_append_drop, hcat]
      have := congrArg List.length h3
      rw [List.length_append] at this
      omega
    refine LoopP_inv (fun st V => ∃ i : Nat, i ≤ ps.length ∧ st.2.1 = (i : Int) ∧ Ext w7 V ∧ Buf V st.1 (bytesV ((ps.take i).flatMap V4.partOf)) ∧ ∀ z, SliceV.at st.1 z → w7.heap.size ≤ z) (fun st _ => ps.length - st.2.1.toNat)
      ⟨0, Nat.zero_le _, rfl, Ext.refl _, Buf.nil, by rintro z ⟨o, hz⟩; cases hz⟩ ?_
    rintro ⟨t, k, ⟨⟩⟩ V ⟨i, hi, rfl, hV, hb, hbz⟩ next hnext
    have hb : Buf V t (bytesV ((ps.take i).flatMap V4.partOf)) := hb
    have hbz : ∀ z, SliceV.at t z → w7.heap.size ≤ z := hbz
    have sV := hV.size
    by_cases hlt : i < ps.length
    · have hlt' : ((i : Int) < (up.len : Int)) := by omega
      simp -zeta only [hlt', decide_true, cond_true]
      have huV := hu.ext hV
      have hui : us[i]? = some us[i] := List.getElem?_eq_getElem (by omega)
      have hp : ps[i]? = some ps[i] := List.getElem?_eq_getElem hlt
      have htk : ps.take (i + 1) = ps.take i ++ [ps[i]] := List.take_succ_eq_append_getElem hlt
      generalize us[i] = u at hui
      generalize ps[i] = p at hp htk
      have hub := huV.in_ i u p hui hp
      obtain ⟨hpc, hpo⟩ := okp i p hp
      have hpm := hcl p (List.mem_of_getElem? hp)
      have hpb := bytes6_len hpo
      have hml := hpm.len
      obtain ⟨rw1, rw2⟩ := read6_whole hpc hpo
      refine SlN_at eS_len (by omega) huV.sl hui fun aa hcell => ?_
      have k0 := hcell 0 _ rfl
      have haa : aa.add 0 = aa := by simp [Addr.add]
      rw [haa] at k0
      simp -zeta only [LdV_some, dec_slice, k0]
      refine cm_v6_Parse (parse6_ok hub (by omega)) ?_
      rintro t0 t1 t2 t3 v0 v1 v2 v3 v4 v5 v6 v7 v8 v9 v10 v11 v12 v13 v14 v15 v16 v17 v18 v19 v20 v21 v22 v23 v24 v25 v26 v27 v28 v29 v30 v31 sp e w8 ⟨he, hk, f8⟩
      rw [rw1] at he
      subst he
      obtain ⟨hk, _⟩ := hk rfl
      rw [rw2] at hk
      refine Al_e fun m w9 r9 e9 z9 f9 => ?_
      have s9 := f9.size
      refine StN_full r9 rfl rfl fun wa ra za' za => ?_
      have x8a : Ext w8 wa := f9.new (za' (· = m) rfl) fun y hy e => by omega
      have xVa := f8.trans x8a
      have raa := (ra7.ext hV).ext xVa
      have hka := hk.ext x8a
      intro J143
      have hJ2 : J143 false := by
        simp -zeta only [J143, cond_false]
        simp -zeta only [List.getElem?_cons_zero, List.getElem?_cons_succ, LdV_some, dec_slice, dec_int, add_mk, Nat.zero_add, Nat.add_zero, ra.cell]
        refine cm_cut6_Part (part6_ok hka (by omega) hpm.frag) ?_
        rintro j0 j1 j2 j3 rs ok wb ⟨hok, hpart, fb⟩
        refine Al_e fun g wc rc ec zc fc => ?_
        have sc := fc.size
        refine StN_full rc rfl rfl fun wd rd fd zd => ?_
        have xbd : Ext wb wd := fc.new (fd (· = g) rfl) fun y hy e => by omega
        have xad := fb.trans xbd
        have xVd := xVa.trans xad
        have rad := ra.ext xad
        intro J192
        have hJ3 : ∀ sx, SlB wd sx (V4.partOf p) → J192 sx := by
          intro sx hsx
          simp only [J192]
          have hfi := hfm (i + 1)
          rw [htk, List.flatMap_append, List.length_append] at hfi
          have hpl1 : (([p] : List Pk6).flatMap V4.partOf) = V4.partOf p := by simp
          rw [hpl1] at hfi
          refine AppSl_bytes ((hb.ext xVd)) hsx (by omega) fun s' we be fe ne _ => ?_
          rw [wrap_i64 (by omega) (by omega)]
          refine hnext _ _ ⟨i + 1, by omega, by simp, (hV.trans xVd).new fe fun z hz hzz => by have := hbz z hzz; omega, ?_, fun z hz => ?_⟩ (by simp only; omega)
          · rw [htk, List.flatMap_append, hpl1]; exact be
          · rcases ne z hz with g1 | g1
            · exact hbz z g1
            · have := (hV.trans xVd).size; omega
        clear_value J192
        by_cases h44 : p.nx = 44
        · rw [hok, decide_eq_true h44, Bool.not_true, cond_false]
          exact hJ3 rs ((hpart h44).ext xbd)
        · rw [hok, decide_eq_false h44, Bool.not_false, cond_true]
          simp only [List.getElem?_cons_zero, List.getElem?_cons_succ, LdV_some, dec_slice, rad.cell]
          refine hJ3 sp ?_
          rw [part_plain p h44]
          exact (hka.data).ext xad
      clear_value J143
      rw [show ((0 : Int) != 0) = false from rfl, cond_false]
      simp -zeta only [List.getElem?_cons_zero, List.getElem?_cons_succ, LdV_some, dec_int, add_mk, Nat.zero_add, Nat.add_zero, raa.cell, ra.cell]
      have hubl := hub.1
      rw [decide_eq_false (show ¬ ((u.len : Nat) : Int) > (mtu : Int) by omega), cond_false]
      rw [eq16, show decide ([v0, v1, v2, v3, v4, v5, v6, v7, v8, v9, v10, v11, v12, v13, v14, v15] = [32, 2, 0, 0, 0, 0, 0, 0, 0, 0, 0, 0, 0, 0, 0, 0]) = true by rw [decide_eq_true_iff, hk.src, hpm.src]; rfl, Bool.not_true, cond_false]
      rw [eq16, show decide ([v16, v17, v18, v19, v20, v21, v22, v23, v24, v25, v26, v27, v28, v29, v30, v31] = [32, 1, 0, 0, 0, 0, 0, 0, 0, 0, 0, 0, 0, 0, 0, 0]) = true by rw [decide_eq_true_iff, hk.dst, hpm.dst]; rfl, Bool.not_true, cond_false]
      rw [show (t3 != 64) = false by rw [hk.n.2.2.2, hpm.hp]; rfl]
      exact hJ2
    · have hlt' : ¬ ((i : Int) < (up.len : Int)) := by omega
      simp -zeta only [hlt', decide_false, cond_false]
      have hie : i = ps.length := by omega
      subst hie
      rw [List.take_length, hcat] at hb
      obtain ⟨rd1, rd2⟩ := read_dg hd
      obtain ⟨rh1, rh2⟩ := read_dg hh
      refine cm_ref05_Parse (rparse_ok (hb7.ext hV) (by omega)) ?_
      rintro i0 i1 i2 i3 i4 i5 i6 c0 c1 op da e8 w8 ⟨he, hk, f8⟩
      rw [rd1] at he
      subst he
      rw [rd2] at hk
      obtain ⟨rfl, rfl, rfl, rfl, rfl, rfl, rfl, rfl, rfl, hop, hda⟩ := hk
      refine Al_e fun m w9 r9 e9 z9 f9 => ?_
      have s9 := f9.size
      refine StN_full r9 rfl rfl fun wa ra fa za => ?_
      have x8a : Ext w8 wa := f9.new (fa (· = m) rfl) fun y hy e => by omega
      have xVa := f8.trans x8a
      refine cm_ref05_Parse (rparse_ok (SlB.of_buf (hb.ext xVa)) (by omega)) ?_
      rintro j0 j1 j2 j3 j4 j5 j6 d0 d1 op' da' eb wb ⟨he, hk, fb⟩
      rw [rh1] at he
      subst he
      rw [rh2] at hk
      obtain ⟨rfl, rfl, rfl, rfl, rfl, rfl, rfl, rfl, rfl, hop', hda'⟩ := hk
      refine Al_e fun g wc rc ec zc fc => ?_
      have sc := fc.size
      have sa := x8a.size
      have sb := fb.size
      refine StN_full rc rfl rfl fun wd rd fd zd => ?_
      have xbd : Ext wb wd := fc.new (fd (· = g) rfl) fun y hy e => by omega
      have xad := fb.trans xbd
      have rad := ra.ext xad
      simp -zeta only [List.getElem?_cons_zero, List.getElem?_cons_succ, LdV_some, dec_int, add_mk, Nat.zero_add, Nat.add_zero, rad.cell]
      refine St_row rad rfl (by simp) fun we re fe ze => ?_
      simp only [List.set_cons_zero, List.set_cons_succ] at re
      have fem := fe (· = m) rfl
      have htt := ttl_le hd
      rw [wrap_i64 (n := P.ttl - 1) (by omega) (by omega)] at re
      have rde := rd.fr fem (by have := ra.lt; omega)
      have hz : ∀ v ∈ ([.int .i64 P.tos, .int .i64 P.id, .int .i64 P.off, .int .i64 P.ttl, .int .i64 P.proto, .int .i64 P.src, .int .i64 P.dst, .bool P.df, .bool P.mf, .slice op.a op.len op.cap, .slice da.a da.len da.cap] : List Value), ∀ n, v ≠ .int .u8 n := by
        intro v hv n e
        subst e
        simp at hv
      have hope : SlB we op (hopP P).opts := ((hop.ext x8a).ext xad).fr fem (SlB_apart ((hop.ext x8a).ext xad) rad hz)
      have hdae : SlB we da (hopP P).data := ((hda.ext x8a).ext xad).fr fem (SlB_apart ((hda.ext x8a).ext xad) rad hz)
      have hope' : SlB we op' (hopP P).opts := (hop'.ext xbd).fr fem (SlB_apart (hop'.ext xbd) rad hz)
      have hdae' : SlB we da' (hopP P).data := (hda'.ext xbd).fr fem (SlB_apart (hda'.ext xbd) rad hz)
      have hVs := hV.size
      have s8 := f8.size
      have xe : Ext w we := ((x67.trans hV).trans (xVa.trans xad)).new fem fun y hy e => by have := x67.size; omega
      intro J298
      have hJ2 : ∀ b W, (b = true ∧ Ext we W) → J298 b W := by
        rintro b W ⟨hbt, hx⟩
        simp only [J298]
        exact ⟨hbt, xe.trans hx⟩
      clear_value J298
      rw [show ((0 : Int) == 0) = true from rfl, cond_true]
      simp -zeta only [cond_true, List.getElem?_cons_zero, List.getElem?_cons_succ, LdV_some, dec_slice, dec_int, dec_bool, re.cell, rde.cell]
      refine cm_ref05_Same (rsame_ok (hopP P) (hopP P) hope hdae hope' hdae') ?_
      rintro r wf ⟨rfl, ff⟩
      rw [decide_eq_true rfl, cond_true]
      refine cm_law32_awake (awake32_ok wf) ?_
      rintro r wg ⟨hr, fg⟩
      exact hJ2 r wg ⟨hr, ff.trans fg⟩
  clear_value J88
  simp only [Option.isNone_some, cond_false]
  exact hJ
end Go.Proofs
