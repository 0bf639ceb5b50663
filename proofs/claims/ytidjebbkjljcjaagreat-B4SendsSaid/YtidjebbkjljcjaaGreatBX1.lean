import Derived.Test.YtidjebbkjljcjaaGreatXB4
/- A packet of version six is cut. -/
namespace Go.Proofs
open Gp Gp.V4
set_option maxRecDepth 100000
set_option maxHeartbeats 1000000

def subS (s : SliceV) (lo hi : Nat) : SliceV := ⟨subA s.a s.cap lo 1, hi - lo, s.cap - lo⟩

theorem subS_slb {w : World} {s : SliceV} {l : List UInt8} (h : SlB w s l) {lo hi : Nat} (h1 : lo ≤ hi) (h2 : hi ≤ l.length) : SlB w (subS s lo hi) ((l.take hi).drop lo) := by
  have := (SubSl_bytes (lo := (lo : Int)) (hi := (hi : Int)) (K := fun s' => SlB w s' ((l.take hi).drop lo)) h (by omega) (by omega) (by omega) fun s' hs' _ => by simpa only [Int.toNat_natCast] using hs').2.2.2
  simp only [Int.toNat_natCast] at this
  exact this

theorem size6_ok {w : World} (t0 t1 t2 t3 v0 v1 v2 v3 v4 v5 v6 v7 v8 v9 v10 v11 v12 v13 v14 v15 v16 v17 v18 v19 v20 v21 v22 v23 v24 v25 v26 v27 v28 v29 v30 v31 : Int) {s : SliceV} (hs : s.len ≤ 2 ^ 46) : c_v6_Size t0 t1 t2 t3 v0 v1 v2 v3 v4 v5 v6 v7 v8 v9 v10 v11 v12 v13 v14 v15 v16 v17 v18 v19 v20 v21 v22 v23 v24 v25 v26 v27 v28 v29 v30 v31 s w fun r w' => r = 40 + (s.len : Int) ∧ Ext w w' := by
  apply ok_v6_Size
  unfold s_v6_Size
  refine Al_e fun a w1 r1 e1 z1 f1 => ?_
  simp only [Ld_eq, List.getElem?_cons_zero, List.getElem?_cons_succ, LdV_some, dec_slice, add_mk, Nat.zero_add, r1.cell]
  exact ⟨by rw [wrap_i64 (by omega) (by omega)], f1⟩

theorem parse6_ok {w : World} {s : SliceV} {l : List UInt8} (hs : SlB w s l) (hl : l.length ≤ 2 ^ 40) :
    c_v6_Parse s w fun t0 t1 t2 t3 r0 r1 r2 r3 r4 r5 r6 r7 r8 r9 r10 r11 r12 r13 r14 r15 r16 r17 r18 r19 r20 r21 r22 r23 r24 r25 r26 r27 r28 r29 r30 r31 s' e w' => e = read6E l false ∧ (e = 0 → Pk6L w' (field6 l) t0 t1 t2 t3 [r0, r1, r2, r3, r4, r5, r6, r7, r8, r9, r10, r11, r12, r13, r14, r15] [r16, r17, r18, r19, r20, r21, r22, r23, r24, r25, r26, r27, r28, r29, r30, r31] s' ∧ NewS w s') ∧ Ext w w' := by
  apply ok_v6_Parse
  unfold s_v6_Parse
  refine Al_e fun a w1 r1 e1 z1 f1 => ?_
  refine cm_v6_read (read6_ok (hs.ext f1) hl false) ?_
  rintro u0 u1 u2 u3 v0 v1 v2 v3 v4 v5 v6 v7 v8 v9 v10 v11 v12 v13 v14 v15 v16 v17 v18 v19 v20 v21 v22 v23 v24 v25 v26 v27 v28 v29 v30 v31 s' e w2 ⟨he, hp, f2⟩
  refine StN_full (r1.ext f2) rfl rfl fun w3 r3 f3 _ => ?_
  have f3a := f3 (· = a) rfl
  have z1' := f1.size
  have z2 := f2.size
  simp only [Ld_eq, List.getElem?_cons_zero, List.getElem?_cons_succ, LdV_some, dec_slice, dec_int, add_mk, Nat.zero_add, Nat.add_zero, r3.cell]
  refine ⟨he, fun h0 => ?_, (f1.trans f2).new f3a fun y hy e => by omega⟩
  obtain ⟨h, hn⟩ := hp h0
  exact ⟨⟨h.n, h.src, h.dst, h.data.fr f3a fun x hx _ e => by have := hn x hx; omega⟩, fun x hx => by have := hn x hx; omega⟩

theorem or_one {n : Nat} (h : n % 8 = 0) (hn : n < 65536) : orI .i64 (n : Int) 1 = ((n + 1 : Nat) : Int) := by
  have := or_i64 (a := n) (b := 1) (by omega) (by omega)
  rw [show ((1 : Nat) : Int) = 1 from rfl] at this
  rw [this]
  have e := or_add (a := n / 8) (k := 3) (b := 1) (by omega)
  rw [show n / 8 * 2 ^ 3 = n by omega] at e
  rw [e]

theorem buildfrag_ok {w : World} {nx off id : Nat} (more : Bool) (h1 : nx < 256) (h2 : off < 65536) (h3 : off % 8 = 0) (h4 : id < 4294967296) :
    c_v6_BuildFrag (nx : Int) (off : Int) (id : Int) more w fun r e w' => e = 0 ∧ Buf w' r (bytesV (fragH nx off more id)) ∧ Ext w w' ∧ ∀ b, SliceV.at r b → w.heap.size ≤ b := by
  apply ok_v6_BuildFrag
  unfold s_v6_BuildFrag
  refine Al_e fun a w1 r1 e1 z1 f1 => ?_
  intro J4
  have hJ : J4 false w1 := by
    simp -zeta only [J4, cond_false]
    simp -zeta only [Ld_eq, List.getElem?_cons_zero, List.getElem?_cons_succ, LdV_some, dec_int, dec_bool, add_mk, Nat.zero_add, r1.cell]
    intro J8
    have hJ8 : ∀ p : Nat, p = off + (if more then 1 else 0) → J8 (p : Int) := by
      intro p hp
      simp only [J8]
      refine Al_e fun b w2 r2 e2 z2 f2 => ?_
      have e8 : IntKind.u8.wrap (nx : Int) = ((UInt8.ofNat nx).toNat : Int) := by
        rw [IntKind.wrap_u8]; simp
      rw [e8] at r2
      have hs2 : SlB w2 ⟨some ⟨b, 0, none⟩, 2, 2⟩ [UInt8.ofNat nx, 0] := by
        refine SlB_row (A := []) (C := []) (l := [UInt8.ofNat nx, 0]) (L := bytesV [UInt8.ofNat nx, 0]) (o := 0) r2 ?_ ?_ rfl <;> simp
      have hp2 : p < 65537 := by rw [hp]; split <;> omega
      have hp3 : p < 65536 := by
        rw [hp]; split <;> omega
      refine cm_be_Put (put_ok hs2 (by simp) (p : Int) 2) ?_
      rintro s3 w3 ⟨b3, f3, n3⟩
      have p2 : putL [UInt8.ofNat nx, 0] (p : Int) 2 = [UInt8.ofNat nx, 0] ++ beN 2 p := putL_fit (k := 2) (by omega) (by omega)
      rw [p2] at b3
      have r13 := (r1.ext f2).ext f3
      simp only [List.getElem?_cons_zero, List.getElem?_cons_succ, LdV_some, dec_int, r13.cell]
      refine cm_be_Put (put_ok (SlB.of_buf b3) (by simp [beN_len]) (id : Int) 4) ?_
      rintro s4 w4 ⟨b4, f4, n4⟩
      have p4 : putL ([UInt8.ofNat nx, 0] ++ beN 2 p) (id : Int) 4 = [UInt8.ofNat nx, 0] ++ beN 2 p ++ beN 4 id := putL_fit (k := 4) (by omega) (by omega)
      rw [p4] at b4
      have z1' := f1.size
      have z2' := f2.size
      have z3' := f3.size
      refine ⟨by trivial, ?_, ((f1.trans f2).trans f3).trans f4, fun c hc => by have := n4 c hc; omega⟩
      rw [hp] at b4
      exact b4
    clear_value J8
    cases more with
    | true =>
      rw [cond_true, or_one h3 h2]
      exact hJ8 _ (by simp)
    | false =>
      rw [cond_false]
      exact hJ8 _ (by simp)
  clear_value J4
  simp -zeta only [Ld_eq, List.getElem?_cons_zero, LdV_some, dec_int, add_mk, Nat.zero_add, r1.cell]
  refine cm_be_Fits (fits_ok _ 1 w1) ?_
  rintro rr w2 ⟨hr, hw⟩
  subst hw
  rw [hr, decide_eq_true (show fitsP (nx : Int) 1 from ⟨⟨by omega, by omega⟩, by omega, by simp; omega⟩), Bool.not_true, cond_false]
  simp -zeta only [List.getElem?_cons_zero, List.getElem?_cons_succ, LdV_some, dec_int, r1.cell]
  refine cm_be_Fits (fits_ok _ 4 w2) ?_
  rintro rr w3 ⟨hr, hw⟩
  subst hw
  rw [hr, decide_eq_true (show fitsP (id : Int) 4 from ⟨⟨by omega, by omega⟩, by omega, by simp; omega⟩), Bool.not_true, cond_false]
  simp -zeta only [List.getElem?_cons_zero, List.getElem?_cons_succ, LdV_some, dec_int, r1.cell]
  refine cm_be_Fits (fits_ok _ 2 w3) ?_
  rintro rr w4 ⟨hr, hw⟩
  subst hw
  rw [hr, decide_eq_true (show fitsP (off : Int) 2 from ⟨⟨by omega, by omega⟩, by omega, by simp; omega⟩), Bool.not_true, cond_false]
  simp -zeta only [List.getElem?_cons_zero, List.getElem?_cons_succ, LdV_some, dec_int, r1.cell]
  refine ⟨by decide, ?_⟩
  have e : (Int.tmod (off : Int) 8 != 0) = false := by
    rw [Int.tmod_eq_emod_of_nonneg (by omega), bne_eq_false_iff_eq]; omega
  rw [e]
  exact hJ

theorem buildfrag_okI {w : World} {nx : Int} {off id : Nat} (more : Bool) (h0 : 0 ≤ nx) (h1 : nx < 256) (h2 : off < 65536) (h3 : off % 8 = 0) (h4 : id < 4294967296) :
    c_v6_BuildFrag nx (off : Int) (id : Int) more w fun r e w' => e = 0 ∧ Buf w' r (bytesV (fragH nx.toNat off more id)) ∧ Ext w w' ∧ ∀ b, SliceV.at r b → w.heap.size ≤ b := by
  obtain ⟨n, rfl⟩ := Int.eq_ofNat_of_zero_le h0
  rw [Int.toNat_natCast]
  exact buildfrag_ok more (by omega) h2 h3 h4

abbrev yC : List Shape := [.agg [.int .i64, .int .i64, .int .i64, .bool], .one .slice]
def yCv (s : SliceV) (xs : List (Nat × Bool × List UInt8)) : List (DenR yC) := xs.map fun x => ((0, (x.1 : Int), 0, x.2.1, ()), subS s x.1 (x.1 + x.2.2.length), ())

theorem chunks_iter {s : SliceV} {D : List UInt8} {f0 f1 most size : Nat} (hD : D.length ≤ 2 ^ 40) (hm : most ≤ 2 ^ 40) (hs8 : size = most / 8 * 8) (h8 : 8 ≤ most) :
    IterFn Tryz.prog yC (Value.func (.func n_cut6_chunks_1) #[] #[(Value.pointer (some ⟨f0, 0, none⟩)), (Value.pointer (some ⟨f1, 0, none⟩))])
      (fun W => Row W f0 [.int .i64 (most : Int)] ∧ Row W f1 [.slice s.a s.len s.cap] ∧ SlB W s D) (yCv s (chunkL most size D (D.length + 1) 0)) := by
  refine ⟨by kernel_rfl, fun n Q D' hC hQ hD' hy w h0 => ?_⟩
  refine Calls.mono (ok_cut6_chunks_1 (a0 := .func (.yield n) #[] #[]) (f0 := ⟨f0, 0, none⟩) (f1 := ⟨f1, 0, none⟩) (K := fun w' => Q (yCv s (chunkL most size D (D.length + 1) 0)).length w' ∨ D' w') ?_) (fun e w' h => h)
  unfold s_cut6_chunks_1
  obtain ⟨r0, r1, hs⟩ := hC _ _ h0
  have hlen := hs.1
  have hyl : ∀ xs, (yCv s xs).length = xs.length := fun xs => by simp [yCv]
  rw [hyl]
  simp -zeta only [Ld_eq, List.getElem?_cons_zero, LdV_some, dec_int, r0.cell]
  refine ⟨by decide, ?_⟩
  generalize hxs : chunkL most size D (D.length + 1) 0 = xs at hy ⊢
  refine LoopP_inv (fun st W => ∃ j k at_ : Nat, st.1 = (at_ : Int) ∧ at_ ≤ D.length ∧ D.length - at_ < k * size ∧ Q j W ∧ xs.drop j = chunkL most size D k at_) (fun st _ => D.length - st.1.toNat)
    ⟨0, D.length + 1, 0, rfl, Nat.zero_le _, by
      have h1 : (D.length + 1) * 1 ≤ (D.length + 1) * size := Nat.mul_le_mul_left _ (by omega)
      omega, h0, by rw [List.drop_zero, hxs]⟩ ?_
  rintro ⟨x, ⟨⟩⟩ W ⟨j, k, at_, rfl, ha, hk, hq, hd⟩ next hnext
  obtain ⟨r0, r1, hs⟩ := hC _ _ hq
  simp -zeta only [List.getElem?_cons_zero, LdV_some, dec_slice, dec_int, r0.cell, r1.cell]
  rw [wrap_i64 (n := (s.len : Int) - (at_ : Int)) (by omega) (by omega)]
  cases k with
  | zero => omega
  | succ k =>
  unfold chunkL at hd
  by_cases hmore : D.length - at_ > most
  · rw [if_pos hmore] at hd
    rw [decide_eq_true (show ((s.len : Int) - (at_ : Int)) > (most : Int) by omega), cond_true]
    have esz : IntKind.i64.wrap ((IntKind.i64.wrap (Int.tdiv (most : Int) 8)) * 8) = (size : Int) := by
      rw [Int.tdiv_eq_ediv_of_nonneg (by omega), wrap_i64 (n := (most : Int) / 8) (by omega) (by omega), wrap_i64 (by omega) (by omega)]
      omega
    rw [esz]
    dsimp only
    simp only [cond_true]
    rw [wrap_i64 (by omega) (by omega)]
    have hsub : SubSl ⟨s.a, s.len, s.cap⟩ 1 (at_ : Int) ((at_ : Int) + (size : Int)) fun s' => s' = subS s at_ (at_ + size) := by
      have hc := hs.2.2
      refine ⟨by omega, by omega, by simp only; omega, ?_⟩
      unfold subS
      simp only [Int.toNat_natCast, show ((at_ : Int) + (size : Int)).toNat = at_ + size by omega]
    obtain ⟨q1, q2, q3, q4⟩ := hsub
    refine ⟨q1, q2, q3, ?_⟩
    rw [q4]
    have hx : (yCv s xs)[j]? = some ((0, (at_ : Int), 0, true, ()), subS s at_ (at_ + size), ()) := by
      have h0 : xs[j]? = some (at_, true, (D.drop at_).take size) := by
        have := congrArg (fun l => l[0]?) hd
        simpa using this
      have e : ((D.drop at_).take size).length = size := by rw [List.length_take, List.length_drop]; omega
      unfold yCv
      rw [List.getElem?_map, h0]
      simp only [Option.map_some, e]
    refine callV_yield (hy j _ W _ hx hq ?_ ?_)
    · intro W' hq'
      refine ⟨true, rfl, ?_⟩
      simp only [Bool.not_true, cond_false]
      refine hnext _ _ ⟨j + 1, k, at_ + size, by simp, by omega, by rw [Nat.add_mul] at hk; omega, hq', ?_⟩ (by simp only; omega)
      have := congrArg (List.drop 1) hd
      rw [List.drop_drop] at this
      simpa using this
    · intro W' hd'
      refine ⟨false, rfl, ?_⟩
      simp only [Bool.not_false, cond_true]
      exact .inr hd'
  · rw [if_neg hmore] at hd
    rw [decide_eq_false (show ¬ ((s.len : Int) - (at_ : Int)) > (most : Int) by omega), cond_false]
    dsimp only
    have hxl : xs.length = j + 1 := by
      have := congrArg List.length hd
      rw [List.length_drop] at this
      simp at this
      omega
    simp only [cond_true]
    rw [wrap_i64 (by omega) (by omega)]
    have hsub : SubSl ⟨s.a, s.len, s.cap⟩ 1 (at_ : Int) ((at_ : Int) + ((s.len : Int) - (at_ : Int))) fun s' => s' = subS s at_ D.length := by
      have hc := hs.2.2
      refine ⟨by omega, by omega, by simp only; omega, ?_⟩
      unfold subS
      simp only [Int.toNat_natCast, show ((at_ : Int) + ((s.len : Int) - (at_ : Int))).toNat = D.length by omega]
    obtain ⟨q1, q2, q3, q4⟩ := hsub
    refine ⟨q1, q2, q3, ?_⟩
    rw [q4]
    have hx : (yCv s xs)[j]? = some ((0, (at_ : Int), 0, false, ()), subS s at_ D.length, ()) := by
      have h0 : xs[j]? = some (at_, false, D.drop at_) := by
        have := congrArg (fun l => l[0]?) hd
        simpa using this
      have e : at_ + (D.drop at_).length = D.length := by rw [List.length_drop]; omega
      unfold yCv
      rw [List.getElem?_map, h0]
      simp only [Option.map_some, e]
    refine callV_yield (hy j _ W _ hx hq ?_ ?_)
    · intro W' hq'
      refine ⟨true, rfl, ?_⟩
      simp only [Bool.not_true, Bool.not_false, cond_false, cond_true]
      rw [hxl]
      exact .inl hq'
    · intro W' hd'
      refine ⟨false, rfl, ?_⟩
      simp only [Bool.not_false, cond_true]
      exact .inr hd'

theorem part6_ok {w : World} {q : Pk6} {t0 t1 t2 t3 p0 p1 p2 p3 p4 p5 p6 p7 p8 p9 p10 p11 p12 p13 p14 p15 p16 p17 p18 p19 p20 p21 p22 p23 p24 p25 p26 p27 p28 p29 p30 p31 : Int} {s : SliceV} (h : Pk6L w q t0 t1 t2 t3 [p0, p1, p2, p3, p4, p5, p6, p7, p8, p9, p10, p11, p12, p13, p14, p15] [p16, p17, p18, p19, p20, p21, p22, p23, p24, p25, p26, p27, p28, p29, p30, p31] s) (hl : q.data.length ≤ 2 ^ 40) (h8 : q.nx = 44 → 8 ≤ q.data.length) :
    c_cut6_Part t0 t1 t2 t3 p0 p1 p2 p3 p4 p5 p6 p7 p8 p9 p10 p11 p12 p13 p14 p15 p16 p17 p18 p19 p20 p21 p22 p23 p24 p25 p26 p27 p28 p29 p30 p31 s w fun _ _ _ _ r ok w' => ok = decide (q.nx = 44) ∧ (q.nx = 44 → SlB w' r (V4.partOf q)) ∧ Ext w w' := by
  obtain ⟨⟨rfl, rfl, rfl, rfl⟩, hsrc, hdst, hdata⟩ := h
  apply ok_cut6_Part
  unfold s_cut6_Part
  refine Al_e fun a w1 r1 e1 z1 f1 => Al_e fun b w2 r2 e2 z2 f2 => ?_
  have r1' := r1.ext f2
  have z1' := f1.size
  simp only [Ld_eq, List.getElem?_cons_zero, List.getElem?_cons_succ, LdV_some, dec_slice, dec_int, add_mk, Nat.zero_add, Nat.add_zero, r1'.cell]
  by_cases h4 : q.nx = 44
  · rw [show (q.nx != 44) = false by simpa using h4, cond_false, decide_eq_true h4]
    refine cm_v6_ParseFrag (frag_ok ((hdata.ext f1).ext f2) hl) ?_
    rintro i0 i1 i2 i3 r e w3 ⟨he, hp, f3⟩
    rw [if_neg (by have := h8 h4; omega)] at he
    obtain ⟨_, _, hb⟩ := hp he
    refine Al_e fun c w4 r4 e4 z4 f4 => ?_
    have z4' := f4.size
    refine StN_full r4 rfl rfl fun w5 r5 f5 z5 => ?_
    have x35 : Ext w3 w5 := f4.new (f5 (· = c) rfl) fun y hy e => by omega
    simp only [List.getElem?_cons_zero, List.getElem?_cons_succ, LdV_some, dec_int, dec_bool, add_mk, Nat.zero_add, Nat.add_zero, r5.cell]
    refine StN_full (r2.ext (f3.trans x35)) rfl rfl fun w6 r6 f6 z6 => ?_
    have f6b := f6 (· = b) rfl
    simp only [List.getElem?_cons_zero, List.getElem?_cons_succ, LdV_some, dec_int, dec_bool, r6.cell]
    have hz : ∀ v ∈ ([.int .i64 0, .int .i64 0, .int .i64 0, .bool false] : List Value), ∀ n, v ≠ .int .u8 n := by
      intro v hv n e
      subst e
      simp at hv
    refine ⟨by rw [he]; rfl, fun _ => ?_, (f1.trans (f2.trans (f3.trans x35))).new f6b fun y hy e => by omega⟩
    unfold V4.partOf
    rw [if_pos h4]
    have hb5 := hb.ext x35
    exact hb5.fr f6b (SlB_apart hb5 (r2.ext (f3.trans x35)) hz)
  · rw [show (q.nx != 44) = true by simpa using h4, cond_true, decide_eq_false h4]
    refine StN_full r2 rfl rfl fun w3 r3 f3 z3 => ?_
    simp only [List.getElem?_cons_zero, List.getElem?_cons_succ, LdV_some, dec_int, dec_bool, r3.cell]
    exact ⟨by trivial, fun h => absurd h h4, (f1.trans f2).new (f3 (· = b) rfl) fun y hy e => by omega⟩
end Go.Proofs
