import Derived.Test.YtcnkafgimclghaaRL1
import Derived.Test.YtcnkafgimclghaaIns
/- Packets of version six: their bytes. -/
namespace Go.Proofs
open Gp Gp.V4
set_option maxRecDepth 100000
set_option maxHeartbeats 1000000

theorem SlB_row {w : World} {b o : Nat} {L A C : List Value} {l : List UInt8} (hr : Row w b L) (hL : L = A ++ (bytesV l ++ C)) (ho : A.length = o) {n : Nat} (hn : n = l.length) : SlB w ⟨some ⟨b, o, none⟩, n, n⟩ l := by
  subst hn
  refine ⟨rfl, ⟨by rw [bytesV_len], fun j hj => ?_⟩, Nat.le_refl _⟩
  rw [add_mk, hr.cell, hL, ← ho, List.getElem?_append_right (by omega), Nat.add_sub_cancel_left, List.getElem?_append_left hj]

theorem grow_ok {n : Nat} (hn : n ≤ 2 ^ 46) (w : World) : c_slices_Grow_byte_byte ⟨none, 0, 0⟩ (n : Int) w fun r w' => Buf w' r (bytesV []) ∧ Ext w w' ∧ ∀ b, SliceV.at r b → w.heap.size ≤ b := by
  apply ok_slices_Grow_byte_byte
  unfold s_slices_Grow_byte_byte
  rw [decide_eq_false (by omega), cond_false]
  have e0 : IntKind.i64.wrap (((0 : Nat) : Int) - ((0 : Nat) : Int)) = 0 := rfl
  simp -zeta only [e0]
  rw [show ((n : Int) - 0) = (n : Int) by omega, wrap_i64 (by omega) (by omega)]
  intro J
  by_cases hz : (n : Int) > 0
  · rw [decide_eq_true hz, cond_true]
    refine ⟨by omega, by omega, by simp, ?_⟩
    show AppMk 5 1 1 [.int .u8 0] (⟨none, 0, 0⟩ : SliceV) (n : Int) w _
    refine AppMk_grow (old := []) (by show 0 < 0 + n; omega) (by show (0 + n) * 1 ≤ _; omega) (by show 0 + n ≤ _; omega) rfl fun c w1 hc r1 f1 z1 => ?_
    have hc : 0 + n ≤ c := hc
    refine ⟨by omega, by omega, by simp, ?_⟩
    have hsub : subA (some (⟨w.heap.size, 0, none⟩ : Addr)) c (0 : Int).toNat 1 = some ⟨w.heap.size, 0, none⟩ := by
      unfold subA
      split <;> simp [Addr.add]
    show J ⟨subA (some (⟨w.heap.size, 0, none⟩ : Addr)) c (0 : Int).toNat 1, 0, c - 0⟩ w1
    rw [hsub]
    refine ⟨⟨rfl, .inr ⟨w.heap.size, repCells [.int .u8 0] n ++ repCells [.int .u8 0] (c - (0 + n)), rfl, ?_, by simpa [bytesV] using r1⟩⟩, f1, fun b ⟨o, hb⟩ => by cases hb; exact Nat.le_refl _⟩
    simp only [List.length_append, repCells_len, List.length_cons, List.length_nil, bytesV, List.map_nil]
    omega
  · rw [decide_eq_false hz, cond_false]
    exact ⟨Buf.nil, Ext.refl _, fun b ⟨o, hb⟩ => by cases hb⟩

/-- What stands in the parts. -/
def allP (ps : List (SliceV × List UInt8)) : List UInt8 := ps.flatMap (·.2)

theorem allP_le {ps : List (SliceV × List UInt8)} {n : Nat} (h : ∀ p ∈ ps, p.2.length ≤ n) : (allP ps).length ≤ ps.length * n := by
  induction ps with
  | nil => simp [allP]
  | cons p ps ih =>
    have h1 := h p (by simp)
    have h2 := ih fun q hq => h q (by simp [hq])
    unfold allP at h2 ⊢
    rw [List.flatMap_cons, List.length_append, List.length_cons, Nat.add_mul]; omega

theorem allP_take {ps : List (SliceV × List UInt8)} {i : Nat} {p : SliceV × List UInt8} (h : ps[i]? = some p) : allP (ps.take (i + 1)) = allP (ps.take i) ++ p.2 := by
  unfold allP
  rw [List.take_add_one, h, List.flatMap_append]; simp

theorem part_at {w : World} {s : SliceV} {ps : List (SliceV × List UInt8)} (hs : Parts w s ps) {i : Nat} {p : SliceV × List UInt8} (hp : ps[i]? = some p) {K : Addr → Prop} (hK : ∀ a, w.cell? a = some (.slice p.1.a p.1.len p.1.cap) → SlB w p.1 p.2 → K a) : AtIx s 1 (i : Int) K := by
  have hlt := (List.getElem?_eq_some_iff.1 hp).1
  have hl := hs.1
  obtain ⟨b, o, ha, hc, hb⟩ := hs.2 i p hp
  refine ⟨_, ha, by omega, by omega, ?_⟩
  rw [Int.toNat_natCast, Nat.mul_one, add_mk]
  exact hK _ hc hb

theorem concat_ok {w : World} {s : SliceV} {ps : List (SliceV × List UInt8)} (hs : Parts w s ps) (hn : ps.length ≤ 8) (hl : ∀ p ∈ ps, p.2.length ≤ 2 ^ 40) :
    c_slices_Concat_byte_byte s w fun r w' => Buf w' r (bytesV (allP ps)) ∧ Ext w w' ∧ ∀ b, SliceV.at r b → w.heap.size ≤ b := by
  apply ok_slices_Concat_byte_byte
  unfold s_slices_Concat_byte_byte
  have hsl := hs.1
  have bnd : ∀ i, (allP (ps.take i)).length ≤ 2 ^ 43 := fun i => by
    have h1 := allP_le (ps := ps.take i) (n := 2 ^ 40) fun p hp => hl p (List.mem_of_mem_take hp)
    have h2 : (ps.take i).length ≤ 8 := by simp; omega
    have h3 : (ps.take i).length * 2 ^ 40 ≤ 8 * 2 ^ 40 := Nat.mul_le_mul_right _ h2
    omega
  refine LoopP_inv (fun st W => W = w ∧ ∃ i : Nat, i ≤ ps.length ∧ st.2.1 = (i : Int) ∧ st.1 = ((allP (ps.take i)).length : Int)) (fun st _ => ps.length - st.2.1.toNat) ⟨rfl, 0, by omega, rfl, by simp [allP]⟩ ?_
  rintro ⟨t, x, ⟨⟩⟩ W ⟨rfl, i, hi, hx, ht⟩ next hnext
  simp only at hx ht
  subst hx ht
  by_cases hlt : (i : Int) < (s.len : Int)
  · rw [decide_eq_true hlt, cond_true]
    have hp := List.getElem?_eq_getElem (show i < ps.length by omega)
    generalize ps[i]'(by omega) = p at hp
    refine part_at hs hp fun a hc hb => ?_
    simp only [Ld_eq, hc, LdV_some, dec_slice]
    have b1 := bnd (i + 1)
    have e1 := allP_take hp
    have hpl := hb.1
    rw [e1, List.length_append] at b1
    rw [wrap_i64 (n := ((allP (ps.take i)).length : Int) + (p.1.len : Int)) (by omega) (by omega), decide_eq_false (by omega), cond_false, wrap_i64 (by omega) (by omega)]
    exact hnext _ _ ⟨rfl, i + 1, by omega, by simp, by rw [e1, List.length_append]; simp only; omega⟩ (by simp only; omega)
  · rw [decide_eq_false hlt, cond_false]
    have b1 := bnd i
    refine cm_slices_Grow_byte_byte (grow_ok (by omega) W) ?_
    rintro r w1 ⟨g1, g2, g3⟩
    refine LoopP_inv (fun st W' => ∃ j : Nat, j ≤ ps.length ∧ st.2.1 = (j : Int) ∧ Buf W' st.1 (bytesV (allP (ps.take j))) ∧ (∀ b, SliceV.at st.1 b → W.heap.size ≤ b) ∧ Ext W W') (fun st _ => ps.length - st.2.1.toNat) ⟨0, by omega, rfl, by simpa [allP] using g1, g3, g2⟩ ?_
    rintro ⟨u, x, ⟨⟩⟩ W' ⟨j, hj, hx, hb, hnw, hxx⟩ next' hnext'
    simp only at hx hb hnw
    subst hx
    by_cases hlj : (j : Int) < (s.len : Int)
    · rw [decide_eq_true hlj, cond_true]
      have hp := List.getElem?_eq_getElem (show j < ps.length by omega)
      generalize ps[j]'(by omega) = p at hp
      refine part_at (hs.fr hxx) hp fun a hc hbp => ?_
      simp only [Ld_eq, hc, LdV_some, dec_slice]
      have b2 := bnd (j + 1)
      have e1 := allP_take hp
      rw [e1, List.length_append] at b2
      refine AppSl_bytes hb hbp (by omega) fun s' w' h1 h2 h3 _ => ?_
      rw [wrap_i64 (by omega) (by omega)]
      have z1 := hxx.size
      refine hnext' _ _ ⟨j + 1, by omega, by simp, by rw [e1]; exact h1, fun b hb' => ?_, hxx.new h2 fun y hy hb' => by have := hnw y hb'; omega⟩ (by simp only; omega)
      rcases h3 b hb' with g | g
      · exact hnw b g
      · omega
    · rw [decide_eq_false hlj, cond_false]
      rw [List.take_of_length_le (by omega)] at hb
      exact ⟨hb, hxx, hnw⟩

theorem putL_fit {l : List UInt8} {n k : Nat} (hk : 1 ≤ k ∧ k ≤ 4) (hn : n < 256 ^ k) : putL l (n : Int) (k : Int) = l ++ beN k n := by
  have : fitsP (n : Int) (k : Int) := ⟨⟨by omega, by omega⟩, by omega, by
    rw [Int.toNat_natCast]
    have : ((256 ^ k : Nat) : Int) = (256 : Int) ^ k := by simp
    omega⟩
  unfold putL
  rw [if_pos this]; rfl

theorem first_ok {q : Pk6} (h : q.fine) : orI .i64 (orI .i64 1610612736 (shlI .i64 q.tr 20)) q.fl = (q.first : Int) ∧ q.first < 4294967296 := by
  obtain ⟨⟨f1, f2, f3⟩, f4, f5⟩ := h
  have g1 := fits1 f1
  obtain ⟨a, ha⟩ : ∃ a : Nat, q.tr = (a : Int) := ⟨q.tr.toNat, by omega⟩
  obtain ⟨b, hb⟩ : ∃ b : Nat, q.fl = (b : Int) := ⟨q.fl.toNat, by omega⟩
  have hfirst : q.first = 1610612736 + a * 1048576 + b := by unfold Pk6.first; rw [ha, hb]; simp
  rw [hfirst, ha, hb]
  refine ⟨?_, by omega⟩
  rw [show (20 : Int) = ((20 : Nat) : Int) from rfl, shl_i64 (by omega) (by omega), show (1610612736 : Int) = ((1610612736 : Nat) : Int) from rfl, or_i64 (by omega) (by omega)]
  have e1 : 1610612736 ||| a * 2 ^ 20 = 1610612736 + a * 2 ^ 20 := by
    rw [show (1610612736 : Nat) = 6 * 2 ^ 28 from rfl]
    exact or_add (by omega)
  rw [e1, or_i64 (by omega) (by omega)]
  have e2 : (1610612736 + a * 2 ^ 20) ||| b = 1610612736 + a * 2 ^ 20 + b := by
    rw [show (1610612736 : Nat) + a * 2 ^ 20 = (1536 + a) * 2 ^ 20 by omega]
    exact or_add (by omega)
  rw [e2]

theorem u8_wrap {n : Int} (h : fitsP n 1) : IntKind.u8.wrap n = ((UInt8.ofNat n.toNat).toNat : Int) := by
  have := fits1 h
  rw [IntKind.wrap_u8]; simp; omega

theorem build6_ok {w : World} {q : Pk6} {t0 t1 t2 t3 p0 p1 p2 p3 p4 p5 p6 p7 p8 p9 p10 p11 p12 p13 p14 p15 p16 p17 p18 p19 p20 p21 p22 p23 p24 p25 p26 p27 p28 p29 p30 p31 : Int} {s : SliceV} (h : Pk6L w q t0 t1 t2 t3 [p0, p1, p2, p3, p4, p5, p6, p7, p8, p9, p10, p11, p12, p13, p14, p15] [p16, p17, p18, p19, p20, p21, p22, p23, p24, p25, p26, p27, p28, p29, p30, p31] s) (hl : q.data.length ≤ 2 ^ 40) :
    c_v6_Build t0 t1 t2 t3 p0 p1 p2 p3 p4 p5 p6 p7 p8 p9 p10 p11 p12 p13 p14 p15 p16 p17 p18 p19 p20 p21 p22 p23 p24 p25 p26 p27 p28 p29 p30 p31 s w fun r e w' => e = q.check ∧ (e = 0 → SlB w' r q.bytes) ∧ Ext w w' := by
  obtain ⟨⟨rfl, rfl, rfl, rfl⟩, hsrc, hdst, hdata⟩ := h
  apply ok_v6_Build
  unfold s_v6_Build
  refine Al_e fun a w1 r1 e1 z1 f1 => ?_
  simp only [Ld_eq, List.getElem?_cons_zero, List.getElem?_cons_succ, LdV_some, dec_slice, dec_int, add_mk, Nat.zero_add, Nat.add_zero, r1.cell]
  refine cm_v6_Check (check6_ok q hdata.1 w1) ?_
  rintro _ w2 ⟨rfl, f2⟩
  by_cases hc : q.check = 0
  · rw [hc]
    obtain ⟨hf, hdl⟩ := check6_zero hc
    obtain ⟨o1, o2⟩ := first_ok hf
    obtain ⟨⟨g1, g2, g3⟩, _⟩ := id hf
    have hlen := hdata.1
    simp only [show ((0 : Int) != 0) = false from rfl, cond_false, List.getElem?_cons_zero, List.getElem?_cons_succ, LdV_some, dec_int, (r1.ext f2).cell, o1]
    refine ⟨by omega, ?_⟩
    refine cm_be_Put (put_ok SlB.nil (by simp) _ 4) ?_
    rintro t3 w3 ⟨b3, f3, n3⟩
    rw [show (4 : Int) = ((4 : Nat) : Int) from rfl, putL_fit (by omega) (by omega), List.nil_append] at b3
    simp only [List.getElem?_cons_zero, List.getElem?_cons_succ, LdV_some, dec_slice, ((r1.ext f2).ext f3).cell]
    refine cm_be_Put (put_ok (SlB.of_buf b3) (by rw [beN_len]; omega) _ 2) ?_
    rintro t4 w4 ⟨b4, f4, n4⟩
    rw [hlen, show (2 : Int) = ((2 : Nat) : Int) from rfl, putL_fit (by omega) (by omega)] at b4
    have x4 := (f2.trans f3).trans f4
    simp only [List.getElem?_cons_zero, List.getElem?_cons_succ, LdV_some, dec_int, (r1.ext x4).cell]
    refine Al_e fun c w5 r5 e5 z5 f5 => ?_
    have r5' : Row w5 c (bytesV [UInt8.ofNat q.nx.toNat, UInt8.ofNat q.hp.toNat]) := by
      rw [u8_wrap g2, u8_wrap g3] at r5; exact r5
    have hx5 : SlB w5 ⟨some ⟨c, 0, none⟩, 2, 2⟩ [UInt8.ofNat q.nx.toNat, UInt8.ofNat q.hp.toNat] := .of_buf (SlB.row (l := [UInt8.ofNat q.nx.toNat, UInt8.ofNat q.hp.toNat]) r5')
    refine AppSl_bytes (b4.ext f5) hx5 (by simp [beN_len]) fun t6 w6 b6 f6 n6 _ => ?_
    have z4 := x4.size
    have z3 := (f2.trans f3).size
    have z5' := f5.size
    have x6 : Ext w1 w6 := (x4.trans f5).new f6 fun y hy hb => by have := n4 y hb; omega
    have x6d := x6.trans (Ext.drew w6)
    have r6 := r1.ext x6d
    refine SubArr16 (SubArr16 ?_)
    simp only [List.getElem?_cons_zero, List.getElem?_cons_succ, LdV_some, dec_slice, r6.cell]
    refine Al_e fun g w7 r7 e7 z7 f7 => ?_
    have x7 := x6d.trans f7
    have hsl : bytesV q.src = [.int .u8 p0, .int .u8 p1, .int .u8 p2, .int .u8 p3, .int .u8 p4, .int .u8 p5, .int .u8 p6, .int .u8 p7, .int .u8 p8, .int .u8 p9, .int .u8 p10, .int .u8 p11, .int .u8 p12, .int .u8 p13, .int .u8 p14, .int .u8 p15] := by rw [bytesV_bi, ← hsrc]; rfl
    have hdl' : bytesV q.dst = [.int .u8 p16, .int .u8 p17, .int .u8 p18, .int .u8 p19, .int .u8 p20, .int .u8 p21, .int .u8 p22, .int .u8 p23, .int .u8 p24, .int .u8 p25, .int .u8 p26, .int .u8 p27, .int .u8 p28, .int .u8 p29, .int .u8 p30, .int .u8 p31] := by rw [bytesV_bi, ← hdst]; rfl
    have ls : q.src.length = 16 := by have := congrArg List.length hsrc; simp [bi] at this; exact this.symm
    have ld : q.dst.length = 16 := by have := congrArg List.length hdst; simp [bi] at this; exact this.symm
    have r17 := r1.ext x7
    have hs7 : SlB w7 ⟨some ⟨a, 4, none⟩, 16, 16⟩ q.src := SlB_row (o := 4) r17 (A := [.int .i64 q.tr, .int .i64 q.fl, .int .i64 q.nx, .int .i64 q.hp]) (C := [.int .u8 p16, .int .u8 p17, .int .u8 p18, .int .u8 p19, .int .u8 p20, .int .u8 p21, .int .u8 p22, .int .u8 p23, .int .u8 p24, .int .u8 p25, .int .u8 p26, .int .u8 p27, .int .u8 p28, .int .u8 p29, .int .u8 p30, .int .u8 p31] ++ [.slice s.a s.len s.cap]) (by rw [hsl]; rfl) rfl ls.symm
    have hd7 : SlB w7 ⟨some ⟨a, 20, none⟩, 16, 16⟩ q.dst := SlB_row (o := 20) r17 (A := [.int .i64 q.tr, .int .i64 q.fl, .int .i64 q.nx, .int .i64 q.hp] ++ [.int .u8 p0, .int .u8 p1, .int .u8 p2, .int .u8 p3, .int .u8 p4, .int .u8 p5, .int .u8 p6, .int .u8 p7, .int .u8 p8, .int .u8 p9, .int .u8 p10, .int .u8 p11, .int .u8 p12, .int .u8 p13, .int .u8 p14, .int .u8 p15]) (C := [.slice s.a s.len s.cap]) (by rw [hdl']; rfl) (by simp) ld.symm
    have hb7 : SlB w7 t6 q.head := by
      have := SlB.of_buf ((b6.ext (Ext.drew w6)).ext f7)
      exact this
    have hda7 : SlB w7 s q.data := hdata.ext (f1.trans x7)
    have hparts : Parts w7 ⟨some ⟨g, 0, none⟩, 4, 4⟩ [(t6, q.head), (⟨some ⟨a, 4, none⟩, 16, 16⟩, q.src), (⟨some ⟨a, 20, none⟩, 16, 16⟩, q.dst), (s, q.data)] := by
      refine ⟨rfl, fun i p hp => ?_⟩
      refine ⟨g, 0, rfl, ?_⟩
      rw [Nat.zero_add, r7.cell]
      match i, hp with
      | 0, hp => cases hp; exact ⟨rfl, hb7⟩
      | 1, hp => cases hp; exact ⟨rfl, hs7⟩
      | 2, hp => cases hp; exact ⟨rfl, hd7⟩
      | 3, hp => cases hp; exact ⟨rfl, hda7⟩
      | n + 4, hp => simp at hp
    refine cm_slices_Concat_byte_byte (concat_ok hparts (by simp) fun p hp => ?_) ?_
    · have hh := head6_len q
      simp only [List.mem_cons, List.not_mem_nil, or_false] at hp
      rcases hp with rfl | rfl | rfl | rfl <;> simp only <;> omega
    · rintro r8 w8 ⟨b8, f8, _⟩
      refine ⟨by trivial, fun _ => ?_, f1.trans (x7.trans f8)⟩
      have e8 : allP [(t6, q.head), (⟨some ⟨a, 4, none⟩, 16, 16⟩, q.src), (⟨some ⟨a, 20, none⟩, 16, 16⟩, q.dst), (s, q.data)] = q.bytes := by
        unfold allP Pk6.bytes; simp
      rw [e8] at b8
      exact SlB.of_buf b8
  · have hc' : (q.check != 0) = true := by simpa using hc
    rw [hc', cond_true]
    exact ⟨rfl, fun h0 => absurd h0 hc, f1.trans f2⟩
end Go.Proofs
