import Derived.Test.YtfndjkoiappemaaGreatW12
import Derived.Test.YtfndjkoiappemaaGreatW7
section
namespace Go.Proofs.PS
open Gp Go.Proofs Go.Proofs.EN
open Gp.Bind (Bnd Slots live GoodB freeN getS In64)
open Gp.Wh (Tm)
set_option maxRecDepth 100000
set_option maxHeartbeats 1000000
variable {w w' : World} {A : SA} {c : Cf} {Z : Bnd -> Prop} {v : SV}
theorem WB (e : Int) (w : World) : qj e w fun r w' => r = (if e = 0 then 0 else if e = 10 then 8 else if e = 7 then 4 else if e = 9 then 11 else 3) ∧ w' = w := by
  apply Ns
  have b : ∀ x y : Int, (x == y) = decide (x = y) := fun _ _ => rfl
  simp only [b]
  by_cases h0 : e = 0
  · subst h0; exact ⟨by trivial, by trivial⟩
  by_cases h1 : e = 10
  · subst h1; exact ⟨by trivial, by trivial⟩
  by_cases h2 : e = 7
  · subst h2; exact ⟨by trivial, by trivial⟩
  by_cases h3 : e = 9
  · subst h3; exact ⟨by trivial, by trivial⟩
  simp only [h0, h1, h2, h3, decide_false, cond_false, if_false]
  exact ⟨by trivial, by trivial⟩
theorem Good.off {D : List Tm} {l' : WN.PL} {T : Nat} (g : Good c Z v []) (hp : ∀ id t, d_ v.l id = some t -> t.id = id) (hD : ∀ t, t ∈ D ↔ d_ v.l t.id = some t ∧ t.a <= T) (hl : ∀ id t, d_ l' id = some t ↔ d_ v.l id = some t ∧ T < t.a) (tn : Int) (F : Gp.Wh.Fs) :
    Good c Z { v with now := T, wn := T, l := l', tn := tn, F := F } (D.map Tm.id) := by
  refine ⟨g.inv, g.ns, rfl, g.li, g.ld, g.kk, g.ii, g.eb, g.ex, g.ir, fun id => ?_, fun x hx t ht => g.wt x hx t ((hl x.id t).1 ht).1⟩
  show (d_ l' id).isSome = true ↔ ∃ x ∈ v.L, x.id = id ∧ id ∉ D.map Tm.id
  constructor
  · intro h
    obtain ⟨t, ht⟩ := Option.isSome_iff_exists.1 h
    obtain ⟨h1, h2⟩ := (hl id t).1 ht
    obtain ⟨x, hx, hxi, _⟩ := (g.wl id).1 (by rw [h1]; rfl)
    refine ⟨x, hx, hxi, fun hm => ?_⟩
    obtain ⟨u, hu, hui⟩ := List.mem_map.1 hm
    obtain ⟨h3, h4⟩ := (hD u).1 hu
    rw [hui, h1] at h3
    cases h3
    omega
  · rintro ⟨x, hx, hxi, hn⟩
    have h1 := (g.wl id).2 ⟨x, hx, hxi, by simp⟩
    obtain ⟨t, ht⟩ := Option.isSome_iff_exists.1 h1
    have hid := hp id t ht
    have : T < t.a := by
      refine Nat.lt_of_not_le fun hle => hn ?_
      exact List.mem_map.2 ⟨t, (hD t).2 ⟨by rw [hid]; exact ht, hle⟩, hid⟩
    rw [(hl id t).2 ⟨ht, this⟩]; rfl
theorem Good.find {P : List Int} (g : Good c Z v P) {x : bF} (hx : x ∈ v.L) : d_ v.LD x.id = some x.blk := (g.ld _ _).2 ⟨x, hx, rfl, rfl⟩
theorem T_ {n : Nat} : ∀ {L : List bF}, (L.map (·.blk)).Nodup -> n ∈ L.map (·.blk) -> (L.filter fun y => !(y.blk == n)).length + 1 = L.length
  | [], _, h => by simp at h
  | z :: L, h, hm => by
    rw [List.map_cons, List.nodup_cons] at h
    rw [List.map_cons, List.mem_cons] at hm
    by_cases e : z.blk = n
    · have : (L.filter fun y => !(y.blk == n)) = L := by
        rw [List.filter_eq_self]
        intro y hy
        have : y.blk ≠ n := fun he => h.1 (by rw [e, <- he]; exact List.mem_map.2 ⟨y, hy, rfl⟩)
        simpa using this
      rw [List.filter_cons, if_neg (by simp [e]), this]; rfl
    · rw [List.filter_cons, if_pos (by simpa using e), List.length_cons, List.length_cons, T_ h.2 (hm.resolve_left fun he => e he.symm)]
theorem Ws {D : List Tm} {l : WN.PL} {T : Nat} (hs : D.Pairwise WN.ltT) (hD : ∀ t, t ∈ D ↔ d_ l t.id = some t ∧ t.a <= T) : (D.map Tm.id).Nodup := by
  refine List.pairwise_map.2 (hs.imp_of_mem fun {x y} hx hy hlt he => ?_)
  have h1 := ((hD x).1 hx).1
  have h2 := ((hD y).1 hy).1
  rw [he, h2] at h1
  cases h1
  unfold WN.ltT at hlt; omega
theorem UL (h : Srv w A c v) (g : Good c Z v []) (hun : ∀ x ∈ v.L, x.un <= 1099511627776) (a : Int) {T : Nat} (hT : T = max v.now (min a 1099511627776).toNat) :
    bY (some ⟨A.s, 0, none⟩) a w fun n w' => aF w w' (dP A v.L) ∧ ∃ A' v', Srv w' A' c v' ∧ Good c Z v' [] ∧ A'.s = A.s ∧ A'.a = A.a ∧ (∀ b, dP A' v'.L b -> dP A v.L b ∨ w.heap.size <= b) ∧
      v'.now = T ∧ (∀ x, x ∈ v'.L ↔ x ∈ v.L ∧ (T : Int) < x.un) ∧ v'.tn = v.tn ∧ v'.most = v.most ∧ v'.nx = v.nx ∧ n = ((v.L.length : Int) - v'.L.length) := by
  apply zC
  have hnw := h.wh.wi.nw
  have hwn := g.wn
  refine uo (zh h) ?_
  rintro r w1 ⟨rfl, hw⟩
  subst hw
  simp only [Bool.not_true, cond_false, sx, h.hd.cell]
  have e1 : (if (if (1099511627776 : Int) < a then 1099511627776 else a) > (v.now : Int) then (if (1099511627776 : Int) < a then 1099511627776 else a) else (v.now : Int)) = (T : Int) := by omega
  rw [e1]
  refine aZ h.hd rfl (by simp) fun w2 r2 f2' z2 => ?_
  have f2 : aF w1 w2 (· = A.s) := f2' _ rfl
  have h2 := (h.abE f2 r2).ext (Ext.drew w2)
  simp only [sx, h2.hd.cell]
  have hT2 : T = max v.wn (min (T : Int) 1099511627776).toNat := by omega
  refine qX (WN.Jg h2.wh (T : Int) hT2) ?_
  rintro s w3 ⟨f3, D, hDs, hD, hbuf, hnew, ss, l', F, hw3, hl', hlen, hfp, hap⟩
  have h3 := h2.setW f3 hw3 hfp
  have g3 := g.off (fun id t ht => (h.wh.wi.pl id t ht).1) hD hl' v.tn F
  have hD : ∀ t, t ∈ D ↔ d_ v.l t.id = some t ∧ t.a <= T := hD
  have hlen : l'.length + D.length = v.l.length := hlen
  have hdn := Ws hDs hD
  have hlen2 : (D.length : Int) <= 1048576 := by have := h.wh.mo; omega
  have ed : w2.drew.heap.size = w2.heap.size := rfl
  have g0 : aF w1 w3 (dP A v.L) := ((f2.mono fun b hb => ⟨0, hb⟩).ext (Ext.drew w2)).trans f3 fun b _ hb => ⟨2, hb⟩
  refine aG (fun st W => ∃ (k : Nat) (A2 : SA) (v2 : SV), k <= D.length ∧ st.2.1 = (k : Int) ∧ st.1 = (k : Int) ∧ Srv W A2 c v2 ∧ Good c Z v2 ((D.drop k).map Tm.id) ∧ A2.s = A.s ∧ A2.a = A.a ∧ v2.now = T ∧ v2.tn = v.tn ∧ v2.most = v.most ∧ v2.nx = v.nx ∧
      (∀ x, x ∈ v2.L ↔ x ∈ v.L ∧ x.id ∉ (D.take k).map Tm.id) ∧ v2.L.length + k = v.L.length ∧ dn 1 WN.eI W s (D.map Tm.id) ∧ aF w1 W (dP A v.L) ∧ (∀ b, dP A2 v2.L b -> (dP A v.L b ∨ w1.heap.size <= b) ∧ ¬ ah.at s b))
    (fun st _ => D.length - st.2.1.toNat) ⟨0, { A with ss := ss }, _, by omega, rfl, rfl, h3, g3, rfl, rfl, rfl, rfl, rfl, rfl, by simp, rfl, hbuf, g0, ?_⟩ ?_
  · rintro b ⟨k, hk⟩
    by_cases hk2 : k = 2
    · subst hk2
      refine ⟨?_, fun hs => hap b hs hk⟩
      rcases hfp b hk with hb | hb
      · exact .inl ⟨2, hb⟩
      · exact .inr (by omega)
    · have hko : own A v.L k b := by
        match k, hk with
        | 0, ho => exact ho
        | 1, ho => exact ho
        | 2, _ => exact absurd rfl hk2
        | 3, ho => exact ho
        | 4, ho => exact ho
        | 5, ho => exact ho
        | (n + 6), ho => exact ho
      exact ⟨.inl ⟨k, hko⟩, fun hs => by have := hnew b hs; have := h.lt k b hko; omega⟩
  rintro ⟨gn, ix, ⟨⟩⟩ W ⟨k, A2, v2, hk, hix, hgn, hS, hG, hs2, ha2, hn2, ht2, hm2, hx2, hL2, hc2, hb2, hf2, ho2⟩ next hnext
  simp only at hix hgn
  subst hix hgn
  have hslen : s.len = D.length := by rw [hb2.sl WN.fJ (by omega) |>.len, List.length_map]
  by_cases hlt : k < D.length
  · have hlt' : ((k : Int) < (s.len : Int)) := by omega
    simp only [hlt', decide_true, cond_true]
    have hdk : (D.drop k).map Tm.id = D[k].id :: (D.drop (k + 1)).map Tm.id := by rw [List.drop_eq_getElem_cons hlt, List.map_cons]
    obtain ⟨hlk, hla⟩ := (hD D[k]).1 (List.getElem_mem hlt)
    obtain ⟨x, hx, hxi, _⟩ := (g.wl D[k].id).1 (by rw [hlk]; rfl)
    have hxn : x.id ∉ (D.take k).map Tm.id := by
      rw [hxi]
      intro hm
      have := hdn
      rw [<- List.take_append_drop k D, List.map_append, hdk, List.nodup_append] at this
      exact this.2.2 _ hm _ List.mem_cons_self rfl
    have hx2' : x ∈ v2.L := (hL2 x).2 ⟨hx, hxn⟩
    refine SN.PX (hb2.sl WN.fJ (by omega)) (z := x.id) (by rw [List.getElem?_map, List.getElem?_eq_getElem hlt, Option.map_some, hxi]) fun ad hcell => ?_
    simp only [VR, hcell, au, aC, <- hs2, sx, hS.hd.cell]
    have hfd := hG.find hx2'
    refine zu (k := .ptr) (enc := wJ) (ev := U6) hS.ld eqN x.id (UU _) (fun hc => by rw [hfd] at hc; cases hc) (fun b hb => ?_)
    rw [hfd] at hb
    cases hb
    have hSd := hS.ext (Ext.drew W)
    have rx := hSd.rw x hx2'
    simp only [bF.v] at rx
    simp only [U6, sx, rx.cell, hSd.hd.cell]
    have hle : ¬ (x.un > ((v2.now : Nat) : Int)) := by
      have h5 := g.wt x hx D[k] (by rw [hxi]; exact hlk)
      have := hun x hx
      rw [hn2]; omega
    simp only [hle, decide_false, cond_false]
    obtain ⟨hst, i, hi⟩ := hG.eb x hx2'
    refine uY (VA hSd hG.inv hG.ns hx2' hi hst) ?_
    rintro W2 ⟨fd, ss', F', Mi, Mo, Q, G, hfp', hinv', hS'⟩
    have hG' := hG.drop hSd hx2' hi (P' := (D.drop (k + 1)).map Tm.id) (fun id hid => by rw [hdk, List.mem_cons]; exact ⟨.inr, fun h => h.resolve_left (by rw [<- hxi]; exact hid)⟩) F' hinv'
    rw [wrap_i64 (by omega) (by omega)]
    have htk : (D.take (k + 1)).map Tm.id = (D.take k).map Tm.id ++ [x.id] := by
      rw [List.take_succ_eq_append_getElem hlt, List.map_append, hxi]; rfl
    have hWs : w1.heap.size <= W.heap.size := hf2.size
    have hWd : W.drew.heap.size = W.heap.size := rfl
    refine hnext _ _ ⟨k + 1, { A2 with ss := ss' }, _, by omega, by simp, by simp, hS', hG', hs2, ha2, hn2, ht2, hm2, hx2, fun y => ?_, ?_, ?_, ?_, ?_⟩ (by simp only; omega)
    · show y ∈ (v2.L.filter fun y => !(y.blk == x.blk)) ↔ _
      rw [htk, List.mem_append, List.mem_singleton, List.mem_filter, hL2]
      constructor
      · rintro ⟨⟨h1, h2⟩, h3⟩
        refine ⟨h1, fun hc => hc.elim h2 fun he => ?_⟩
        have := g.ii y h1 x hx he
        subst this
        simp at h3
      · rintro ⟨h1, h2⟩
        refine ⟨⟨h1, fun hc => h2 (.inl hc)⟩, ?_⟩
        have : y.blk ≠ x.blk := fun he => h2 (.inr (by rw [Ku hS.bn hx2' ((hL2 y).2 ⟨h1, fun hc => h2 (.inl hc)⟩) he]))
        simpa using this
    · have := T_ hS.bn (List.mem_map.2 ⟨x, hx2', rfl⟩)
      show (v2.L.filter fun y => !(y.blk == x.blk)).length + (k + 1) = _
      omega
    · exact (hb2.ext (Ext.drew W)).fr fd fun b hb ho => (ho2 b ho).2 hb
    · refine (hf2.ext (Ext.drew W)).trans fd fun b hb ho => ?_
      rcases (ho2 b ho).1 with h1 | h1
      · exact h1
      · omega
    · rintro b ⟨j, hj⟩
      by_cases hj2 : j = 2
      · subst hj2
        rcases hfp' b hj with hb | hb
        · exact ho2 b ⟨2, hb⟩
        · exact ⟨.inr (by omega), fun hs => by have := hb2.lt hs; omega⟩
      · refine ho2 b ⟨j, ?_⟩
        match j, hj with
        | 0, ho => exact ho
        | 1, ho => exact ho
        | 2, _ => exact absurd rfl hj2
        | 3, ho => exact ho
        | 4, ho => exact ho
        | 5, ⟨y, hy, e⟩ => exact ⟨y, (List.mem_filter.1 hy).1, e⟩
        | (n + 6), ho => exact ho
  · have hk3 : k = D.length := by omega
    subst hk3
    have hlt' : ¬ (((D.length : Nat) : Int) < (s.len : Int)) := by omega
    simp only [hlt', decide_false, cond_false]
    rw [List.drop_length, List.map_nil] at hG
    refine ⟨hf2, A2, v2, hS, hG, hs2, ha2, fun b hb => (ho2 b hb).1, hn2, fun x => ?_, ht2, hm2, hx2, by omega⟩
    rw [hL2, List.take_length]
    have key : x ∈ v.L -> ∃ t, d_ v.l x.id = some t ∧ t.id = x.id ∧ (t.a : Int) = x.un := by
      intro hx
      have h1 := (g.wl x.id).2 ⟨x, hx, rfl, by simp⟩
      obtain ⟨t, ht⟩ := Option.isSome_iff_exists.1 h1
      have h2 := g.wt x hx t ht
      have h3 := hun x hx
      exact ⟨t, ht, (h.wh.wi.pl _ _ ht).1, by omega⟩
    constructor
    · rintro ⟨hx, hn⟩
      obtain ⟨t, ht, hid, hta⟩ := key hx
      refine ⟨hx, ?_⟩
      have : ¬ t.a <= T := fun hle => hn (List.mem_map.2 ⟨t, (hD t).2 ⟨by rw [hid]; exact ht, hle⟩, hid⟩)
      omega
    · rintro ⟨hx, hlt⟩
      obtain ⟨t, ht, hid, hta⟩ := key hx
      refine ⟨hx, fun hm => ?_⟩
      obtain ⟨u, hu, hui⟩ := List.mem_map.1 hm
      obtain ⟨h3, h4⟩ := (hD u).1 hu
      rw [hui, ht] at h3
      cases h3
      omega
end Go.Proofs.PS
end
section
namespace Go.Proofs.PS
open Gp Go.Proofs Go.Proofs.EN
open Gp.Bind (Bnd Slots live GoodB freeN getS In64)
open Gp.Wh (Tm)
set_option maxRecDepth 100000
set_option maxHeartbeats 1000000
variable {w w' : World} {a : EA} {c : Cf} {e : ES} {Z : Bnd -> Prop}
theorem Zo (h : qA w a c e) : jJ (some ⟨a.x, 0, none⟩) w fun n w' => n = (e.now : Int) ∧ w' = w := by
  apply Fb
  refine jD (Dk h) ?_
  rintro r w1 ⟨rfl, hw⟩
  subst hw
  simp only [Bool.not_true, cond_false, sx, h.c41]
  exact ⟨by trivial, by trivial⟩
theorem LP (h : qA w a c e) (hi : Inv c e) (hs : Zl e) (hn : e.now <= 2 ^ 40) {n : Int} (h1 : 1 <= n) (h2 : n <= 4096) (hz : ∀ (j : Nat) (b : Bnd), e.S[j]? = some (some b) -> Z b) :
    qC (some ⟨a.x, 0, none⟩) n w fun p r w' => r = 0 ∧ Ext w w' ∧ ∃ A v, p = some ⟨A.s, 0, none⟩ ∧ A.a = a ∧ Srv w' A c v ∧ Good c Z v [] ∧ v.L = [] ∧ v.now = e.now ∧ v.nx = 0 ∧ v.most = n ∧ v.e = e ∧ v.tn = 0 ∧ ∀ b, dP A v.L b -> DW a b ∨ w.heap.size <= b := by
  apply Sz
  intro J3
  have c1 : ¬ (n < 1) := by omega
  have c2 : ¬ (n > 4096) := by omega
  simp -zeta only [Option.isNone_some, cond_false, c1, c2, decide_false]
  simp only [J3, cond_false]
  refine Hg (WN.VB n ⟨by omega, by omega⟩ w) ?_
  rintro p r w1 ⟨f1, rfl, d, m, ss, rfl, hw1, hnw⟩
  have f1 : Ext w w1 := f1
  have hE1 := h.ext f1
  simp only [show ((0 : Int) != 0) = false from rfl, cond_false]
  refine Fv (Zo hE1) ?_
  rintro n2 w2 ⟨rfl, hw⟩
  subst hw
  refine aN fun s w3 r3 e3 z3 f3 => ?_
  refine SN.Af (enc := encI) (ev := U6) fun w4 m4 z4 f4 => ?_
  refine SN.Af (enc := wJ) (ev := U6) fun w5 m5 z5 f5 => ?_
  simp only [sx]
  refine aZ ((r3.ext f4).ext f5) rfl (by simp) fun w6 r6 f6' z6 => ?_
  have f6 : aF w5 w6 (· = s) := f6' _ rfl
  refine aZ r6 rfl (by simp) fun w7 r7 f7' z7 => ?_
  have f7 : aF w6 w7 (· = s) := f7' _ rfl
  have f67 : aF w5 w7 (· = s) := f6.trans f7 fun b _ hb => hb
  simp only [sx, r7.cell, List.set]
  have x5 := (f3.trans f4).trans f5
  have hd2 : d < w2.heap.size := hw1.wm.lt (.inl rfl)
  have hw7 := (hw1.ext x5).fr f67 fun b hb he => by have := hw1.wm.lt hb; omega
  refine qX (WN.Jg hw7 (e.now : Int) (T := e.now) (by omega)) ?_
  rintro rr w8 ⟨f8, D, hDs, hD, hbuf, hnew, ss', l', F', hw8, hl', hlen, hfp, hap⟩
  have hlen : l'.length + D.length = 0 := hlen
  obtain rfl : l' = [] := List.length_eq_zero_iff.1 (by omega)
  have s1 := f1.size
  have g5 : Ext w w5 := f1.trans x5
  have g7 : Ext w w7 := g5.new f67 fun b hb he => by omega
  have g8 : Ext w w8 := g7.new f8 fun b hb hf => by have := hnw b hf; omega
  have nf : ∀ b, w2.heap.size <= b -> ¬ WN.jl d m ss b := fun b hb hf => by have := hw1.wm.lt hf; omega
  have s8 := f8.size
  have key : ∀ k b, own { s := s, a := a, d := d, m := m, ss := ss', ml := w3.heap.size, mi := w4.heap.size } [] k b -> (k = 0 ∧ b = s) ∨ (k = 1 ∧ b < w.heap.size ∧ DW a b) ∨ (k = 2 ∧ ((w.heap.size <= b ∧ b < w2.heap.size) ∨ w7.heap.size <= b) ∧ b < w8.heap.size) ∨ (k = 3 ∧ b = w3.heap.size) ∨ (k = 4 ∧ b = w4.heap.size) := by
    intro k b ho
    match k, ho with
    | 0, ho => exact .inl ⟨rfl, ho⟩
    | 1, ⟨j, hj⟩ => exact .inr (.inl ⟨rfl, h.lt j b hj, j, hj⟩)
    | 2, ho =>
      refine .inr (.inr (.inl ⟨rfl, ?_, hw8.wm.lt ho⟩))
      rcases hfp b ho with hb | hb
      · exact .inl ⟨hnw b hb, hw1.wm.lt hb⟩
      · exact .inr hb
    | 3, ho => exact .inr (.inr (.inr (.inl ⟨rfl, ho⟩)))
    | 4, ho => exact .inr (.inr (.inr (.inr ⟨rfl, ho⟩)))
    | 5, ⟨x, hx, _⟩ => cases hx
    | (n + 6), ho => exact ho.elim
  refine ⟨by trivial, g8, { s := s, a := a, d := d, m := m, ss := ss', ml := w3.heap.size, mi := w4.heap.size }, { e := e, now := e.now, wn := e.now, nx := 0, most := n, L := [], LI := [], LD := [], l := [], tn := 0, F := F' }, rfl, rfl, ⟨?_, h.ext g8, hw8, ?_, ?_, List.nodup_nil, List.nodup_nil, (fun x hx => by cases hx), ?_, ?_, List.nodup_nil⟩, ?_, rfl, rfl, rfl, rfl, rfl, rfl, ?_⟩
  · exact r7.fr f8 (nf _ (by omega))
  · exact ((m4.ext f5).fr f67 (by omega)).fr f8 (nf _ (by omega))
  · exact (m5.fr f67 (by omega)).fr f8 (nf _ (by omega))
  · intro k k' b q1 q2
    have k1 := key k b q1
    have k2 := key k' b q2
    omega
  · intro k b q1
    have k1 := key k b q1
    omega
  · exact ⟨hi, hs, rfl, (fun k n => by simp [d_]), (fun i n => by simp [d_]), (fun x hx => by cases hx), (fun x hx => by cases hx), (fun x hx => by cases hx), (fun j b hj => .inr (hz j b hj)), (fun x hx => by cases hx), (fun id => by simp [d_]), (fun x hx => by cases hx)⟩
  · rintro b ⟨k, q⟩
    have k1 := key k b q
    rcases k1 with ⟨_, k1⟩ | ⟨_, _, k1⟩ | ⟨_, k1, _⟩ | ⟨_, k1⟩ | ⟨_, k1⟩
    · exact .inr (by omega)
    · exact .inl k1
    · exact .inr (by omega)
    · exact .inr (by omega)
    · exact .inr (by omega)
end Go.Proofs.PS
end
section
namespace Go.Proofs.PS
open Gp Go.Proofs Go.Proofs.EN
open Gp.Bind (Bnd Slots live GoodB freeN getS In64)
open Gp.Wh (Tm)
set_option maxRecDepth 100000
set_option maxHeartbeats 1000000
variable {c : Cf} {Z : Bnd -> Prop} {v : SV}
theorem Good.add (g : Good c Z v []) {x : bF} (hk : ∀ y ∈ v.L, y.k ≠ x.k) (hid : ∀ y ∈ v.L, y.id ≠ x.id) (hst : x.b.st = true) (hir : 0 <= x.id ∧ x.id < 8192) {i : Nat} (hf : freeN v.e.S = some i)
    {Mi Mo : ByteArray -> Option Int} {Q : List Int} {G : List (PN.O3 × Unit)} (hi : Inv c { v.e with S := v.e.S.set i (some x.b), Mi := Mi, Mo := Mo, Q := Q, G := G }) :
    Good c Z { v with e := { v.e with S := v.e.S.set i (some x.b), Mi := Mi, Mo := Mo, Q := Q, G := G }, L := x :: v.L, LI := BG v.LI x.k x.blk, LD := BG v.LD x.id x.blk } [x.id] := by
  obtain ⟨hil, hin, _⟩ := Gp.Bind.qE 0 hf
  have hset : ∀ j, (v.e.S.set i (some x.b))[j]? = if j = i then some (some x.b) else v.e.S[j]? := by
    intro j
    rw [List.getElem?_set]
    by_cases h : i = j
    · subst h; simp [hil]
    · have : ¬ j = i := fun e => h e.symm
      simp [h, this]
  refine ⟨hi, g.ns, g.wn, fun k n => ?_, fun j n => ?_, ?_, ?_, ?_, fun j b hj => ?_, ?_, fun id => ?_, fun y hy t ht => ?_⟩
  · show d_ (BG v.LI x.k x.blk) k = some n ↔ ∃ y ∈ x :: v.L, y.k = k ∧ y.blk = n
    rw [Ai]
    split
    · rename_i h
      subst h
      constructor
      · intro h; cases h; exact ⟨x, List.mem_cons_self, rfl, rfl⟩
      · rintro ⟨y, hy, h1, h2⟩
        rcases List.mem_cons.1 hy with rfl | hy
        · rw [h2]
        · exact absurd h1 (hk y hy)
    · rename_i h
      rw [g.li]
      constructor
      · rintro ⟨y, hy, h1⟩; exact ⟨y, List.mem_cons_of_mem _ hy, h1⟩
      · rintro ⟨y, hy, h1, h2⟩
        rcases List.mem_cons.1 hy with rfl | hy
        · exact absurd h1.symm h
        · exact ⟨y, hy, h1, h2⟩
  · show d_ (BG v.LD x.id x.blk) j = some n ↔ ∃ y ∈ x :: v.L, y.id = j ∧ y.blk = n
    rw [Ai]
    split
    · rename_i h
      subst h
      constructor
      · intro h; cases h; exact ⟨x, List.mem_cons_self, rfl, rfl⟩
      · rintro ⟨y, hy, h1, h2⟩
        rcases List.mem_cons.1 hy with rfl | hy
        · rw [h2]
        · exact absurd h1 (hid y hy)
    · rename_i h
      rw [g.ld]
      constructor
      · rintro ⟨y, hy, h1⟩; exact ⟨y, List.mem_cons_of_mem _ hy, h1⟩
      · rintro ⟨y, hy, h1, h2⟩
        rcases List.mem_cons.1 hy with rfl | hy
        · exact absurd h1.symm h
        · exact ⟨y, hy, h1, h2⟩
  · intro y hy z hz e
    rcases List.mem_cons.1 hy with h1 | h1 <;> rcases List.mem_cons.1 hz with h2 | h2
    · rw [h1, h2]
    · exact absurd (by rw [<- e, h1]) (hk z h2)
    · exact absurd (by rw [e, h2]) (hk y h1)
    · exact g.kk y h1 z h2 e
  · intro y hy z hz e
    rcases List.mem_cons.1 hy with h1 | h1 <;> rcases List.mem_cons.1 hz with h2 | h2
    · rw [h1, h2]
    · exact absurd (by rw [<- e, h1]) (hid z h2)
    · exact absurd (by rw [e, h2]) (hid y h1)
    · exact g.ii y h1 z h2 e
  · intro y hy
    rcases List.mem_cons.1 hy with rfl | hy
    · exact ⟨hst, i, (hset i).trans (if_pos rfl)⟩
    · obtain ⟨h1, j, hj⟩ := g.eb y hy
      refine ⟨h1, j, (hset j).trans ?_⟩
      rw [if_neg (fun e => by rw [e, hin] at hj; cases hj)]
      exact hj
  · have hj2 := (hset j).symm.trans hj
    clear hj
    split at hj2
    · have : x.b = b := by simpa using hj2
      exact .inl ⟨x, List.mem_cons_self, this⟩
    · rcases g.ex j b hj2 with ⟨y, hy, h⟩ | h
      · exact .inl ⟨y, List.mem_cons_of_mem _ hy, h⟩
      · exact .inr h
  · intro y hy
    rcases List.mem_cons.1 hy with rfl | hy
    · exact hir
    · exact g.ir y hy
  · show (d_ v.l id).isSome = true ↔ ∃ y ∈ x :: v.L, y.id = id ∧ id ∉ [x.id]
    rw [g.wl]
    constructor
    · rintro ⟨y, hy, h1, _⟩
      exact ⟨y, List.mem_cons_of_mem _ hy, h1, by rw [List.mem_singleton, <- h1]; exact hid y hy⟩
    · rintro ⟨y, hy, h1, h2⟩
      rcases List.mem_cons.1 hy with rfl | hy
      · exact absurd (List.mem_singleton.2 h1.symm) h2
      · exact ⟨y, hy, h1, by simp⟩
  · have ht : d_ v.l y.id = some t := ht
    rcases List.mem_cons.1 hy with rfl | hy
    · obtain ⟨z, hz, h1, _⟩ := (g.wl y.id).1 (by rw [ht]; rfl)
      exact absurd h1 (hid z hz)
    · exact g.wt y hy t ht
end Go.Proofs.PS
end
section
namespace Go.Proofs.PS
open Gp Go.Proofs Go.Proofs.EN
open Gp.Bind (Bnd Slots live GoodB freeN getS In64)
open Gp.Wh (Tm)
set_option maxRecDepth 100000
set_option maxHeartbeats 1000000
variable {w : World} {A : SA} {c : Cf} {Z : Bnd -> Prop} {v : SV}
theorem ng {n : Nat} {un : Int} {L : List bF} {y : bF} : y ∈ yX n un L ↔ ∃ z ∈ L, y = if z.blk = n then { z with un := un } else z := by
  unfold yX
  rw [List.mem_map]
  exact ⟨fun ⟨z, h1, h2⟩ => ⟨z, h1, h2.symm⟩, fun ⟨z, h1, h2⟩ => ⟨z, h1, h2.symm⟩⟩
theorem JY {n : Nat} {un : Int} {L : List bF} {p : bF -> Prop} (hp : ∀ z : bF, p { z with un := un } ↔ p z) : (∃ y ∈ yX n un L, p y) ↔ ∃ y ∈ L, p y := by
  constructor
  · rintro ⟨y, hy, h⟩
    obtain ⟨z, hz, rfl⟩ := ng.1 hy
    refine ⟨z, hz, ?_⟩
    split at h
    · exact (hp z).1 h
    · exact h
  · rintro ⟨z, hz, h⟩
    refine ⟨_, ng.2 ⟨z, hz, rfl⟩, ?_⟩
    split
    · exact (hp z).2 h
    · exact h
theorem Good.arm {P : List Int} {x : bF} (g : Good c Z v P) (hm : Srv w A c v) (hx : x ∈ v.L) (hP : ∀ id, id ∈ P -> id = x.id) {un : Int} (hun : (v.now : Int) <= un) (hn : v.now <= 2 ^ 40) (tn : Int) (F : Gp.Wh.Fs) :
    Good c Z { v with L := yX x.blk un v.L, l := BG v.l x.id ⟨x.id, max (min un 1099511627776).toNat v.wn, tn⟩, tn := tn, F := F } [] := by
  have hwn := g.wn
  refine ⟨g.inv, g.ns, g.wn, fun k n => ?_, fun j n => ?_, ?_, ?_, ?_, fun j b hj => ?_, ?_, fun id => ?_, fun y hy t ht => ?_⟩
  · exact (g.li k n).trans (JY (p := fun y => y.k = k ∧ y.blk = n) fun z => Iff.rfl).symm
  · exact (g.ld j n).trans (JY (p := fun y => y.id = j ∧ y.blk = n) fun z => Iff.rfl).symm
  · intro y hy z hz e
    obtain ⟨y0, hy0, rfl⟩ := ng.1 hy
    obtain ⟨z0, hz0, rfl⟩ := ng.1 hz
    have e0 : y0.k = z0.k := by
      have h1 : ∀ u : bF, (if u.blk = x.blk then { u with un := un } else u : bF).k = u.k := fun u => by split <;> rfl
      rw [<- h1 y0, <- h1 z0]; exact e
    rw [g.kk y0 hy0 z0 hz0 e0]
  · intro y hy z hz e
    obtain ⟨y0, hy0, rfl⟩ := ng.1 hy
    obtain ⟨z0, hz0, rfl⟩ := ng.1 hz
    have e0 : y0.id = z0.id := by
      have h1 : ∀ u : bF, (if u.blk = x.blk then { u with un := un } else u : bF).id = u.id := fun u => by split <;> rfl
      rw [<- h1 y0, <- h1 z0]; exact e
    rw [g.ii y0 hy0 z0 hz0 e0]
  · intro y hy
    obtain ⟨y0, hy0, rfl⟩ := ng.1 hy
    have h1 : (if y0.blk = x.blk then { y0 with un := un } else y0 : bF).b = y0.b := by split <;> rfl
    rw [h1]; exact g.eb y0 hy0
  · rcases g.ex j b hj with h | h
    · exact .inl ((JY (p := fun y => y.b = b) fun z => Iff.rfl).2 h)
    · exact .inr h
  · intro y hy
    obtain ⟨y0, hy0, rfl⟩ := ng.1 hy
    have h1 : (if y0.blk = x.blk then { y0 with un := un } else y0 : bF).id = y0.id := by split <;> rfl
    rw [h1]; exact g.ir y0 hy0
  · show (d_ (BG v.l x.id _) id).isSome = true ↔ ∃ y ∈ yX x.blk un v.L, y.id = id ∧ id ∉ []
    rw [JY (p := fun y => y.id = id ∧ id ∉ []) fun z => Iff.rfl, Ai]
    split
    · rename_i h
      exact ⟨fun _ => ⟨x, hx, h.symm, by simp⟩, fun _ => rfl⟩
    · rename_i h
      rw [g.wl]
      exact ⟨fun ⟨y, hy, h1, _⟩ => ⟨y, hy, h1, by simp⟩, fun ⟨y, hy, h1, _⟩ => ⟨y, hy, h1, fun hp => h (hP id hp)⟩⟩
  · obtain ⟨y0, hy0, rfl⟩ := ng.1 hy
    have ht2 : d_ (BG v.l x.id ⟨x.id, max (min un 1099511627776).toNat v.wn, tn⟩) (if y0.blk = x.blk then { y0 with un := un } else y0 : bF).id = some t := ht
    clear ht
    rw [Ai] at ht2
    by_cases hb : y0.blk = x.blk
    · obtain rfl := Ku hm.bn hx hy0 hb
      simp only [if_true] at ht2 ⊢
      cases ht2
      simp only
      omega
    · simp only [hb, if_false] at ht2 ⊢
      have hne : y0.id ≠ x.id := fun e => hb (by rw [g.ii y0 hy0 x hx e])
      rw [if_neg hne] at ht2
      exact g.wt y0 hy0 t ht2
end Go.Proofs.PS
end
section
namespace Go.Proofs.PM
open Gp Gp.V4 Go.Proofs
open Gp.Bind (In64)
set_option maxRecDepth 100000
set_option maxHeartbeats 1000000
def mapped (a : Int) : List UInt8 := List.replicate 10 0 ++ ([255, 255] ++ o9 4 (a % 4294967296).toNat)
theorem wz (a : Int) : (mapped a).length = 16 := by simp [mapped, gW]
theorem OX {w : World} {K : Int -> Int -> Int -> Int -> Int -> Int -> Int -> Int -> Int -> Int -> Int -> Int -> Int -> Int -> Int -> Int -> World -> Prop} (h : ∀ w', Ext w w' -> K 0 0 0 0 0 0 0 0 0 0 255 255 0 0 0 0 w') : vH w K := by
  apply Oo
  refine aN fun a w1 r1 e1 z1 f1 => ?_
  refine aQ r1 rfl rfl fun w2 r2 f2 z2 => ?_
  simp only [sx, r2.cell]
  exact h _ (f1.new (f2 (· = a) rfl) fun y hy e => by omega)
theorem Bl {w : World} {b o : Nat} {L A C : List Value} {m : List UInt8} {K : Int -> Int -> Int -> Int -> Int -> Int -> Int -> Int -> Int -> Int -> Int -> Int -> Int -> Int -> Int -> Int -> Prop} (hr : Row w b L) (hL : L = A ++ (bytesV m ++ C)) (ho : A.length = o) (hm : m.length = 16) (h : ∀ x0 x1 x2 x3 x4 x5 x6 x7 x8 x9 x10 x11 x12 x13 x14 x15, [x0, x1, x2, x3, x4, x5, x6, x7, x8, x9, x10, x11, x12, x13, x14, x15] = bi m -> K x0 x1 x2 x3 x4 x5 x6 x7 x8 x9 x10 x11 x12 x13 x14 x15) : ku w ⟨b, o, none⟩ K := by
  obtain ⟨x0, x1, x2, x3, x4, x5, x6, x7, x8, x9, x10, x11, x12, x13, x14, x15, hb, hv⟩ := abu hm
  have hc : ∀ j, j < 16 -> w.cell? ⟨b, o + j, none⟩ = (bytesV m)[j]? := fun j hj => by
    rw [hr.cell, hL, List.getElem?_append_right (by omega), List.getElem?_append_left (by rw [b_]; omega)]
    congr 1; omega
  have c0 := hc 0 (by omega)
  have c1 := hc 1 (by omega)
  have c2 := hc 2 (by omega)
  have c3 := hc 3 (by omega)
  have c4 := hc 4 (by omega)
  have c5 := hc 5 (by omega)
  have c6 := hc 6 (by omega)
  have c7 := hc 7 (by omega)
  have c8 := hc 8 (by omega)
  have c9 := hc 9 (by omega)
  have c10 := hc 10 (by omega)
  have c11 := hc 11 (by omega)
  have c12 := hc 12 (by omega)
  have c13 := hc 13 (by omega)
  have c14 := hc 14 (by omega)
  have c15 := hc 15 (by omega)
  rw [hv] at c0 c1 c2 c3 c4 c5 c6 c7 c8 c9 c10 c11 c12 c13 c14 c15
  simp only [Nat.add_zero] at c0
  simp only [sx, c0, c1, c2, c3, c4, c5, c6, c7, c8, c9, c10, c11, c12, c13, c14, c15]
  exact h _ _ _ _ _ _ _ _ _ _ _ _ _ _ _ _ hb.symm
theorem mask32 {a : Int} (h : In64 a) : sW .i64 a 4294967295 = (((a % 4294967296).toNat : Nat) : Int) ∧ (a % 4294967296).toNat < 4294967296 := by
  obtain ⟨_, h2⟩ := Go.Proofs.YO h
  unfold In64 at h
  refine ⟨?_, by omega⟩
  rw [h2]; omega
theorem IG {w : World} {a : Int} (ha : In64 a) {K : Int -> Int -> Int -> Int -> Int -> Int -> Int -> Int -> Int -> Int -> Int -> Int -> Int -> Int -> Int -> Int -> World -> Prop} (h : ∀ x0 x1 x2 x3 x4 x5 x6 x7 x8 x9 x10 x11 x12 x13 x14 x15 w', [x0, x1, x2, x3, x4, x5, x6, x7, x8, x9, x10, x11, x12, x13, x14, x15] = bi (mapped a) -> Ext w w' -> K x0 x1 x2 x3 x4 x5 x6 x7 x8 x9 x10 x11 x12 x13 x14 x15 w') : ru a w K := by
  apply NT
  refine aN fun a3 w1 r1 e1 z1 f1 => ?_
  refine OX fun w2 f2 => ?_
  refine aN fun b w3 r3 e3 z3 f3 => ?_
  refine aQ r3 rfl rfl fun w4 r4 f4 z4 => ?_
  have x4 : Ext w1 w4 := (f2.trans f3).new (f4 (· = b) rfl) fun y hy e => by have := f2.size; omega
  refine ⟨by omega, by omega, by omega, ?_⟩
  obtain ⟨hm, hlt⟩ := mask32 ha
  rw [hm]
  have hd : Ext w1 w4.drew := x4.trans (Ext.drew w4)
  refine Du (QU mF.nil (by simp) _ _) ?_
  rintro r w5 ⟨b5, f5, n5⟩
  have hp : Ed [] (((a % 4294967296).toNat : Nat) : Int) 4 = o9 4 (a % 4294967296).toNat := by
    unfold Ed
    rw [if_pos ⟨by unfold sizeOk; omega, by omega, by show _ < (256 : Int) ^ 4; omega⟩]; rfl
  rw [hp] at b5
  have hs5 := mF.vZ b5
  have hl5 := hs5.1
  rw [gW] at hl5
  have r5 := (r4.drew).ext f5
  have e12 : (if 16 = (12 : Int).toNat then (⟨b, 0, none⟩ : Addr) else (⟨b, 0, none⟩ : Addr).add ((12 : Int).toNat * 1)) = ⟨b, 12, none⟩ := by
    rw [if_neg (by decide)]; exact iC _ _ _
  rw [e12]
  refine zX (n := 1) (m := 4) (vs := bytesV (o9 4 (a % 4294967296).toNat)) (by rw [hl5]; rfl) (by have := hs5.2.1; rw [hl5] at this; simpa using this) r5 (by rw [b_, gW]; simp) (wI _) fun w6 r6 f6 => ?_
  have x6 : Ext w1 w6 := (hd.trans f5).new f6 fun y hy e => by have := f2.size; omega
  refine Bl (A := []) (C := []) (m := mapped a) r6 ?_ rfl (wz a) fun u0 u1 u2 u3 u4 u5 u6 u7 u8 u9 u10 u11 u12 u13 u14 u15 hx => ?_
  · have := b_ (o9 4 (a % 4294967296).toNat)
    unfold spl mapped
    rw [KQ, KQ, this, gW]
    simp [bytesV]
  refine aQ (r1.ext x6) rfl rfl fun w7 r7 f7 z7 => ?_
  simp only [sx, r7.cell]
  exact h _ _ _ _ _ _ _ _ _ _ _ _ _ _ _ _ _ hx ((f1.trans x6).new (f7 (· = a3) rfl) fun y hy e => by omega)
end Go.Proofs.PM
end
section
namespace Go.Proofs.PM
open Gp Gp.V4 Go.Proofs Go.Proofs.CN
open Gp.Bind (In64)
set_option maxRecDepth 100000
set_option maxHeartbeats 1000000
abbrev K2 : List Kind := [.int .i64, .int .i64]
abbrev T2 := Int × Int × Unit
abbrev e2 (x : T2) : List Value := Oi K2 x
theorem Vg (x : T2) : (e2 x).length = 2 := rfl
theorem aal {w : World} {s : ah} {xs : List T2} {v : Value} {p : T2 -> Bool} {C : World -> Prop} (hs : iM 2 e2 w s xs) (hl : s.len <= 2 ^ 62) (hp : JI v (fun x : T2 => Value.agg ⟨e2 x⟩) [.one .bool] C fun x => .bool (p x)) (hC : ∀ W, Ext w W -> C W) :
    bH s v w fun r w' => (r >= 0 ↔ xs.any p = true) ∧ Ext w w' := by
  apply mg
  refine aG (fun st W => ∃ j : Nat, j <= xs.length ∧ st.1 = (j : Int) ∧ Ext w W ∧ (xs.take j).any p = false) (fun st _ => (s.len - st.1).toNat) ⟨0, by omega, rfl, Ext.refl _, by simp⟩ ?_
  rintro ⟨i, ⟨⟩⟩ W ⟨j, hj, hi, hw, hm⟩ next hnext
  simp only at hi
  subst hi
  have hlen := hs.len
  by_cases hlt : (j : Int) < (s.len : Int)
  · simp only [hlt, decide_true, cond_true]
    have hx := List.getElem?_eq_getElem (show j < xs.length by omega)
    have htk := Gp.Cfg.take_snoc hx
    have hmem := List.getElem_mem (show j < xs.length by omega)
    generalize xs[j] = x at hx htk hmem
    refine dS Vg (by omega) (hs.ext hw) (by omega) (by rw [Int.toNat_natCast]; exact hx) fun a hc => ?_
    have hp := hp x
    dsimp only at hp
    by_cases he : p x = true
    · rw [he] at hp
      obtain ⟨x0, x1, ⟨⟩⟩ := x
      have c0 := hc 0 _ rfl; have c1 := hc 1 _ rfl
      skip
      simp only [sx, c0, c1]
      refine hp W _ (hC W hw) fun W' hf => ⟨true, rfl, ?_⟩
      simp only [cond_true]
      exact ⟨⟨fun _ => List.any_eq_true.2 ⟨_, hmem, he⟩, fun _ => by omega⟩, hw.trans hf⟩
    · have he : p x = false := by simpa only [Bool.not_eq_true] using he
      rw [he] at hp
      obtain ⟨x0, x1, ⟨⟩⟩ := x
      have c0 := hc 0 _ rfl; have c1 := hc 1 _ rfl
      skip
      simp only [sx, c0, c1]
      refine hp W _ (hC W hw) fun W' hf => ⟨false, rfl, ?_⟩
      simp only [cond_false]
      rw [wrap_i64 (by omega) (by omega)]
      refine hnext _ _ ⟨j + 1, by omega, by simp, hw.trans hf, ?_⟩ (by simp only; omega)
      rw [htk, List.any_append, hm, List.any_cons, he, List.any_nil]; rfl
  · simp only [hlt, decide_false, cond_false]
    rw [List.take_of_length_le (by omega)] at hm
    exact ⟨⟨fun h => by omega, fun h => by rw [hm] at h; cases h⟩, hw⟩
theorem Ug {w : World} {s : ah} {xs : List T2} {v : Value} {p : T2 -> Bool} {C : World -> Prop} (hs : iM 2 e2 w s xs) (hl : s.len <= 2 ^ 62) (hp : JI v (fun x : T2 => Value.agg ⟨e2 x⟩) [.one .bool] C fun x => .bool (p x)) (hC : ∀ W, Ext w W -> C W) :
    aY s v w fun r w' => r = xs.any p ∧ Ext w w' := by
  apply kQ
  refine mO (aal hs hl hp hC) ?_
  rintro r w' ⟨h, hf⟩
  refine ⟨?_, hf⟩
  cases hb : xs.any p with
  | true => exact decide_eq_true (h.2 hb)
  | false => exact decide_eq_false fun hh => by rw [h.1 hh] at hb; cases hb
theorem aa2 : JI (.func (.func Sj) #[] #[]) (fun x : T2 => Value.agg ⟨e2 x⟩) [.one .bool] (fun _ => True) (fun x : T2 => .bool (!decide (fitsP x.1 x.2.1))) := by
  rintro ⟨x, y, ⟨⟩⟩ W K _ hK
  refine ji (by kernel_rfl) ?_
  refine Calls.mono (P8 (A0 := x) (A1 := y) (w := W) (K := fun r W' => r = !decide (fitsP x y) ∧ Ext W W') ?_) ?_
  · refine aN fun a w1 r1 e1 z1 f1 => ?_
    simp only [sx, r1.cell]
    refine MI (VZ x y w1) ?_
    rintro _ w' ⟨rfl, rfl⟩
    exact ⟨rfl, f1⟩
  · rintro e W' ⟨r, he, rfl, hf⟩
    exact ⟨_, he, hK W' hf⟩
theorem Zh {w : World} {s : ah} {fs : List T2} (hs : iM 2 e2 w s fs) (hl : s.len <= 2 ^ 62) : vP s w fun r w' => r = decide (∀ f ∈ fs, fitsP f.1 f.2.1) ∧ Ext w w' := by
  apply U0
  refine kL (Ug hs hl aa2 fun _ _ => trivial) ?_
  rintro r w' ⟨rfl, hf⟩
  refine ⟨?_, hf⟩
  by_cases h : ∀ f ∈ fs, fitsP f.1 f.2.1
  · rw [decide_eq_true h, Bool.not_eq_true', List.any_eq_false]
    intro f hf
    simp [h f hf]
  · rw [decide_eq_false h, Bool.not_eq_false', List.any_eq_true]
    simp only [Classical.not_forall] at h
    obtain ⟨f, hf, hn⟩ := h
    exact ⟨f, hf, by simp [hn]⟩
def lU (l : List UInt8) (fs : List T2) : List UInt8 := fs.foldl (fun m f => Ed m f.1 f.2.1) l
theorem Yr (l : List UInt8) (n k : Int) : (Ed l n k).length <= l.length + 4 := by
  unfold Ed
  split
  · rename_i h
    obtain ⟨⟨h1, h2⟩, _⟩ := h
    rw [List.length_append, gW]; omega
  · omega
theorem sF : ∀ (fs : List T2) (l : List UInt8), (lU l fs).length <= l.length + 4 * fs.length
  | [], l => by simp [lU]
  | f :: fs, l => by
    have h1 := sF fs (Ed l f.1 f.2.1)
    have h2 := Yr l f.1 f.2.1
    show (lU (Ed l f.1 f.2.1) fs).length <= _
    rw [List.length_cons]; omega
theorem GV {w : World} {s t : ah} {l : List UInt8} {fs : List T2} (hs : Buf w s (bytesV l)) (ht : iM 2 e2 w t fs) (hne : fs ≠ []) (hl : l.length + 4 * fs.length <= 2 ^ 40) :
    og s t w fun r w' => Buf w' r (bytesV (lU l fs)) ∧ Ext w w' ∧ ∀ b, ah.at r b -> w.heap.size <= b := by
  apply U7
  have hlen := ht.len
  refine aG (fun st W => ∃ j : Nat, j <= fs.length ∧ st.2.1 = (j : Int) ∧ Ext w W ∧ Buf W st.1 (bytesV (lU l (fs.take j))) ∧ (0 < j -> ∀ b, ah.at st.1 b -> w.heap.size <= b)) (fun st _ => (t.len - st.2.1).toNat) ⟨0, by omega, rfl, Ext.refl _, by simpa [lU] using hs, by omega⟩ ?_
  rintro ⟨r, i, ⟨⟩⟩ W ⟨j, hj, hi, hx, hb, hn⟩ next hnext
  simp only at hi hb hn
  subst hi
  by_cases hlt : (j : Int) < (t.len : Int)
  · simp only [hlt, decide_true, cond_true]
    have hg := List.getElem?_eq_getElem (show j < fs.length by omega)
    have htk := Gp.Cfg.take_snoc hg
    generalize fs[j] = f at hg htk
    refine dS Vg (by omega) (ht.ext hx) (by omega) (by rw [Int.toNat_natCast]; exact hg) fun a hc => ?_
    obtain ⟨f0, f1, ⟨⟩⟩ := f
    have c0 := hc 0 _ rfl; have c1 := hc 1 _ rfl
    simp only [sx, c0, c1, KP]
    refine aN fun b w2 r2 e2 z2 g2 => ?_
    refine aQ r2 rfl rfl fun w3 r3 g3 z3 => ?_
    have x3 : Ext W w3 := g2.new (g3 (· = b) rfl) fun y hy e => by omega
    simp only [sx, r3.cell]
    have hpl := sF (fs.take j) l
    have htl : (fs.take j).length <= j := List.length_take_le _ _
    refine Du (QU (mF.vZ (hb.ext x3)) (by omega) f0 f1) ?_
    rintro r' w4 ⟨b4, g4, n4⟩
    rw [wrap_i64 (by omega) (by omega)]
    refine hnext _ _ ⟨j + 1, by omega, by simp, (hx.trans x3).trans g4, ?_, fun _ b hb' => ?_⟩ (by simp only; omega)
    · rw [htk]
      unfold lU at b4 ⊢
      rw [List.foldl_append]
      exact b4
    · have h1 := n4 b hb'
      have h2 := (hx.trans x3).size
      omega
  · simp only [hlt, decide_false, cond_false]
    rw [List.take_of_length_le (by omega)] at hb
    exact ⟨hb, hx, hn (by have := List.length_pos_iff.2 hne; omega)⟩
theorem FZ {w : World} {b : Nat} {fs : List T2} {L : List Value} (hr : Row w b L) (hL : L = fs.flatMap e2) {n : Nat} (hn : n = fs.length) : iM 2 e2 w ⟨some ⟨b, 0, none⟩, n, n⟩ fs := by
  subst hn hL
  exact (dn.row hr).sl Vg (by omega)
end Go.Proofs.PM
end
section
namespace Go.Proofs.PM
open Gp Gp.V4 Go.Proofs Go.Proofs.CN
open Gp.Bind (In64)
set_option maxRecDepth 100000
set_option maxHeartbeats 1000000
structure PA where
  lf : Int
  pr : Int
  po : Int
  ou : Int
  ad : Int
def PA.may (p : PA) : Prop := fitsP p.lf 4 ∧ fitsP p.pr 1 ∧ fitsP p.po 2 ∧ fitsP p.ou 2 ∧ fitsP p.ad 4
instance (p : PA) : Decidable p.may := inferInstanceAs (Decidable (_ ∧ _))
theorem VK {w : World} {d0 d1 d2 d3 d4 d5 d6 d7 d8 d9 d10 d11 d12 d13 d14 d15 d16 d17 d18 d19 d20 d21 d22 d23 d24 d25 d26 d27 d28 e29 e30 e31 e32 : Int} : lM d0 d1 d2 d3 d4 d5 d6 d7 d8 d9 d10 d11 d12 d13 d14 d15 d16 d17 d18 d19 d20 d21 d22 d23 d24 d25 d26 d27 d28 e29 e30 e31 e32 w fun r w' => r = decide (PA.may ⟨d0, e29, e30, e31, e32⟩) ∧ Ext w w' := by
  apply KO
  refine aN fun a w1 r1 e1 z1 f1 => ?_
  simp only [sx, r1.cell]
  refine aN fun b w2 r2 e2 z2 f2 => ?_
  refine KC (Zh (fs := [(d0, 4, ()), (e29, 1, ()), (e30, 2, ()), (e31, 2, ()), (e32, 4, ())]) (FZ r2 rfl rfl) (by simp)) ?_
  rintro r w3 ⟨rfl, f3⟩
  refine ⟨decide_eq_decide.2 ?_, (f1.trans f2).trans f3⟩
  unfold PA.may
  simp
def EC (l no : List UInt8) (p : PA) : List UInt8 := lU (l ++ no) [(p.pr, 1, ()), (0, 3, ()), (p.po, 2, ()), (p.ou, 2, ())] ++ mapped p.ad
theorem Qa {w w0 w' : World} {s : ah} (hs : ∀ b, ah.at s b -> w0.heap.size <= b) (hx : Ext w0 w) (hf : aF w w' (ah.at s)) : Ext w0 w' := hx.new hf fun b hb ha => by have := hs b ha; omega
theorem V7 {w w0 : World} {s : ah} {l no : List UInt8} {d0 d1 d2 d3 d4 d5 d6 d7 d8 d9 d10 d11 d12 d13 d14 d15 d16 d17 d18 d19 d20 d21 d22 d23 d24 d25 d26 d27 d28 e29 e30 e31 e32 : Int} (hs : Buf w s (bytesV l)) (hw : Ext w0 w) (hn : ∀ b, ah.at s b -> w0.heap.size <= b) (hl : l.length <= 1000) (hno : no.length = 12) (hd : [d17, d18, d19, d20, d21, d22, d23, d24, d25, d26, d27, d28] = bi no) (hp : PA.may ⟨d0, e29, e30, e31, e32⟩) :
    jR d0 d1 d2 d3 d4 d5 d6 d7 d8 d9 d10 d11 d12 d13 d14 d15 d16 d17 d18 d19 d20 d21 d22 d23 d24 d25 d26 d27 d28 e29 e30 e31 e32 s w fun r w' => Buf w' r (bytesV (EC l no ⟨d0, e29, e30, e31, e32⟩)) ∧ Ext w0 w' ∧ ∀ b, ah.at r b -> w0.heap.size <= b := by
  apply JG
  have had : In64 e32 := by
    obtain ⟨_, _, _, _, ⟨_, h1, h2⟩⟩ := hp
    unfold In64
    have : (256 : Int) ^ (4 : Int).toNat = 4294967296 := by decide
    simp only at h1 h2
    omega
  refine aN fun a w1 r1 e1 z1 f1 => ?_
  simp -zeta only [sx, r1.cell]
  refine IG had fun u0 u1 u2 u3 u4 u5 u6 u7 u8 u9 u10 u11 u12 u13 u14 u15 w2 hx f2 => ?_
  refine aN fun b w3 r3 e3 z3 f3 => ?_
  refine aQ r3 rfl rfl fun w4 r4 f4 z4 => ?_
  have f4 := f4 (· = b) rfl
  have x4 : Ext w1 w4 := (f2.trans f3).new f4 fun y hy e => by have := f2.size; omega
  have xw : Ext w w4 := f1.trans x4
  intro J
  have hL : bytesV no = [.int .u8 d17, .int .u8 d18, .int .u8 d19, .int .u8 d20, .int .u8 d21, .int .u8 d22, .int .u8 d23, .int .u8 d24, .int .u8 d25, .int .u8 d26, .int .u8 d27, .int .u8 d28] := by
    rw [vN, <- hd]; rfl
  have r1d := r1.ext (x4.trans (Ext.drew w4))
  have hno' : mF w4.drew ⟨some ⟨a, 17, none⟩, 12, 12⟩ no := Gn (o := 17) r1d (A := .int .i64 d0 :: [.int .u8 d1, .int .u8 d2, .int .u8 d3, .int .u8 d4, .int .u8 d5, .int .u8 d6, .int .u8 d7, .int .u8 d8, .int .u8 d9, .int .u8 d10, .int .u8 d11, .int .u8 d12, .int .u8 d13, .int .u8 d14, .int .u8 d15, .int .u8 d16]) (C := [.int .i64 e29, .int .i64 e30, .int .i64 e31, .int .i64 e32]) (by rw [hL]; rfl) rfl hno.symm
  refine ML (n := 12) (by decide) ?_
  simp only [sx, r1d.cell]
  have hsz : w0.heap.size <= w.heap.size := hw.size
  have hJ : ∀ s' W, Buf W s' (bytesV (lU (l ++ no) [(e29, 1, ()), (0, 3, ()), (e30, 2, ()), (e31, 2, ())])) -> Row W b (dF u0 u1 u2 u3 u4 u5 u6 u7 u8 u9 u10 u11 u12 u13 u14 u15) -> Ext w0 W -> (∀ c, ah.at s' c -> w0.heap.size <= c) -> J s' W := by
    intro s' W hb hr hx0 hnw
    simp only [J]
    refine AX ?_
    have hm : mF W ⟨some ⟨b, 0, none⟩, 16, 16⟩ (mapped e32) := Gn (o := 0) hr (A := []) (C := []) (by rw [vN, <- hx]; rfl) rfl (wz _).symm
    have hln := sF [(e29, 1, ()), (0, 3, ()), (e30, 2, ()), (e31, 2, ())] (l ++ no)
    simp only [List.length_append, List.length_cons, List.length_nil] at hln
    refine qK hb hm (by have := wz e32; omega) fun s2 W2 b2 g2 n2 _ => ?_
    refine ⟨b2, Qa hnw hx0 g2, fun c hc => ?_⟩
    rcases n2 c hc with h | h
    · exact hnw c h
    · have := hx0.size; omega
  clear_value J
  have hsd := (hs.ext xw).ext (Ext.drew w4)
  have xd : Ext w w4.drew := xw.trans (Ext.drew w4)
  have hat : ∀ c, ah.at s c -> c < w.heap.size := fun c hc => hs.lt hc
  have hbw : w.heap.size <= b := by have := f1.size; have := f2.size; omega
  refine ⟨?_, ?_⟩
  · refine qK hsd hno' (by rw [hno]; omega) fun s5 w5 b5 g5 n5 _ => ?_
    have x5 : Ext w0 w5 := Qa hn (hw.trans xd) g5
    have hn5 : ∀ c, ah.at s5 c -> w0.heap.size <= c := fun c hc => by
      rcases n5 c hc with h | h
      · exact hn c h
      · have := (hw.trans xd).size; omega
    have r5 := r1d.fr g5 (fun h => by have := hat _ h; omega)
    have q5 := r4.drew.fr g5 (fun h => by have := hat _ h; omega)
    simp only [sx, r5.cell, true_and]
    refine aN fun t w6 r6 e6 z6 f6 => ?_
    refine wL (GV (fs := [(e29, 1, ()), (0, 3, ()), (e30, 2, ()), (e31, 2, ())]) (b5.ext f6) (FZ r6 rfl rfl) (by simp) (by simp [hno]; omega)) ?_
    rintro r w7 ⟨b7, f7, n7⟩
    exact hJ _ _ b7 ((q5.ext f6).ext f7) (x5.trans (f6.trans f7)) fun c hc => by have := n7 c hc; have := (x5.trans f6).size; omega
  · refine aN fun t w5 r5 e5 z5 f5 => ?_
    refine qK (hsd.ext f5) (hno'.ext f5) (by rw [hno]; omega) fun s6 w6 b6 g6 n6 _ => ?_
    have x6 : Ext w0 w6 := Qa hn ((hw.trans xd).trans f5) g6
    have zd : w4.drew.heap.size = w4.heap.size := rfl
    have z4' := xw.size
    have r6 := (r1d.ext f5).fr g6 (fun h => by have := hat _ h; omega)
    have q6 := (r4.drew.ext f5).fr g6 (fun h => by have := hat _ h; omega)
    have t6 := r5.fr g6 (fun h => by have := hat _ h; omega)
    simp only [sx, r6.cell, true_and]
    refine wL (GV (fs := [(e29, 1, ()), (0, 3, ()), (e30, 2, ()), (e31, 2, ())]) b6 (FZ t6 rfl rfl) (by simp) (by simp [hno]; omega)) ?_
    rintro r w7 ⟨b7, f7, n7⟩
    exact hJ _ _ b7 (q6.ext f7) (x6.trans f7) fun c hc => by have := n7 c hc; have := x6.size; omega
def Fj (r ep : Int) (no : List UInt8) (p : PA) : List UInt8 :=
  EC (lU (lU [] [(2, 1, ()), (129, 1, ()), (0, 1, ()), (r, 1, ())]) [(p.lf, 4, ()), (ep, 4, ()), (0, 4, ()), (0, 4, ()), (0, 4, ())]) no p
def DJ (r ep : Int) (p : PA) : Prop := p.may ∧ fitsP r 1 ∧ fitsP ep 4
instance (r ep : Int) (p : PA) : Decidable (DJ r ep p) := inferInstanceAs (Decidable (_ ∧ _))
theorem WA {w : World} {no : List UInt8} {r ep d0 d1 d2 d3 d4 d5 d6 d7 d8 d9 d10 d11 d12 d13 d14 d15 d16 d17 d18 d19 d20 d21 d22 d23 d24 d25 d26 d27 d28 e29 e30 e31 e32 : Int} (hno : no.length = 12) (hd : [d17, d18, d19, d20, d21, d22, d23, d24, d25, d26, d27, d28] = bi no) :
    n_ r ep d0 d1 d2 d3 d4 d5 d6 d7 d8 d9 d10 d11 d12 d13 d14 d15 d16 d17 d18 d19 d20 d21 d22 d23 d24 d25 d26 d27 d28 e29 e30 e31 e32 w fun s e w' => Ext w w' ∧ e = (if DJ r ep ⟨d0, e29, e30, e31, e32⟩ then 0 else 1) ∧ Buf w' s (bytesV (if DJ r ep ⟨d0, e29, e30, e31, e32⟩ then Fj r ep no ⟨d0, e29, e30, e31, e32⟩ else [])) ∧ ∀ b, ah.at s b -> w.heap.size <= b := by
  apply Ob
  refine aN fun a w1 r1 e1 z1 f1 => ?_
  intro J
  have hJt : ∀ W, Ext w1 W -> ¬ DJ r ep ⟨d0, e29, e30, e31, e32⟩ -> J true W := by
    intro W hx hn
    simp only [J, cond_true]
    rw [if_neg hn, if_neg hn]
    exact ⟨f1.trans hx, rfl, Buf.nil, fun b ⟨o, hb⟩ => by cases hb⟩
  have hJf : ∀ W, Ext w1 W -> DJ r ep ⟨d0, e29, e30, e31, e32⟩ -> J false W := by
    intro W hx hp
    simp only [J, cond_false]
    rw [if_pos hp, if_pos hp]
    have rW := r1.ext hx
    simp only [sx, rW.cell]
    refine aN fun b w2 r2 e2 z2 f2 => ?_
    refine wL (GV (l := []) (fs := [(2, 1, ()), (129, 1, ()), (0, 1, ()), (r, 1, ())]) Buf.nil (FZ r2 rfl rfl) (by simp) (by simp)) ?_
    rintro s3 w3 ⟨b3, f3, n3⟩
    have r3 := (rW.ext f2).ext f3
    have x3 := (f1.trans hx).trans (f2.trans f3)
    have l3 := sF [(2, 1, ()), (129, 1, ()), (0, 1, ()), (r, 1, ())] []
    simp only [List.length_cons, List.length_nil] at l3
    simp only [sx, r3.cell]
    refine aN fun c w4 r4 e4 z4 f4 => ?_
    refine wL (GV (fs := [(d0, 4, ()), (ep, 4, ()), (0, 4, ()), (0, 4, ()), (0, 4, ())]) (b3.ext f4) (FZ r4 rfl rfl) (by simp) (by simp only [List.length_cons, List.length_nil]; omega)) ?_
    rintro s5 w5 ⟨b5, f5, n5⟩
    have l5 := sF [(d0, 4, ()), (ep, 4, ()), (0, 4, ()), (0, 4, ()), (0, 4, ())] (lU [] [(2, 1, ()), (129, 1, ()), (0, 1, ()), (r, 1, ())])
    simp only [List.length_cons, List.length_nil] at l5
    have r5 := (r3.ext f4).ext f5
    have x5 := x3.trans (f4.trans f5)
    simp only [sx, r5.cell]
    refine Ap (V7 (w0 := w) b5 x5 (fun y hy => by have := n5 y hy; have := (x3.trans f4).size; omega) (by omega) hno hd hp.1) ?_
    rintro s6 w6 ⟨b6, f6, n6⟩
    exact ⟨f6, by trivial, b6, n6⟩
  clear_value J
  simp only [sx, r1.cell]
  refine Ci VK ?_
  rintro _ w2 ⟨rfl, f2⟩
  by_cases hm : PA.may ⟨d0, e29, e30, e31, e32⟩
  rotate_left
  · rw [decide_eq_false hm, Bool.not_false, cond_true]
    exact hJt _ f2 fun h => hm h.1
  rw [decide_eq_true hm, Bool.not_true, cond_false]
  have r2 := r1.ext f2
  simp only [sx, r2.cell]
  refine aN fun b w3 r3 e3 z3 f3 => ?_
  refine KC (Zh (fs := [(r, 1, ()), (ep, 4, ())]) (FZ r3 rfl rfl) (by simp)) ?_
  rintro _ w4 ⟨rfl, f4⟩
  by_cases hf : fitsP r 1 ∧ fitsP ep 4
  · have : (∀ f ∈ [((r, 1, ()) : T2), (ep, 4, ())], fitsP f.1 f.2.1) := by simpa using hf
    rw [decide_eq_true this]
    exact hJf _ (f2.trans (f3.trans f4)) ⟨hm, hf⟩
  · have : ¬ (∀ f ∈ [((r, 1, ()) : T2), (ep, 4, ())], fitsP f.1 f.2.1) := fun h => hf (by simpa using h)
    rw [decide_eq_false this]
    exact hJt _ (f2.trans (f3.trans f4)) fun h => hf h.2
end Go.Proofs.PM
end
section
namespace Go.Proofs.PM
open Gp Gp.V4 Go.Proofs Go.Proofs.CN
open Gp.Bind (In64)
set_option maxRecDepth 100000
set_option maxHeartbeats 1000000
theorem Q9 {α : Type} {l : List α} {i : Nat} (h : i < l.length) : l.take (i + 1) = l.take i ++ [l[i]] := by rw [List.take_succ_eq_append_getElem h]
theorem aaN {w : World} {s t : ah} {l m : List UInt8} (hs : mF w s l) (ht : mF w t m) (hl : l.length <= 2 ^ 40) : eG s t w fun r w' => r = decide (l = m) ∧ Ext w w' := by
  apply xq
  have h1 := hs.1
  have h2 := ht.1
  by_cases hn : l.length = m.length
  rotate_left
  · have : ((s.len : Int) != (t.len : Int)) = true := by rw [bne_iff_ne]; omega
    rw [this, cond_true]
    exact ⟨(decide_eq_false fun h => hn (by rw [h])).symm, Ext.refl _⟩
  have : ((s.len : Int) != (t.len : Int)) = false := by rw [bne_eq_false_iff_eq]; omega
  rw [this, cond_false]
  refine aG (fun st W => ∃ j : Nat, j <= l.length ∧ st.1 = (j : Int) ∧ Ext w W ∧ l.take j = m.take j) (fun st _ => l.length - st.1.toNat) ⟨0, by omega, rfl, Ext.refl _, by simp⟩ ?_
  rintro ⟨i, ⟨⟩⟩ W ⟨j, hj, hi, hx, he⟩ next hnext
  simp only at hi
  subst hi
  by_cases hlt : (j : Int) < (s.len : Int)
  · simp only [hlt, decide_true, cond_true]
    have xd := hx.trans (Ext.drew W)
    refine byte_at (hs.ext xd) (i := j) (by omega) fun a ca _ => ?_
    simp only [sx, ca]
    refine byte_at (ht.ext xd) (i := j) (by omega) fun b cb _ => ?_
    simp only [sx, cb]
    by_cases hb : l[j] = m[j]
    · have : (((l[j].toNat : Nat) : Int) != ((m[j].toNat : Nat) : Int)) = false := by rw [bne_eq_false_iff_eq, hb]
      rw [this, cond_false, wrap_i64 (by omega) (by omega)]
      exact hnext _ _ ⟨j + 1, by omega, by simp, xd, by rw [Q9 (by omega), Q9 (by omega), he, hb]⟩ (by simp only; omega)
    · have : (((l[j].toNat : Nat) : Int) != ((m[j].toNat : Nat) : Int)) = true := by
        rw [bne_iff_ne]
        intro h
        exact hb (UInt8.toNat_inj.1 (by omega))
      rw [this, cond_true]
      exact ⟨(decide_eq_false fun h => hb (by subst h; rfl)).symm, xd⟩
  · simp only [hlt, decide_false, cond_false]
    rw [List.take_of_length_le (by omega), List.take_of_length_le (by omega)] at he
    exact ⟨(decide_eq_true he).symm, hx⟩
def pre : List UInt8 := [0, 0, 0, 0, 0, 0, 0, 0, 0, 0, 255, 255]
theorem SY {b o : Nat} {K : ah -> Prop} (h : K ⟨some ⟨b, o, none⟩, 12, 16⟩) : oG ⟨b, o, none⟩ 16 1 0 12 K := by
  refine ⟨by omega, by omega, by omega, ?_⟩
  rw [if_neg (by decide)]
  exact h
theorem Y8 {w : World} {m : List UInt8} {a0 a1 a2 a3 a4 a5 a6 a7 a8 a9 a10 a11 a12 a13 a14 a15 : Int} (hm : m.length = 16) (ha : [a0, a1, a2, a3, a4, a5, a6, a7, a8, a9, a10, a11, a12, a13, a14, a15] = bi m) {K : Int -> Bool -> World -> Prop}
    (h : ∀ n w', Ext w w' -> (m.take 12 = pre -> n = (num m 12 4 : Int)) -> K n (decide (m.take 12 = pre)) w') : BN a0 a1 a2 a3 a4 a5 a6 a7 a8 a9 a10 a11 a12 a13 a14 a15 w K := by
  apply Qy
  refine aN fun b w1 r1 e1 z1 f1 => ?_
  refine OX fun w2 f2 => ?_
  refine aN fun c w3 r3 e3 z3 f3 => ?_
  refine aQ r3 rfl rfl fun w4 r4 f4 z4 => ?_
  have x4 : Ext w1 w4 := (f2.trans f3).new (f4 (· = c) rfl) fun y hy e => by have := f2.size; omega
  refine SY (SY ?_)
  have xd := x4.trans (Ext.drew w4)
  have hL : bytesV m = dF a0 a1 a2 a3 a4 a5 a6 a7 a8 a9 a10 a11 a12 a13 a14 a15 := by rw [vN, <- ha]; rfl
  have hA : ∀ W, Ext w1 W -> mF W ⟨some ⟨b, 0, none⟩, 16, 16⟩ m := fun W hx => Gn (o := 0) (r1.ext hx) (A := []) (C := []) (by rw [hL]; rfl) rfl hm.symm
  have hs : mF w4.drew ⟨some ⟨b, 0, none⟩, 12, 16⟩ (m.take 12) := by
    have := hA _ xd
    refine ⟨by simp [hm], ?_, by simp⟩
    have := Hf this (n := 12) (by omega)
    simpa using this
  have ht : mF w4.drew ⟨some ⟨c, 0, none⟩, 12, 16⟩ pre := by
    have : mF w4.drew ⟨some ⟨c, 0, none⟩, 16, 16⟩ (pre ++ [0, 0, 0, 0]) := Gn (o := 0) r4.drew (A := []) (C := []) rfl rfl rfl
    refine ⟨rfl, ?_, by simp⟩
    have := Hf this (n := 12) (by decide)
    simpa [pre] using this
  refine xk (aaN hs ht (by simp; omega)) ?_
  rintro _ w5 ⟨rfl, f5⟩
  have x5 := xd.trans f5
  by_cases hp : m.take 12 = pre
  rotate_left
  · rw [decide_eq_false hp, Bool.not_false, cond_true]
    have := h 0 w5 (f1.trans x5) fun he => absurd he hp
    rw [decide_eq_false hp] at this
    exact this
  rw [decide_eq_true hp, Bool.not_true, cond_false]
  refine AX ?_
  refine IQ (U8 (hA _ x5) (by omega) 12 4) ?_
  rintro n e w6 ⟨rfl, hg⟩
  have hn := Pn (at_ := 12) (k := 4) (by omega) (by omega) hg
  have he : e = 0 := by
    unfold NM at hg
    rw [if_neg (by unfold sizeOk; omega), if_neg (by omega)] at hg
    exact hg.1
  subst he
  have := h n _ (f1.trans x5) fun _ => hn
  rw [decide_eq_true hp] at this
  exact this
theorem acJ {l : List UInt8} (h : l.length = 12) : ∃ x0 x1 x2 x3 x4 x5 x6 x7 x8 x9 x10 x11 : Int, bi l = [x0, x1, x2, x3, x4, x5, x6, x7, x8, x9, x10, x11] := by
  obtain ⟨x0, x1, x2, x3, x4, x5, x6, x7, x8, x9, x10, x11, x12, x13, x14, x15, hb, hv⟩ := abu (l := l ++ [0, 0, 0, 0]) (by simp [h])
  refine ⟨x0, x1, x2, x3, x4, x5, x6, x7, x8, x9, x10, x11, ?_⟩
  have h1 : bi l ++ [0, 0, 0, 0] = [x0, x1, x2, x3, x4, x5, x6, x7, x8, x9, x10, x11] ++ [x12, x13, x14, x15] := by
    have : bi (l ++ [0, 0, 0, 0]) = bi l ++ [0, 0, 0, 0] := by unfold bi; rw [List.map_append]; rfl
    rw [<- this, hb]; rfl
  exact (List.append_inj h1 (by simp [bi, h])).1
def fO (l : List UInt8) (k : Int) : Int :=
  if l.length < 60 then 3 else if 60 < l.length then 6 else if ¬ ((num l 0 1 : Int) = 2 ∧ (num l 1 1 : Int) = k ∧ (l.drop 44).take 12 = pre) then 4 else 0
def uQ (l : List UInt8) : PA := ⟨(num l 4 4 : Int), (num l 36 1 : Int), (num l 40 2 : Int), (num l 42 2 : Int), (num l 56 4 : Int)⟩
def ab3 (l : List UInt8) (d0 : Int) (c n : List Int) (d29 d30 d31 d32 : Int) : Prop := d0 = (num l 4 4 : Int) ∧ c = bi ((l.drop 8).take 16) ∧ n = bi ((l.drop 24).take 12) ∧ d29 = (num l 36 1 : Int) ∧ d30 = (num l 40 2 : Int) ∧ d31 = (num l 42 2 : Int) ∧ d32 = (num l 56 4 : Int)
theorem G7 {W : World} {a : Nat} {s : ah} {l : List UInt8} (hr : Row W a [.slice s.a s.len s.cap]) (hs : mF W s l) (hl : l.length <= 2 ^ 40) {at_ k : Nat} (hk : 1 <= k ∧ k <= 4) (h : at_ + k <= l.length) {K : Value -> World -> Prop} (hK : K (.int .i64 (num l at_ k : Int)) W) :
    fM Tryz.prog [.one (.int .i64)] (Value.func (.func PY) #[] #[(Value.pointer (some ⟨a, 0, none⟩))]) [(Value.int .i64 (at_ : Int)), (Value.int .i64 (k : Int))] W K := by
  refine ji (by kernel_rfl) ?_
  refine Calls.mono (Oa (a0 := (at_ : Int)) (a1 := (k : Int)) (f0 := ⟨a, 0, none⟩) (w := W) (K := fun r W' => r = (num l at_ k : Int) ∧ W' = W) ?_) ?_
  · simp only [sx, hr.cell]
    refine IQ (U8 hs (by omega) _ _) ?_
    rintro n e w' ⟨rfl, hg⟩
    exact ⟨Pn hk h hg, rfl⟩
  · rintro e W' ⟨r, he, rfl, rfl⟩
    exact ⟨_, he, hK⟩
theorem VX {w : World} {s : ah} {l : List UInt8} {k : Int} (hs : mF w s l) (hl : l.length <= 2 ^ 40) {K : Int -> Int -> Int -> Int -> Int -> Int -> Int -> Int -> Int -> Int -> Int -> Int -> Int -> Int -> Int -> Int -> Int -> Int -> Int -> Int -> Int -> Int -> Int -> Int -> Int -> Int -> Int -> Int -> Int -> Int -> Int -> Int -> Int -> Int -> World -> Prop}
    (h : ∀ d0 d1 d2 d3 d4 d5 d6 d7 d8 d9 d10 d11 d12 d13 d14 d15 d16 d17 d18 d19 d20 d21 d22 d23 d24 d25 d26 d27 d28 d29 d30 d31 d32 w', Ext w w' -> (fO l k = 0 -> ab3 l d0 [d1, d2, d3, d4, d5, d6, d7, d8, d9, d10, d11, d12, d13, d14, d15, d16] [d17, d18, d19, d20, d21, d22, d23, d24, d25, d26, d27, d28] d29 d30 d31 d32) -> K d0 d1 d2 d3 d4 d5 d6 d7 d8 d9 d10 d11 d12 d13 d14 d15 d16 d17 d18 d19 d20 d21 d22 d23 d24 d25 d26 d27 d28 d29 d30 d31 d32 (fO l k) w') : zI s k w K := by
  apply Q_
  have hlen := hs.1
  refine ⟨rfl, ?_⟩
  refine aN fun a w1 r1 e1 z1 f1 => ?_
  refine aN fun b w2 r2 e2 z2 f2 => ?_
  have r1' := r1.ext f2
  have x2 := f1.trans f2
  have fail : ∀ W, Ext w2 W -> ∀ (e : Int), e = fO l k -> e ≠ 0 -> iT (dw 0 0 0 0 0 0 0 0 0 0 0 0 0 0 0 0 0 0 0 0 0 0 0 0 0 0 0 0 0 0 0 0 0) W ⟨b, 0, none⟩ 0 fun w8 => fH w8 ⟨b, 0, none⟩ fun y0 y1 y2 y3 y4 y5 y6 y7 y8 y9 y10 y11 y12 y13 y14 y15 y16 y17 y18 y19 y20 y21 y22 y23 y24 y25 y26 y27 y28 y29 y30 y31 y32 => K y0 y1 y2 y3 y4 y5 y6 y7 y8 y9 y10 y11 y12 y13 y14 y15 y16 y17 y18 y19 y20 y21 y22 y23 y24 y25 y26 y27 y28 y29 y30 y31 y32 e w8 := by
    intro W hx e he hne
    refine aQ (r2.ext hx) rfl rfl fun w3 r3 f3 z3 => ?_
    simp only [sx, r3.cell]
    subst he
    exact h 0 0 0 0 0 0 0 0 0 0 0 0 0 0 0 0 0 0 0 0 0 0 0 0 0 0 0 0 0 0 0 0 0 w3 ((x2.trans hx).new (f3 (· = b) rfl) fun y hy e => by have := f1.size; omega) fun h0 => absurd h0 hne
  refine aP (k := .slice) (x := s) r1' rfl ?_
  by_cases h60 : l.length < 60
  · have e : fO l k = 3 := by unfold fO; rw [if_pos h60]
    have : ((s.len : Int) < 60) := by omega
    rw [decide_eq_true this, cond_true]
    exact fail w2 (Ext.refl _) 3 e.symm (by decide)
  have : ¬ ((s.len : Int) < 60) := by omega
  rw [decide_eq_false this, cond_false]
  refine aP (k := .slice) (x := s) r1' rfl ?_
  by_cases h61 : 60 < l.length
  · have e : fO l k = 6 := by unfold fO; rw [if_neg h60, if_pos h61]
    have : ((s.len : Int) > 60) := by omega
    rw [decide_eq_true this, cond_true]
    exact fail w2 (Ext.refl _) 6 e.symm (by decide)
  have : ¬ ((s.len : Int) > 60) := by omega
  rw [decide_eq_false this, cond_false]
  have hl60 : l.length = 60 := by omega
  intro J
  have hJt : ¬ ((num l 0 1 : Int) = 2 ∧ (num l 1 1 : Int) = k) -> J true := by
    intro hn
    simp only [J, cond_true]
    exact fail w2 (Ext.refl _) 4 (by unfold fO; rw [if_neg h60, if_neg h61, if_pos fun hc => hn ⟨hc.1, hc.2.1⟩]) (by decide)
  have hJf : (num l 0 1 : Int) = 2 -> (num l 1 1 : Int) = k -> J false := by
    intro hv hk
    simp only [J, cond_false]
    refine aN fun c w3 r3 e3 z3 f3 => ?_
    refine AX ?_
    have x3 := f3.trans (Ext.drew w3)
    have r1'' := r1'.ext x3
    refine aP (k := .slice) (x := s) r1'' rfl ?_
    refine Bz ((hs.ext x2).ext x3) (by omega) (by omega) (by omega) fun s4 hs4 _ => ?_
    rw [Int.toNat_natCast, hlen, List.take_of_length_le (Nat.le_refl _)] at hs4
    have hs4 : mF w3.drew s4 (l.drop 44) := hs4
    have ls4 := hs4.1
    rw [List.length_drop] at ls4
    have k16 : ((l.drop 44).take 16).length = 16 := by rw [List.length_take, List.length_drop]; omega
    refine zX (m := 16) (vs := bytesV ((l.drop 44).take 16)) (by show min (_ : Nat) _ = _; omega) (Hf hs4 (by rw [List.length_drop]; omega)) r3.drew (by rw [b_, k16]; simp) (wI _) fun w4 r4 f4 => ?_
    have x4 : Ext w2 w4 := x3.new f4 fun y hy e => by omega
    refine Bl (A := []) (C := []) (m := (l.drop 44).take 16) r4 ?_ rfl k16 fun p0 p1 p2 p3 p4 p5 p6 p7 p8 p9 p10 p11 p12 p13 p14 p15 hp => ?_
    · unfold spl; rw [b_, k16]; simp
    refine Y8 k16 hp fun n w5 f5 hn => ?_
    have x5 := x4.trans f5
    have ht : ((l.drop 44).take 16).take 12 = (l.drop 44).take 12 := by rw [List.take_take]; rfl
    have hnum : num ((l.drop 44).take 16) 12 4 = num l 56 4 := by
      unfold num
      rw [List.drop_take, List.drop_drop, List.take_take]; rfl
    rw [ht, hnum] at hn
    rw [ht]
    by_cases hpre : (l.drop 44).take 12 = pre
    rotate_left
    · rw [decide_eq_false hpre, Bool.not_false, cond_true]
      exact fail w5 x5 4 (by unfold fO; rw [if_neg h60, if_neg h61, if_pos fun hc => hpre hc.2.2]) (by decide)
    rw [decide_eq_true hpre, Bool.not_true, cond_false]
    obtain rfl := hn hpre
    have hs5 := (hs.ext x2).ext x5
    have r5 := r1'.ext x5
    refine G7 (at_ := 4) (k := 4) r5 hs5 hl (by omega) (by omega) ⟨_, rfl, ?_⟩
    refine G7 (at_ := 36) (k := 1) r5 hs5 hl (by omega) (by omega) ⟨_, rfl, ?_⟩
    refine G7 (at_ := 40) (k := 2) r5 hs5 hl (by omega) (by omega) ⟨_, rfl, ?_⟩
    refine G7 (at_ := 42) (k := 2) r5 hs5 hl (by omega) (by omega) ⟨_, rfl, ?_⟩
    refine aN fun d w6 r6 e6 z6 f6 => ?_
    refine aQ r6 rfl rfl fun w7 r7 f7 z7 => ?_
    have f7 := f7 (· = d) rfl
    have x7 : Ext w2 w7.drew := ((x5.trans f6).new f7 fun y hy e => by have := x5.size; omega).trans (Ext.drew w7)
    rw [iC]
    refine AX ?_
    refine aP (k := .slice) (x := s) (r1'.ext x7) rfl ?_
    refine Bz ((hs.ext x2).ext x7) (by omega) (by omega) (by omega) fun s8 hs8 _ => ?_
    rw [Int.toNat_natCast, hlen, List.take_of_length_le (Nat.le_refl _)] at hs8
    have hs8 : mF w7.drew s8 (l.drop 8) := hs8
    have ls8 := hs8.1
    rw [List.length_drop] at ls8
    have c16 : ((l.drop 8).take 16).length = 16 := by rw [List.length_take, List.length_drop]; omega
    refine zX (m := 16) (vs := bytesV ((l.drop 8).take 16)) (by show min (_ : Nat) _ = _; omega) (Hf hs8 (by rw [List.length_drop]; omega)) r7.drew (by rw [b_, c16]; simp) (wI _) fun w8 r8 f8 => ?_
    have x8 : Ext w2 w8.drew := (x7.new f8 fun y hy e => by have := x5.size; omega).trans (Ext.drew w8)
    rw [iC]
    refine ML (n := 12) (by decide) ?_
    refine aP (k := .slice) (x := s) (r1'.ext x8) rfl ?_
    refine Bz ((hs.ext x2).ext x8) (by omega) (by omega) (by omega) fun s9 hs9 _ => ?_
    rw [Int.toNat_natCast, hlen, List.take_of_length_le (Nat.le_refl _)] at hs9
    have hs9 : mF w8.drew s9 (l.drop 24) := hs9
    have ls9 := hs9.1
    rw [List.length_drop] at ls9
    have n12 : ((l.drop 24).take 12).length = 12 := by rw [List.length_take, List.length_drop]; omega
    refine zX (m := 12) (vs := bytesV ((l.drop 24).take 12)) (by show min (_ : Nat) _ = _; omega) (Hf hs9 (by rw [List.length_drop]; omega)) r8.drew (by unfold spl; simp [b_, n12, c16]) (wI _) fun w9 r9 f9 => ?_
    have x9 : Ext w2 w9 := x8.new f9 fun y hy e => by have := x5.size; omega
    obtain ⟨c0, c1, c2, c3, c4, c5, c6, c7, c8, c9, c10, c11, c12, c13, c14, c15, hc, hcv⟩ := abu c16
    obtain ⟨q0, q1, q2, q3, q4, q5, q6, q7, q8, q9, q10, q11, hq⟩ := acJ n12
    have hqv : bytesV ((l.drop 24).take 12) = (([q0, q1, q2, q3, q4, q5, q6, q7, q8, q9, q10, q11] : List Int).map fun n => Value.int .u8 n) := by rw [vN, hq]
    rw [hcv, hqv] at r9
    have r9 : Row w9 d (dw (num l 4 4 : Int) c0 c1 c2 c3 c4 c5 c6 c7 c8 c9 c10 c11 c12 c13 c14 c15 q0 q1 q2 q3 q4 q5 q6 q7 q8 q9 q10 q11 (num l 36 1 : Int) (num l 40 2 : Int) (num l 42 2 : Int) (num l 56 4 : Int)) := r9
    simp only [sx, r9.cell]
    refine aQ (r2.ext x9) rfl rfl fun w10 r10 f10 z10 => ?_
    simp only [sx, r10.cell]
    have e : fO l k = 0 := by unfold fO; rw [if_neg h60, if_neg h61, if_neg fun hn => hn ⟨hv, hk, hpre⟩]
    rw [<- e]
    exact h _ c0 c1 c2 c3 c4 c5 c6 c7 c8 c9 c10 c11 c12 c13 c14 c15 q0 q1 q2 q3 q4 q5 q6 q7 q8 q9 q10 q11 _ _ _ _ w10 ((x2.trans x9).new (f10 (· = b) rfl) fun y hy e => by have := f1.size; omega) fun _ => ⟨rfl, hc.symm, hq.symm, rfl, rfl, rfl, rfl⟩
  clear_value J
  refine aP (k := .slice) (x := s) r1' rfl ?_
  refine byte_at (hs.ext x2) (i := 0) (by omega) fun a0 c0 _ => ?_
  simp only [sx, c0]
  have n0 := PZ (l := l) (i := 0) (by omega)
  have n1 := PZ (l := l) (i := 1) (by omega)
  rw [<- n0]
  by_cases h2 : (num l 0 1 : Int) = 2
  rotate_left
  · have : ((num l 0 1 : Int) != 2) = true := by rw [bne_iff_ne]; exact h2
    rw [this, cond_true]
    exact hJt fun hc => h2 hc.1
  have : ((num l 0 1 : Int) != 2) = false := by rw [bne_eq_false_iff_eq]; exact h2
  rw [this, cond_false]
  simp only [r1'.cell, List.getElem?_cons_zero, au, aI]
  refine byte_at (hs.ext x2) (i := 1) (by omega) fun a1 c1 _ => ?_
  simp only [sx, c1]
  rw [<- n1]
  by_cases hk : (num l 1 1 : Int) = k
  · have : ((num l 1 1 : Int) != k) = false := by rw [bne_eq_false_iff_eq]; exact hk
    rw [this]
    exact hJf h2 hk
  · have : ((num l 1 1 : Int) != k) = true := by rw [bne_iff_ne]; exact hk
    rw [this]
    exact hJt fun hc => hk hc.2
theorem YD {w : World} {s : ah} {l : List UInt8} (hs : mF w s l) (hl : l.length <= 2 ^ 40) {K : Int -> Int -> Int -> Int -> Int -> Int -> Int -> Int -> Int -> Int -> Int -> Int -> Int -> Int -> Int -> Int -> Int -> Int -> Int -> Int -> Int -> Int -> Int -> Int -> Int -> Int -> Int -> Int -> Int -> Int -> Int -> Int -> Int -> Int -> World -> Prop}
    (h : ∀ d0 d1 d2 d3 d4 d5 d6 d7 d8 d9 d10 d11 d12 d13 d14 d15 d16 d17 d18 d19 d20 d21 d22 d23 d24 d25 d26 d27 d28 d29 d30 d31 d32 w', Ext w w' -> (fO l 1 = 0 -> ab3 l d0 [d1, d2, d3, d4, d5, d6, d7, d8, d9, d10, d11, d12, d13, d14, d15, d16] [d17, d18, d19, d20, d21, d22, d23, d24, d25, d26, d27, d28] d29 d30 d31 d32) -> K d0 d1 d2 d3 d4 d5 d6 d7 d8 d9 d10 d11 d12 d13 d14 d15 d16 d17 d18 d19 d20 d21 d22 d23 d24 d25 d26 d27 d28 d29 d30 d31 d32 (fO l 1) w') : BR s w K := by
  apply Pm
  refine aN fun a w1 r1 e1 z1 f1 => ?_
  refine VX (hs.ext f1) hl fun d0 d1 d2 d3 d4 d5 d6 d7 d8 d9 d10 d11 d12 d13 d14 d15 d16 d17 d18 d19 d20 d21 d22 d23 d24 d25 d26 d27 d28 d29 d30 d31 d32 w2 f2 hp => ?_
  refine aQ (r1.ext f2) rfl rfl fun w3 r3 f3 z3 => ?_
  simp only [sx, r3.cell]
  exact h d0 d1 d2 d3 d4 d5 d6 d7 d8 d9 d10 d11 d12 d13 d14 d15 d16 d17 d18 d19 d20 d21 d22 d23 d24 d25 d26 d27 d28 d29 d30 d31 d32 w3 ((f1.trans f2).new (f3 (· = a) rfl) fun y hy e => by omega) hp
theorem Zp (l : List UInt8) (i : Nat) : num l i 4 < 4294967296 := by have := aa1 (l := l) (at_ := i) (k := 4) (by omega); omega
end Go.Proofs.PM
end
section
namespace Go.Proofs.PS
open Gp Go.Proofs Go.Proofs.EN
open Gp.Bind (Bnd Slots live GoodB freeN getS In64)
open Gp.Wh (Tm)
set_option maxRecDepth 100000
set_option maxHeartbeats 1000000
variable {w w' : World} {A : SA} {c : Cf} {Z : Bnd -> Prop} {v : SV}
theorem len_eq {α β γ : Type} {l : List α} {m : List β} {f : α -> γ} {g : β -> γ} (h1 : (l.map f).Nodup) (h2 : (m.map g).Nodup) (h : ∀ k, k ∈ l.map f ↔ k ∈ m.map g) : l.length = m.length := by
  have := ((List.perm_ext_iff_of_nodup h1 h2).2 h).length_eq
  rwa [List.length_map, List.length_map] at this
theorem vI {α β γ : Type} {l : List α} {f : α -> β} {g : α -> γ} (h : (l.map f).Nodup) (hi : ∀ x ∈ l, ∀ y ∈ l, g x = g y -> x = y) : (l.map g).Nodup := by
  induction l with
  | nil => simp
  | cons x l ih =>
    rw [List.map_cons, List.nodup_cons] at h ⊢
    refine ⟨fun hm => ?_, ih h.2 fun a ha b hb => hi a (List.mem_cons_of_mem _ ha) b (List.mem_cons_of_mem _ hb)⟩
    obtain ⟨y, hy, he⟩ := List.mem_map.1 hm
    have := hi y (List.mem_cons_of_mem _ hy) x List.mem_cons_self he
    subst this
    exact h.1 (List.mem_map.2 ⟨y, hy, rfl⟩)
theorem XU {α β : Type} [DecidableEq α] {l : List (α × β)} (k : α) : k ∈ l.map (·.1) ↔ (d_ l k).isSome = true := by
  constructor
  · intro h
    cases hc : d_ l k with
    | some v => rfl
    | none => exact absurd h (nK.1 hc)
  · intro h
    refine Classical.byContradiction fun hn => ?_
    rw [nK.2 hn] at h
    cases h
theorem Good.acv {P : List Int} (g : Good c Z v P) (h : Srv w A c v) : v.LI.length = v.L.length := by
  refine len_eq (f := (·.1)) (g := bF.k) h.nI (vI h.bn g.kk) fun k => ?_
  rw [XU, List.mem_map]
  constructor
  · intro hs
    obtain ⟨n, hn⟩ := Option.isSome_iff_exists.1 hs
    obtain ⟨x, hx, h1, _⟩ := (g.li k n).1 hn
    exact ⟨x, hx, h1⟩
  · rintro ⟨x, hx, h1⟩
    rw [(g.li k x.blk).2 ⟨x, hx, h1, rfl⟩]; rfl
theorem Good.acH (g : Good c Z v []) (h : Srv w A c v) : v.l.length = v.L.length := by
  refine len_eq (f := (·.1)) (g := bF.id) h.wh.wm.nd (vI h.bn g.ii) fun k => ?_
  rw [XU, List.mem_map, g.wl]
  constructor
  · rintro ⟨x, hx, h1, _⟩; exact ⟨x, hx, h1⟩
  · rintro ⟨x, hx, h1⟩; exact ⟨x, hx, h1, by simp⟩
structure Out (c : Cf) (Z : Bnd -> Prop) (w : World) (A : SA) (v : SV) (w' : World) (A' : SA) (v' : SV) : Prop where
  srv : Srv w' A' c v'
  good : Good c Z v' []
  fr : aF w w' (dP A v.L)
  s : A'.s = A.s
  x : A'.a.x = A.a.x
  sub : ∀ b, dP A' v'.L b -> dP A v.L b ∨ w.heap.size <= b
  now : v'.now = v.now
  most : v'.most = v.most
  tn : v'.tn <= v.tn + 1
  nx : 0 <= v'.nx ∧ v'.nx < 8192
  en : v'.e.now = v.e.now
theorem Out.same (h : Srv w A c v) (g : Good c Z v []) (hn : 0 <= v.nx ∧ v.nx < 8192) (hx : Ext w w') : Out c Z w A v w' A v :=
  ⟨h.ext hx, g, hx _, rfl, rfl, fun _ hb => .inl hb, rfl, rfl, by omega, hn, rfl⟩
theorem Kq {A A' : SA} {L L' : List bF} {n : Nat} (h0 : A'.s = A.s) (h1 : A'.a = A.a) (h3 : A'.ml = A.ml) (h4 : A'.mi = A.mi) (h5 : ∀ b, b ∈ L'.map (·.blk) -> b ∈ L.map (·.blk) ∨ n <= b)
    (h2 : ∀ b, WN.jl A'.d A'.m A'.ss b -> WN.jl A.d A.m A.ss b ∨ n <= b) : ∀ b, dP A' L' b -> dP A L b ∨ n <= b := by
  rintro b ⟨k, hk⟩
  match k, hk with
  | 0, ho => exact .inl ⟨0, (show b = A'.s from ho).trans h0⟩
  | 1, ho => exact .inl ⟨1, (show DW A.a b from by rw [<- h1]; exact ho)⟩
  | 2, ho => exact (h2 b ho).imp_left fun h => ⟨2, h⟩
  | 3, ho => exact .inl ⟨3, (show b = A'.ml from ho).trans h3⟩
  | 4, ho => exact .inl ⟨4, (show b = A'.mi from ho).trans h4⟩
  | 5, ⟨x, hx, e⟩ =>
    refine (h5 b (List.mem_map.2 ⟨x, hx, e⟩)).imp_left fun h => ?_
    obtain ⟨y, hy, e⟩ := List.mem_map.1 h
    exact ⟨5, y, hy, e⟩
  | (n + 6), ho => exact ho.elim
theorem YK (h : Srv w A c v) (g : Good c Z v []) (hnx : 0 <= v.nx ∧ v.nx < 8192) (ht : v.tn < 2 ^ 62) {x : bF} (hx : x ∈ v.L) {o0 o1 o2 d0 d1 d2 d3 d4 d5 d6 d7 d8 d9 d10 d11 d12 d13 d14 d15 d16 d17 d18 d19 d20 d21 d22 d23 d24 d25 d26 d27 d28 d29 d30 d31 d32 : Int} (hl : 0 < d0 ∧ d0 < 4294967296) {K : Int -> Int -> Int -> Int -> Int -> Int -> Int -> Int -> Int -> Int -> Int -> Int -> Int -> Int -> Int -> Int -> Int -> Int -> Int -> Int -> Int -> Int -> Int -> Int -> Int -> Int -> Int -> Int -> Int -> Int -> Int -> Int -> Int -> Int -> World -> Prop}
    (h1 : (o1 ≠ 0 ∨ o2 ≠ 0) -> ¬ (o0 = x.b.opr ∧ o1 = x.b.oad ∧ o2 = x.b.opo) -> ∀ w', Ext w w' -> K 11 d0 d1 d2 d3 d4 d5 d6 d7 d8 d9 d10 d11 d12 d13 d14 d15 d16 d17 d18 d19 d20 d21 d22 d23 d24 d25 d26 d27 d28 d29 d30 d31 d32 w')
    (h2 : ¬ ((o1 ≠ 0 ∨ o2 ≠ 0) ∧ ¬ (o0 = x.b.opr ∧ o1 = x.b.oad ∧ o2 = x.b.opo)) -> ∀ w' A' v', Out c Z w A v w' A' v' -> v'.L = yX x.blk (v.now + min d0 86400) v.L -> v'.e = v.e -> K 0 (min d0 86400) d1 d2 d3 d4 d5 d6 d7 d8 d9 d10 d11 d12 d13 d14 d15 d16 d17 d18 d19 d20 d21 d22 d23 d24 d25 d26 d27 d28 d29 d30 x.b.opo x.b.oad w') :
    oZ (some ⟨A.s, 0, none⟩) (some ⟨x.blk, 0, none⟩) o0 o1 o2 d0 d1 d2 d3 d4 d5 d6 d7 d8 d9 d10 d11 d12 d13 d14 d15 d16 d17 d18 d19 d20 d21 d22 d23 d24 d25 d26 d27 d28 d29 d30 d31 d32 w K := by
  apply BF
  refine aN fun a w1 r1 e1 z1 f1 => ?_
  refine aN fun b w2 r2 e2 z2 f2 => ?_
  refine aN fun t w3 r3 e3 z3 f3 => ?_
  have x3 := (f1.trans f2).trans f3
  have r1 := (r1.ext f2).ext f3
  have r2 := r2.ext f3
  have hS := h.ext x3
  have rx := hS.rw x hx
  have hle : ∀ k y, own A v.L k y -> y < w.heap.size := h.lt
  have hxb : x.blk < w.heap.size := h.lt 5 _ ⟨x, hx, rfl⟩
  have q1 := f1.size
  have q2 := f2.size
  have q3 := f3.size
  intro J
  have hJ : ∀ q : Bool, (q = true ↔ (o1 ≠ 0 ∨ o2 ≠ 0)) -> J q := by
    intro q hq
    simp -zeta only [J]
    intro J2
    have hJt : ∀ W, Ext w3 W -> (o1 ≠ 0 ∨ o2 ≠ 0) -> ¬ (o0 = x.b.opr ∧ o1 = x.b.oad ∧ o2 = x.b.opo) -> J2 true W := by
      intro W hW c1 c2
      simp only [J2, cond_true]
      have r2W := (r2.ext hW).drew
      simp only [sx, r2W.cell]
      refine aQ ((r3.ext hW).drew) rfl rfl fun w4 r4 f4 z4 => ?_
      simp only [sx, r4.cell]
      exact h1 c1 c2 w4 (((x3.trans hW).trans (Ext.drew W)).new (f4 (· = t) rfl) fun y hy e => by omega)
    have hJf : ∀ W, Ext w3 W -> ¬ ((o1 ≠ 0 ∨ o2 ≠ 0) ∧ ¬ (o0 = x.b.opr ∧ o1 = x.b.oad ∧ o2 = x.b.opo)) -> J2 false W := by
      intro W hW hc
      simp only [J2, cond_false]
      have r2W := r2.ext hW
      simp only [sx, r2W.cell]
      refine aZ r2W rfl (by simp) fun w4 r4 f4' z4 => ?_
      have f4 : aF W w4 (· = b) := f4' _ rfl
      simp only [List.set_cons_zero] at r4
      have x4 : Ext w w4 := (x3.trans hW).new f4 fun y hy e => by omega
      simp only [sx, r4.cell]
      have hmin : (if (86400 : Int) < d0 then 86400 else d0) = min d0 86400 := by omega
      rw [hmin] at r4 ⊢
      have g1 : (d_ v.l x.id) ≠ none := by
        have := (g.wl x.id).2 ⟨x, hx, rfl, by simp⟩
        intro hn; rw [hn] at this; cases this
      have hir := g.ir x hx
      refine uU (VL (h.ext x4) hx (life := min d0 86400) (by omega) (by omega) (by omega) (.inl g1) ht g.wn) ?_
      rintro w5 ⟨f5, ss, F, hfp, hS5⟩
      have rx5 := hS5.rw ({ x with un := v.now + min d0 86400 } : bF) (ng.2 ⟨x, hx, by rw [if_pos rfl]⟩)
      have rx5 := rx5.drew
      simp only [bF.v] at rx5
      simp only [sx, rx5.cell]
      have hnb : ∀ y, w.heap.size <= y -> ¬ dP A v.L y := fun y hy ⟨k, hk⟩ => by have := h.lt k y hk; omega
      have r5 := (r4.fr f5 (hnb _ (by omega))).drew
      refine aZ r5 rfl (by simp) fun w6 r6 f6' z6 => ?_
      have f6 : aF w5.drew w6 (· = b) := f6' _ rfl
      have rx6 := rx5.fr f6 (by omega)
      simp only [List.set_cons_zero, List.set_cons_succ] at r6
      simp only [sx, rx6.cell, true_and]
      refine aZ r6 rfl (by simp) fun w7 r7 f7' z7 => ?_
      have f7 : aF w6 w7 (· = b) := f7' _ rfl
      simp only [List.set_cons_zero, List.set_cons_succ] at r7
      have r7 := r7.drew
      simp only [sx, r7.cell]
      have f67 : aF w5 w7.drew (· = b) := (((Ext.drew w5).fr f6).trans f7 fun _ _ e => e).ext (Ext.drew w7)
      have rt : Row w7.drew t _ := (((r3.ext hW).fr f4 (by omega)).fr f5 (hnb _ (by omega))).fr f67 (by omega)
      refine aQ rt rfl rfl fun w8 r8 f8 z8 => ?_
      have f8 := f8 (· = t) rfl
      simp only [sx, r8.cell]
      have f58 : aF w5 w8 (fun y => w.heap.size <= y) := (f67.mono fun y hy => by omega).trans (f8.mono (S' := fun y => w.heap.size <= y) fun y hy => by omega) fun y _ hy => hy
      have own' : ∀ y, dP { A with ss := ss } (yX x.blk (v.now + min d0 86400) v.L) y -> dP A v.L y ∨ w4.heap.size <= y := Kq rfl rfl rfl rfl (fun y hy => .inl (by rw [Nr] at hy; exact hy)) hfp
      have zb : b < w4.heap.size ∧ t < w4.heap.size := by have := hW.size; omega
      refine h2 hc w8 _ _ ⟨(hS5.fr f67 fun k y hy e => ?_).fr f8 fun k y hy e => ?_, g.arm h hx (by simp) (by omega) (by have := h.wh.wi.nw; have := g.wn; omega) (v.tn + 1) F, ?_, rfl, rfl, ?_, rfl, rfl, by simp, hnx, rfl⟩ rfl rfl
      · rcases own' y ⟨k, hy⟩ with h | h
        · exact hnb b (by omega) (e ▸ h)
        · omega
      · rcases own' y ⟨k, hy⟩ with h | h
        · exact hnb t (by omega) (e ▸ h)
        · omega
      · have g5 : aF w w5 (dP A v.L) := x4.fr f5
        refine ⟨Nat.le_trans g5.size f58.size, fun y hy hn => ?_, ?_⟩
        · rw [f58.same y (Nat.lt_of_lt_of_le hy g5.size) (by omega), g5.same y hy hn]
        · exact ⟨f58.io.1.trans g5.io.1, f58.io.2.1.trans g5.io.2.1, f58.io.2.2.trans g5.io.2.2⟩
      · intro y hy
        rcases own' y hy with h | h
        · exact .inl h
        · exact .inr (by have := x4.size; omega)
    clear_value J2
    simp only [bF.v] at rx
    have rxd := rx.drew
    have r1d := r1.drew
    cases q with
    | true =>
      have hq := hq.1 rfl
      simp only [cond_true, sx, r1d.cell, rxd.cell]
      by_cases he : o0 = x.b.opr ∧ o1 = x.b.oad ∧ o2 = x.b.opo
      · have : ((o0 == x.b.opr) && ((o1 == x.b.oad) && ((o2 == x.b.opo) && true))) = true := by simp [he]
        rw [this]
        exact hJf _ (Ext.drew w3) fun hh => hh.2 he
      · have : ((o0 == x.b.opr) && ((o1 == x.b.oad) && ((o2 == x.b.opo) && true))) = false := by
          rw [Bool.eq_false_iff]
          intro hh
          exact he (by simpa using hh)
        rw [this]
        exact hJt _ (Ext.drew w3) hq he
    | false =>
      simp only [cond_false]
      exact hJf _ (Ext.drew w3) fun hh => by have := hq.2 hh.1; cases this
  clear_value J
  simp only [sx, r1.cell]
  by_cases h1' : o1 = 0
  · have : (o1 != 0) = false := by rw [bne_eq_false_iff_eq]; exact h1'
    rw [this, cond_false]
    refine hJ _ ?_
    rw [bne_iff_ne]
    exact ⟨fun h => .inr h, fun h => h.resolve_left fun hn => hn h1'⟩
  · have : (o1 != 0) = true := by rw [bne_iff_ne]; exact h1'
    rw [this, cond_true]
    exact hJ true ⟨fun _ => .inl h1', fun _ => rfl⟩
end Go.Proofs.PS
end
