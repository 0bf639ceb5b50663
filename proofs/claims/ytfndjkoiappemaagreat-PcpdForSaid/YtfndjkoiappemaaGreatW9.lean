import Derived.Test.YtfndjkoiappemaaGreatW8
import Derived.Shelf.SlSortCmp.WholeK
import Derived.Test.YtfndjkoiappemaaGreatW4
import Derived.Test.YtfndjkoiappemaaGreatW3
section
namespace Go.Proofs.WN
open Gp Gp.Wh
set_option maxRecDepth 100000
theorem Vw : ∀ {a b : List Int}, a.Nodup -> (∀ x ∈ a, x ∈ b) -> a.length <= b.length
  | [], _, _, _ => by simp
  | x :: a, b, h, hs => by
    rw [List.nodup_cons] at h
    have hx := hs x (by simp)
    have := Vw (b := b.erase x) h.2 fun y hy => by
      have hne : y ≠ x := fun e => h.1 (e ▸ hy)
      exact (List.mem_erase_of_ne hne).2 (hs y (by simp [hy]))
    rw [List.length_erase_of_mem hx] at this
    have := List.length_pos_of_mem hx
    simp only [List.length_cons]; omega
theorem aaO {l : PL} {id : Int} {t : Tm} (h : d_ l id = some t) : id ∈ l.map (·.1) := by
  refine Classical.byContradiction fun hn => ?_
  rw [nK.2 hn] at h; cases h
theorem WI.short {now : Nat} {P : Ps} {F : Fs} {l : PL} (h : WI now P F) (hs : ∀ id t, P id = some t -> d_ l id = some t) {n k : Nat} (hn : n < 7) (hk : k < 64) : (F n k).length <= l.length := by
  have := Vw (b := l.map (·.1)) (h.nd n k hn hk) fun x hx => by
    obtain ⟨t, ht, rfl⟩ := List.mem_map.1 hx
    exact aaO (hs _ _ ((h.mem n k t hn hk).1 ht).1)
  simpa using this
section
variable {w w' : World} {d m : Nat} {ss : List ah} {l : PL} {now : Nat} {tn most : Int} {F : Fs}
theorem XP (h : WM w d m ss l now tn most F) (hi : WI now (d_ l) F) : jf (some ⟨d, 0, none⟩) w fun r t w' => Ext w w' ∧
    ((t = false ∧ ∀ id, d_ l id = none) ∨ (t = true ∧ ∃ u, d_ l u.id = some u ∧ r = (u.a : Int) ∧ now <= u.a ∧ ∀ id v, d_ l id = some v -> u.a <= v.a)) := by
  apply Ea
  refine aG (fun st W => W = w ∧ ∃ n : Nat, n <= 7 ∧ st.1 = (n : Int) ∧ ∀ n' k', n' < n -> k' < 64 -> dg now n' <= k' -> F n' k' = []) (fun st _ => 7 - st.1.toNat) ⟨rfl, 0, by omega, rfl, fun n' k' hn => by omega⟩ ?_
  rintro ⟨i, ⟨⟩⟩ W ⟨rfl, n, hn, hin, he⟩ next hnext
  simp only at hin
  subst hin
  by_cases hlt : (n : Int) < 7
  · rw [decide_eq_true hlt, cond_true]
    have hn7 : n < 7 := by omega
    obtain ⟨e1, e2⟩ := X0 (a := now) hn7
    simp only [sx, h.QO]
    rw [e1, e2]
    refine ⟨by omega, ?_⟩
    have hd := wG now n
    refine aG (fun st W' => W' = W ∧ ∃ k : Nat, k <= 64 ∧ dg now n <= k ∧ st.1 = (k : Int) ∧ ∀ k', k' < k -> dg now n <= k' -> F n k' = []) (fun st _ => 64 - st.1.toNat) ⟨rfl, dg now n, by omega, Nat.le_refl _, rfl, fun k' h1 h2 => by omega⟩ ?_
    rintro ⟨i, ⟨⟩⟩ W' ⟨rfl, k, hk, hdk, hik, hek⟩ next' hnext'
    simp only at hik
    subst hik
    by_cases hlk : (k : Int) < 64
    · rw [decide_eq_true hlk, cond_true]
      have hk6 : k < 64 := by omega
      obtain ⟨s, hs, hb⟩ := h.buf n k hn7 hk6
      have hsm := h.sm n k hn7 hk6
      simp only [au, aI, Int.toNat_natCast, Nat.mul_one, h.cs hs]
      refine ⟨by omega, by omega, by omega, by omega, ?_⟩
      have hbl := hb.len
      by_cases hz : F n k = []
      · have : ¬ ((s.len : Int) > 0) := by rw [hbl, hz]; simp
        rw [decide_eq_false this, cond_false]
        rw [wrap_i64 (by omega) (by omega)]
        refine hnext' _ _ ⟨rfl, k + 1, by omega, by omega, by simp, fun k' h1 h2 => ?_⟩ (by simp only; omega)
        rcases Nat.lt_or_ge k' k with g | g
        · exact hek k' g h2
        · have : k' = k := by omega
          rw [this]; exact hz
      · have hpos := List.length_pos_iff.2 hz
        have : ((s.len : Int) > 0) := by omega
        rw [decide_eq_true this, cond_true]
        refine lG (abb (hb.sl iE (by omega)) (by omega) hz) ?_
        rintro r0 r1 r2 w3 ⟨f3, t, ht, rfl, hmin⟩
        obtain ⟨g1, g2, g3⟩ := hi.next hn7 hk6 he hek ht hmin
        exact ⟨f3, .inr ⟨by trivial, t, g1, rfl, g2, g3⟩⟩
    · rw [decide_eq_false hlk, cond_false]
      rw [wrap_i64 (by omega) (by omega)]
      have : k = 64 := by omega
      subst this
      refine hnext _ _ ⟨rfl, n + 1, by omega, by simp, fun n' k' h1 h2 h3 => ?_⟩ (by simp only; omega)
      rcases Nat.lt_or_ge n' n with g | g
      · exact he n' k' g h2 h3
      · have : n' = n := by omega
        subst this
        exact hek k' h2 h3
  · rw [decide_eq_false hlt, cond_false]
    have : n = 7 := by omega
    subst this
    exact ⟨Ext.refl _, .inl ⟨rfl, fun id => hi.none he id⟩⟩
theorem WY {F : Fs} {n k : Nat} (h : F n k = []) : qQ F n k [] = F := by
  funext n' k'
  unfold qQ
  split
  · rename_i e; rw [e.1, e.2, h]
  · rfl
theorem TY (h : WM w d m ss l now tn most F) (hi : WI now (d_ l) F) {to : Nat} (h1 : now <= to) (h2 : to <= 2 ^ 40) (hto : ∀ id u, d_ l id = some u -> to <= u.a) (hl : l.length <= 2 ^ 20) :
    fF (some ⟨d, 0, none⟩) (to : Int) w fun w' => aF w w' (jl d m ss) ∧ ∃ ss' F', WM w' d m ss' l to tn most F' ∧ WI to (d_ l) F' ∧ ∀ b, jl d m ss' b -> jl d m ss b ∨ w.heap.size <= b := by
  apply AB
  simp only [sx, h.QO]
  refine BM (Tv hi.nw h2 w) ?_
  rintro r w1 ⟨⟨v, rfl, hlv⟩, hw⟩
  subst hw
  have hv7 := hlv.lt hi.nw h2
  have low := fun {n k : Nat} => hi.low (n := n) (k := k) h1 hto hlv
  have hdv := wG to v
  have hmv : (F v (dg to v)).length <= 2 ^ 20 := Nat.le_trans (WI.short hi (fun _ _ e => e) hv7 hdv) hl
  refine aG (fun st W => ∃ j ss', j <= v ∧ st.2.1 = (j : Int) ∧ dn 3 eT W st.1 (if j < v then F v (dg to v) else []) ∧ (∀ b, ah.at st.1 b -> w1.heap.size <= b) ∧ (∀ b, jl d m ss' b -> jl d m ss b) ∧ aF w1 W (jl d m ss) ∧
      WM W d m ss' l now tn most (if j < v then qQ F v (dg to v) [] else F)) (fun st _ => st.2.1.toNat)
    ⟨v, ss, Nat.le_refl _, rfl, by rw [if_neg (by omega)]; exact dn.nil, (fun b ⟨o, hb⟩ => by cases hb), fun b hb => hb, aF.refl _ _, by rw [if_neg (by omega)]; exact h⟩ ?_
  rintro ⟨mv, i, ⟨⟩⟩ W ⟨j, ss', hj, hij, hbm, hnm, hsub, hf, hW⟩ next hnext
  simp only at hij hbm hnm
  subst hij
  have mvd : ∀ b, ah.at mv b -> ¬ jl d m ss' b := fun b hb hx => by have := h.lt (hsub b hx); have := hnm b hb; omega
  by_cases hpos : (j : Int) > 0
  · rw [decide_eq_true hpos, cond_true]
    have hj7 : j < 7 := by omega
    obtain ⟨e1, e2⟩ := X0 (a := to) hj7
    have hd := wG to j
    have hWd := hW.ext (Ext.drew W)
    obtain ⟨s, hs, hb⟩ := hWd.buf j (dg to j) hj7 hd
    rw [e1, e2]
    simp only [au, aI, Int.toNat_natCast, Nat.mul_one, hWd.cs hs]
    refine ⟨by omega, by omega, by omega, by omega, by omega, ?_⟩
    have hslot : (if j < v then qQ F v (dg to v) [] else F) j (dg to j) = if j < v then [] else F v (dg to v) := by
      by_cases hjv : j < v
      · rw [if_pos hjv, if_pos hjv]
        unfold qQ
        rw [if_neg (by omega)]
        exact low hjv hj7 hd
      · have : j = v := by omega
        subst this
        rw [if_neg hjv, if_neg hjv]
    rw [hslot] at hb
    refine iU iE (hbm.ext (Ext.drew W)) (hb.sl iE (by omega)) rfl (by omega) P9 (by split <;> simp only [List.length_nil] <;> omega) (by split <;> simp only [List.length_nil] <;> omega) fun s4 w4 b4 f4 n4 => ?_
    have hall : (if j < v then F v (dg to v) else []) ++ (if j < v then [] else F v (dg to v)) = F v (dg to v) := by split <;> simp
    rw [hall] at b4
    have hWz : W.drew.heap.size = W.heap.size := rfl
    have hfz := hf.size
    have f4' : ∀ b, jl d m ss' b -> ah.at mv b -> ah.at s b := fun b hx hb => absurd hx (mvd b hb)
    refine hWd.ZN hj7 hd hs (s' := ⟨none, 0, 0⟩) (L := []) f4 f4' dn.nil (fun b ⟨o, hb⟩ => by cases hb) (by simp) fun w5 h5 f5 z5 => ?_
    have hF : qQ (if j < v then qQ F v (dg to v) [] else F) j (dg to j) [] = if j - 1 < v then qQ F v (dg to v) [] else F := by
      by_cases hjv : j < v
      · rw [if_pos hjv, if_pos (by omega)]
        exact WY (by rw [<- if_pos (c := j < v) hjv (t := qQ F v (dg to v) []) (e := F), hslot, if_pos hjv])
      · have : j = v := by omega
        subst this
        rw [if_neg hjv, if_pos (by omega)]
    rw [hF] at h5
    have hf4 : aF w1 w4 (jl d m ss) := (hf.ext (Ext.drew W)).trans f4 fun b hb1 hb2 => by have := hnm b hb2; omega
    rw [wrap_i64 (by omega) (by omega)]
    refine hnext _ _ ⟨j - 1, _, by omega, by simp only; omega, ?_, ?_, ?_, hf4.trans f5 fun b _ e => .inl e, h5⟩ (by simp only; omega)
    · simp only
      rw [if_pos (show j - 1 < v by omega)]
      refine b4.fr f5 fun b hb e => ?_
      have hdl := h.lt (.inl rfl : jl d m ss d)
      rcases n4 b hb with g | g
      · have := hnm b g; omega
      · have : W.drew.heap.size <= b := g
        omega
    · simp only
      intro b hb
      rcases n4 b hb with g | g
      · exact hnm b g
      · have : W.drew.heap.size <= b := g
        omega
    · rintro b (hb | hb | ⟨q, u, hq, hu⟩)
      · exact .inl hb
      · exact .inr (.inl hb)
      · rw [List.getElem?_set] at hq
        split at hq
        · split at hq
          · cases hq; obtain ⟨o, ho⟩ := hu; cases ho
          · cases hq
        · exact hsub b (.inr (.inr ⟨q, u, hq, hu⟩))
  · rw [decide_eq_false hpos, cond_false]
    have : j = 0 := by omega
    subst this
    have hturn := hi.turn h1 h2 hto hlv
    have eM : (if 0 < v then F v (dg to v) else []) = if v = 0 then [] else F v (dg to v) := by
      by_cases hz : v = 0
      · rw [if_pos hz, if_neg (by omega)]
      · rw [if_neg hz, if_pos (by omega)]
    have eF : (if 0 < v then qQ F v (dg to v) [] else F) = if v = 0 then F else qQ F v (dg to v) [] := by
      by_cases hz : v = 0
      · rw [if_pos hz, if_neg (by omega)]
      · rw [if_neg hz, if_pos (by omega)]
    rw [eM] at hbm
    rw [eF] at hW
    have hMF : ∀ t ∈ (if v = 0 then [] else F v (dg to v)), t ∈ F v (dg to v) := fun t ht => by
      split at ht
      · simp at ht
      · exact ht
    have hMn : ((if v = 0 then [] else F v (dg to v)).map Tm.id).Nodup := by
      split
      · simp
      · exact hi.nd v _ hv7 hdv
    have hMl : (if v = 0 then [] else F v (dg to v)).length <= 2 ^ 20 := by
      split
      · simp
      · exact hmv
    generalize (if v = 0 then [] else F v (dg to v)) = Mv at hbm hturn hMF hMn hMl
    generalize (if v = 0 then F else qQ F v (dg to v) []) = F1 at hW hturn
    simp only []
    refine hW.aaV to fun w5 h5 f5 z5 => ?_
    have hdl := h.lt (.inl rfl : jl d m ss d)
    have hbm5 := hbm.fr f5 fun b hb e => by have := hnm b hb; omega
    have hf5 : aF w1 w5 (jl d m ss) := hf.trans f5 fun b _ e => .inl e
    have mlt : ∀ b, ah.at mv b -> b < w5.heap.size := fun b hb => hbm5.lt hb
    have mlen := hbm.len
    refine aG (fun st W' => ∃ i ss2 F2, i <= Mv.length ∧ st.1 = (i : Int) ∧ WM W' d m ss2 l to tn most F2 ∧ WI to (rest (d_ l) (Mv.drop i)) F2 ∧ dn 3 eT W' mv Mv ∧ aF w1 W' (jl d m ss) ∧ (∀ b, jl d m ss2 b -> jl d m ss b ∨ w5.heap.size <= b) ∧ w5.heap.size <= W'.heap.size) (fun st _ => Mv.length - st.1.toNat)
      ⟨0, ss', F1, by omega, rfl, h5, by simpa using hturn, hbm5, hf5, fun b hb => .inl (hsub b hb), Nat.le_refl _⟩ ?_
    rintro ⟨i, ⟨⟩⟩ W' ⟨i, ss2, F2, hin, hii, hW', hI', hbW, hfW, hsub2, hsz⟩ next' hnext'
    simp only at hii
    subst hii
    by_cases hlt : (i : Int) < (mv.len : Int)
    · rw [decide_eq_true hlt, cond_true]
      have hlt' : i < Mv.length := by omega
      have hx := List.getElem?_eq_getElem hlt'
      have hdr := List.drop_eq_getElem_cons hlt'
      generalize Mv[i] = t at hx hdr
      refine OA (hbW.sl iE (by omega)) hx fun a c0 c1 c2 => ?_
      simp only [au, aC, c0, c1, c2]
      refine yG rfl rfl fun p w6 r6 e6 z6 f6 => ?_
      simp only [sx, r6.cell]
      have h6 := hW'.ext f6
      have hmem := hMF t (List.mem_of_getElem? hx)
      have hp := ((hi.mem v _ t hv7 hdv).1 hmem).1
      have hpl := hi.pl _ _ hp
      have hrs : ∀ id u, rest (d_ l) (Mv.drop i) id = some u -> d_ l id = some u := fun id u hu => (qH.1 hu).1
      refine wO (VH h6 h2 t hpl.2.2 fun n k hn hk => by have := WI.short hI' hrs hn hk; omega) ?_
      rintro w7 ⟨f7, n, ss3, hn7, hln, h7, hsub3⟩
      have mvd2 : ∀ b, ah.at mv b -> ¬ jl d m ss2 b := fun b hb hx => by
        rcases hsub2 b hx with g | g
        · have := h.lt g; have := hnm b hb; omega
        · have := mlt b hb; omega
      have hnn : rest (d_ l) (Mv.drop i) t.id = none := by
        unfold rest
        rw [hp, hdr]
        simp
      have hput := hI'.put hnn (hto _ _ hp) hpl.2.2 hln
      have htd : t ∉ Mv.drop (i + 1) := by
        intro hx2
        have hn2 := hMn.sublist ((List.drop_sublist i Mv).map Tm.id)
        rw [hdr, List.map_cons, List.nodup_cons] at hn2
        exact hn2.1 (List.mem_map.2 ⟨t, hx2, rfl⟩)
      rw [hdr, WG hp (fun id u hu => (hi.pl id u hu).1) htd] at hput
      rw [wrap_i64 (by omega) (by omega)]
      have s6 := f6.size
      have s7 := f7.size
      refine hnext' _ _ ⟨i + 1, ss3, _, by omega, by simp, h7, hput, (hbW.ext f6).fr f7 fun b hb hx => mvd2 b hb hx, (hfW.ext f6).trans f7 fun b hb hx => ?_, fun b hb => ?_, by omega⟩ (by simp only; omega)
      · rcases hsub2 b hx with g | g
        · exact g
        · have := hf5.size; omega
      · rcases hsub3 b hb with g | g
        · exact hsub2 b g
        · exact .inr (by omega)
    · rw [decide_eq_false hlt, cond_false]
      have : i = Mv.length := by omega
      subst this
      rw [List.drop_length, YT] at hI'
      exact ⟨hfW, ss2, F2, hW', hI', fun b hb => by
        rcases hsub2 b hb with g | g
        · exact .inl g
        · exact .inr (by have := hf5.size; omega)⟩
structure WS (w : World) (d m : Nat) (ss : List ah) (l : PL) (now : Nat) (tn most : Int) (F : Fs) : Prop where
  wm : WM w d m ss l now tn most F
  wi : WI now (d_ l) F
  mo : most <= 1048576 ∧ (l.length : Int) <= most
  tb : ∀ id t, d_ l id = some t -> t.tn <= tn
  ti : ∀ id id' t u, d_ l id = some t -> d_ l id' = some u -> t.tn = u.tn -> id = id'
  t0 : 0 <= tn
theorem WS.ext (h : WS w d m ss l now tn most F) (hf : Ext w w') : WS w' d m ss l now tn most F := ⟨h.wm.ext hf, h.wi, h.mo, h.tb, h.ti, h.t0⟩
theorem WS.fr {S : Nat -> Prop} (h : WS w d m ss l now tn most F) (hf : aF w w' S) (hs : ∀ b, jl d m ss b -> ¬ S b) : WS w' d m ss l now tn most F := ⟨h.wm.fr hf hs, h.wi, h.mo, h.tb, h.ti, h.t0⟩
def Qo (l : PL) (most id at_ : Int) : Int := if id < 0 ∨ id > 2147483648 ∨ at_ < 0 ∨ at_ > 1099511627776 then 1 else if d_ l id = none ∧ most <= (l.length : Int) then 7 else 0
theorem aa_ (l : PL) (a : Int) (b : Tm) : ((BG l a b).length : Int) = if d_ l a = none then (l.length : Int) + 1 else l.length := by
  have := congrArg List.length (Pj l a b)
  rw [List.length_map] at this
  by_cases hm : a ∈ l.map (·.1)
  · rw [if_pos hm, List.length_map] at this
    rw [if_neg (by rw [nK]; simpa using hm), this]
  · rw [if_neg hm, List.length_append, List.length_map, List.length_singleton] at this
    rw [if_pos (nK.2 hm), this]; omega
theorem abv (l : PL) (t : Tm) : d_ (BG l t.id t) = yN (d_ l) t.id (some t) := by
  funext id
  rw [Ai]; rfl
theorem aao (h : WS w d m ss l now tn most F) (id at_ : Int) (ht : tn < 2 ^ 62) :
    g_ (some ⟨d, 0, none⟩) id at_ w fun e w' => e = Qo l most id at_ ∧ aF w w' (jl d m ss) ∧
      ∃ ss' F', (∀ b, jl d m ss' b -> jl d m ss b ∨ w.heap.size <= b) ∧
        WS w' d m ss' (if Qo l most id at_ = 0 then BG l id ⟨id, max at_.toNat now, tn + 1⟩ else l) now (if Qo l most id at_ = 0 then tn + 1 else tn) most F' := by
  apply FC
  have hm := h.mo
  have hnw := h.wi.nw
  refine gZ (zq h.wm) ?_
  rintro _ w2 ⟨rfl, hw⟩
  subst hw
  simp -zeta only [Bool.not_true, cond_false]
  intro J6
  have h6t : (id < 0 ∨ id > 2147483648 ∨ at_ < 0 ∨ at_ > 1099511627776) -> J6 true := by
    intro hbad
    have e : Qo l most id at_ = 1 := by unfold Qo; rw [if_pos hbad]
    simp only [J6, cond_true]
    rw [e]
    exact ⟨by trivial, aF.refl _ _, ss, F, fun b hb => .inl hb, h⟩
  have h6f : ¬ (id < 0 ∨ id > 2147483648 ∨ at_ < 0 ∨ at_ > 1099511627776) -> J6 false := by
    intro hok
    have eA : Qo l most id at_ = if d_ l id = none ∧ most <= (l.length : Int) then 7 else 0 := by unfold Qo; rw [if_neg hok]
    simp only [not_or] at hok
    simp -zeta only [sx, J6, h.wm.Qw]
    have key : ∀ (K : Value -> Bool -> Prop), (∀ v b, (∃ t0 : Tm, v = .agg ⟨eT t0⟩ ∧ ∀ t, d_ l id = some t -> t0 = t) -> b = (d_ l id).isSome -> K v b) -> xG Tryz.prog 3 (some m) (.int .i64 id) (.agg ⟨[.int .i64 0, .int .i64 0, .int .i64 0]⟩) w2 K := by
      intro K hh
      refine Dw (enc := JR) h.wm.mp eqW id (Vb id) (fun hl => hh _ _ ⟨⟨0, 0, 0⟩, rfl, fun t ht => by rw [hl] at ht; cases ht⟩ (by rw [hl]; rfl)) (fun b hl => hh _ _ ⟨b, rfl, fun t ht => by rw [hl] at ht; cases ht; rfl⟩ (by rw [hl]; rfl))
    refine key _ ?_
    rintro _ b11 ⟨t0, rfl, ht0⟩ hb11
    refine ⟨t0.id, (t0.a : Int), t0.tn, rfl, yG rfl rfl fun p w3 r3 e3 z3 f3 => ?_⟩
    have hw3 := h.wm.ext f3
    intro J18
    have h18t : d_ l id = none ∧ most <= (l.length : Int) -> ∀ W, Ext w2 W -> J18 true W := by
      intro hfull W hx
      rw [if_pos hfull] at eA
      simp only [J18, cond_true]
      rw [eA]
      exact ⟨by trivial, hx _, ss, F, fun b hb => .inl hb, h.ext hx⟩
    have h18f : ¬ (d_ l id = none ∧ most <= (l.length : Int)) -> ∀ W, Ext w3 W -> J18 false W := by
      intro hroom W hx
      rw [if_neg hroom] at eA
      simp -zeta only [J18, cond_false]
      intro J21
      have h21 : ∀ W1 ss1 F1, WM W1 d m ss1 l now tn most F1 -> WI now (yN (d_ l) id none) F1 -> aF w2 W1 (jl d m ss) -> (∀ b, jl d m ss1 b -> jl d m ss b ∨ w2.heap.size <= b) -> J21 W1 := by
        intro W1 ss1 F1 g1 g2 g3 g4
        have htn0 := h.t0
        simp only [J21, au, aC, g1.abn]
        rw [wrap_i64 (n := tn + 1) (by omega) (by omega)]
        refine g1.abL (tn + 1) fun w4 h4 f4 z4 => ?_
        have h4d := h4.ext (Ext.drew w4)
        simp only [au, aC, h4d.QO, h4d.abn]
        refine aN fun q w5 r5 e5 z5 f5 => ?_
        have h5 := h4d.ext f5
        simp only [sx, true_and, h5.QO, h5.abn]
        refine aQ r5 rfl rfl fun w6 r6 f6 z6 => ?_
        have f6q := f6 (· = q) rfl
        have hq : ∀ b, jl d m ss1 b -> b ≠ q := fun b hb => by have := h4d.lt hb; omega
        have h6 := (h5.fr f6q hq).ext (Ext.drew w6)
        have r6d := r6.drew
        simp only [List.getElem?_cons_zero, List.getElem?_cons_succ, au, aC, QI, h6.Qw, r6d.cell]
        have emax : (if (now : Int) > at_ then (now : Int) else at_) = ((max at_.toNat now : Nat) : Int) := by
          split <;> omega
        have hT : (Value.agg ⟨[.int .i64 id, .int .i64 (if (now : Int) > at_ then (now : Int) else at_), .int .i64 (tn + 1)]⟩ : Value) = .agg ⟨eT ⟨id, max at_.toNat now, tn + 1⟩⟩ := by rw [emax]
        rw [hT]
        refine h6.acw ⟨id, max at_.toNat now, tn + 1⟩ fun w7 h7 f7 z7 => ?_
        have hqm : m ≠ q := hq m (.inr (.inl rfl))
        have r7 := r6d.fr f7 (fun e => hqm e.symm)
        simp only [List.getElem?_cons_zero, List.getElem?_cons_succ, au, aC, r7.cell]
        rw [emax]
        have hamax : max at_.toNat now <= 2 ^ 40 := by omega
        have hsub0 : ∀ id' t, yN (d_ l) id none id' = some t -> d_ l id' = some t := fun id' t hu => by
          unfold yN at hu
          split at hu
          · cases hu
          · exact hu
        refine wO (VH h7 hnw ⟨id, max at_.toNat now, tn + 1⟩ hamax fun n k hn hk => by have := WI.short g2 hsub0 hn hk; omega) ?_
        rintro w8 ⟨f8, n, ss8, hn, hln, h8, hs8⟩
        have hp := g2.put (t := ⟨id, max at_.toNat now, tn + 1⟩) (by unfold yN; simp) (by simp only; omega) hamax hln
        have eP : yN (yN (d_ l) id none) id (some ⟨id, max at_.toNat now, tn + 1⟩) = d_ (BG l id ⟨id, max at_.toNat now, tn + 1⟩) := by
          rw [abv l ⟨id, max at_.toNat now, tn + 1⟩]
          funext id'
          unfold yN
          split <;> rfl
        rw [eP] at hp
        have f18 : aF W1 w8 (jl d m ss1) := ((((((f4.mono (S' := jl d m ss1) fun b e => .inl e).ext (Ext.drew w4)).ext f5).trans f6q fun b hb e => by
            have h1z := f4.size
            have h2z : w4.drew.heap.size = w4.heap.size := rfl
            omega).ext (Ext.drew w6)).trans f7 fun b hb e => .inr (.inl e)).trans f8 fun b _ hb => hb
        have f28 : aF w2 w8 (jl d m ss) := g3.trans f18 fun b hb hb2 => by
          rcases g4 b hb2 with e | e
          · exact e
          · omega
        have s7 : w2.heap.size <= w7.heap.size := by
          have a1 := g3.size
          have a2 := f4.size
          have a3 := f5.size
          have a4 := f6q.size
          have a5 := f7.size
          have a6 : w4.drew.heap.size = w4.heap.size := rfl
          have a7 : w6.drew.heap.size = w6.heap.size := rfl
          omega
        obtain ⟨F8, h8, hp⟩ : ∃ F8, WM w8 d m ss8 (BG l id ⟨id, max at_.toNat now, tn + 1⟩) now (tn + 1) most F8 ∧ WI now (d_ (BG l id ⟨id, max at_.toNat now, tn + 1⟩)) F8 := ⟨_, h8, hp⟩
        refine ⟨eA.symm, f28, ss8, F8, fun b hb => ?_, ?_⟩
        · rcases hs8 b hb with e | e
          · exact g4 b e
          · exact .inr (by omega)
        · rw [eA, if_pos rfl, if_pos rfl]
          refine ⟨h8, hp, ⟨hm.1, ?_⟩, fun id' u hu => ?_, fun i1 i2 u1 u2 q1 q2 q3 => ?_, by omega⟩
          · rw [aa_]
            split
            · rename_i hn
              have : ¬ most <= (l.length : Int) := fun e => hroom ⟨hn, e⟩
              omega
            · exact hm.2
          · rw [Ai] at hu
            split at hu
            · cases hu; exact Int.le_refl _
            · have := h.tb id' u hu; omega
          · rw [Ai] at q1 q2
            split at q1
            · rename_i e1
              split at q2
              · rename_i e2; rw [e1, e2]
              · cases q1
                have := h.tb _ _ q2
                simp only at q3; omega
            · split at q2
              · cases q2
                have := h.tb _ _ q1
                simp only at q3; omega
              · exact h.ti _ _ _ _ q1 q2 q3
      clear_value J21
      have hW := hw3.ext hx
      have rW := r3.ext hx
      have xW := f3.trans hx
      cases hlk : d_ l id with
      | none =>
        rw [hlk] at hb11
        rw [hb11, Option.isSome_none, cond_false]
        refine h21 W ss F hW ?_ (xW _) fun b hb => .inl hb
        have : yN (d_ l) id none = d_ l := by
          funext id'
          unfold yN
          split
          · rename_i e; rw [e, hlk]
          · rfl
        rw [this]; exact h.wi
      | some t =>
        rw [hlk] at hb11
        have := ht0 t hlk
        subst this
        obtain ⟨p1, p2, p3⟩ := h.wi.pl id t0 hlk
        rw [hb11, Option.isSome_some, cond_true]
        simp only [sx, rW.cell]
        refine uV (SH hW hnw t0 p3) ?_
        rintro w4 ⟨f4, n, ss4, hn, hln, h4, hs4⟩
        have htk := h.wi.take hlk hln
        rw [p1] at h4
        exact h21 w4 ss4 _ h4 htk ((xW _).trans f4 fun b _ e => e) fun b hb => by
          rcases hs4 b hb with e | e
          · exact .inl e
          · exact .inr (Nat.le_trans xW.size e)
    clear_value J18
    cases hlk : d_ l id with
    | none =>
      rw [hlk] at hb11
      rw [hb11, Option.isSome_none, Bool.not_false, cond_true]
      have hw3d := hw3.ext (Ext.drew w3)
      simp only [au, aC, QI, hw3d.Qw, hw3d.acz]
      refine Nj hw3d.mp ⟨by trivial, ?_⟩
      by_cases hful : (l.length : Int) >= most
      · rw [decide_eq_true hful]; exact h18t ⟨hlk, hful⟩ _ (f3.trans (Ext.drew w3))
      · rw [decide_eq_false hful]; exact h18f (fun e => hful e.2) _ (Ext.drew w3)
    | some t =>
      rw [hlk] at hb11
      rw [hb11, Option.isSome_some, Bool.not_true, cond_false]
      exact h18f (fun e => by rw [hlk] at e; cases e.1) _ (Ext.drew w3)
  clear_value J6
  by_cases c1 : id < 0
  · rw [decide_eq_true c1, cond_true]; exact h6t (.inl c1)
  · rw [decide_eq_false c1, cond_false]
    by_cases c2 : id > 2147483648
    · rw [decide_eq_true c2, cond_true]; exact h6t (.inr (.inl c2))
    · rw [decide_eq_false c2, cond_false]
      by_cases c3 : at_ < 0
      · rw [decide_eq_true c3, cond_true]; exact h6t (.inr (.inr (.inl c3)))
      · rw [decide_eq_false c3, cond_false]
        by_cases c4 : at_ > 1099511627776
        · rw [decide_eq_true c4]; exact h6t (.inr (.inr (.inr c4)))
        · rw [decide_eq_false c4]; exact h6f (by omega)
end
end Go.Proofs.WN
end
section
namespace Go.Proofs.WN
open Gp Gp.Wh
set_option maxRecDepth 100000
def XW : Go.Shelf.Ren := ⟨fun | 6 => 205 | 15 => 123 | 14 => 256 | 28 => 229 | 29 => 230 | 20 => 268 | 21 => 269 | 22 => 270 | 23 => 271 | 24 => 272 | 25 => 273 | 26 => 274 | 27 => 275 | 46 => 277 | 47 => 261 | 48 => 262 | 49 => 278 | 50 => 279 | 57 => 280 | n => n, fun | 22 => 211 | 24 => 237 | 25 => 313 | 3 => 3 | 39 => 250 | 0 => 0 | 53 => 337 | 55 => 339 | 4 => 4 | 46 => 331 | 45 => 330 | 50 => 218 | 5 => 5 | 9 => 9 | 66 => 359 | 70 => 363 | 76 => 371 | 77 => 372 | n => n, fun | n => n⟩
theorem acy : SlLaysF0.n6 Tryz.prog XW := {
  mixed := by kernel_rfl,
  f6 := ⟨Tryz.f205.name, by decide, Tryz.func205.trans (congrArg some (by kernel_rfl))⟩,
  f14 := ⟨Tryz.f256.name, by decide, Tryz.func256.trans (congrArg some (by kernel_rfl))⟩,
  f15 := Tryz.func123.trans (congrArg some (by kernel_rfl)),
  f20 := ⟨Tryz.f268.name, by decide, Tryz.func268.trans (congrArg some (by kernel_rfl))⟩,
  f21 := ⟨Tryz.f269.name, by decide, Tryz.func269.trans (congrArg some (by kernel_rfl))⟩,
  f22 := ⟨Tryz.f270.name, by decide, Tryz.func270.trans (congrArg some (by kernel_rfl))⟩,
  f23 := ⟨Tryz.f271.name, by decide, Tryz.func271.trans (congrArg some (by kernel_rfl))⟩,
  f24 := ⟨Tryz.f272.name, by decide, Tryz.func272.trans (congrArg some (by kernel_rfl))⟩,
  f25 := ⟨Tryz.f273.name, by decide, Tryz.func273.trans (congrArg some (by kernel_rfl))⟩,
  f26 := ⟨Tryz.f274.name, by decide, Tryz.func274.trans (congrArg some (by kernel_rfl))⟩,
  f27 := ⟨Tryz.f275.name, by decide, Tryz.func275.trans (congrArg some (by kernel_rfl))⟩,
  f28 := Tryz.func229.trans (congrArg some (by kernel_rfl)),
  f29 := Tryz.func230.trans (congrArg some (by kernel_rfl)),
  f46 := ⟨Tryz.f277.name, by decide, Tryz.func277.trans (congrArg some (by kernel_rfl))⟩,
  f47 := Tryz.func261.trans (congrArg some (by kernel_rfl)),
  f48 := Tryz.func262.trans (congrArg some (by kernel_rfl)),
  f49 := ⟨Tryz.f278.name, by decide, Tryz.func278.trans (congrArg some (by kernel_rfl))⟩,
  f50 := ⟨Tryz.f279.name, by decide, Tryz.func279.trans (congrArg some (by kernel_rfl))⟩,
  f57 := ⟨Tryz.f280.name, by decide, Tryz.func280.trans (congrArg some (by kernel_rfl))⟩,
  t0 := Tryz.underlying0,
  a0 := Tryz.isAgg0,
  z0 := Tryz.sizeOf0,
  v0 := Tryz.zeroValue0,
  t3 := Tryz.underlying3,
  a3 := Tryz.isAgg3,
  z3 := Tryz.sizeOf3,
  v3 := Tryz.zeroValue3,
  t4 := Tryz.underlying4,
  a4 := Tryz.isAgg4,
  z4 := Tryz.sizeOf4,
  v4 := Tryz.zeroValue4,
  t5 := Tryz.underlying5,
  a5 := Tryz.isAgg5,
  z5 := Tryz.sizeOf5,
  v5 := Tryz.zeroValue5,
  t9 := Tryz.underlying9,
  a9 := Tryz.isAgg9,
  z9 := Tryz.sizeOf9,
  v9 := Tryz.zeroValue9,
  t22 := Tryz.underlying211,
  a22 := Tryz.isAgg211,
  z22 := Tryz.sizeOf211,
  v22 := Tryz.zeroValue211,
  t25 := Tryz.underlying313,
  a25 := Tryz.isAgg313,
  z25 := Tryz.sizeOf313,
  v25 := Tryz.zeroValue313,
  t39 := Tryz.underlying250,
  a39 := Tryz.isAgg250,
  z39 := Tryz.sizeOf250,
  v39 := Tryz.zeroValue250,
  t45 := Tryz.underlying330,
  a45 := Tryz.isAgg330,
  z45 := Tryz.sizeOf330,
  v45 := Tryz.zeroValue330,
  t46 := Tryz.underlying331,
  a46 := Tryz.isAgg331,
  z46 := Tryz.sizeOf331,
  v46 := Tryz.zeroValue331,
  t50 := Tryz.underlying218,
  a50 := Tryz.isAgg218,
  z50 := Tryz.sizeOf218,
  v50 := Tryz.zeroValue218,
  t53 := Tryz.underlying337,
  a53 := Tryz.isAgg337,
  z53 := Tryz.sizeOf337,
  v53 := Tryz.zeroValue337,
  t55 := Tryz.underlying339,
  a55 := Tryz.isAgg339,
  z55 := Tryz.sizeOf339,
  v55 := Tryz.zeroValue339,
  t66 := Tryz.underlying359,
  a66 := Tryz.isAgg359,
  z66 := Tryz.sizeOf359,
  v66 := Tryz.zeroValue359,
  t70 := Tryz.underlying363,
  a70 := Tryz.isAgg363,
  z70 := Tryz.sizeOf363,
  v70 := Tryz.zeroValue363,
  t76 := Tryz.underlying371,
  a76 := Tryz.isAgg371,
  z76 := Tryz.sizeOf371,
  v76 := Tryz.zeroValue371,
  t77 := Tryz.underlying372,
  a77 := Tryz.isAgg372,
  z77 := Tryz.sizeOf372,
  v77 := Tryz.zeroValue372 }
namespace Srt
open Go.Shelf Go.RowKit Go.Lib Go.Sort
instance : Inhabited Tm := ⟨⟨0, 0, 0⟩⟩
theorem aar (t : Tm) : ∀ v ∈ eT t, v.oneCell' = true := by
  intro v hv
  simp only [eT, List.mem_cons, List.not_mem_nil, or_false] at hv
  rcases hv with rfl | rfl | rfl <;> rfl
def cfT (x y : Tm) : Int := PI x.tn y.tn
theorem aai (x y : Tm) : ltOf cfT x y = decide (x.tn < y.tn) := by
  unfold ltOf cfT PI
  by_cases h1 : x.tn < y.tn
  · simp [h1]
  · by_cases h2 : x.tn > y.tn <;> simp [h1, h2]
theorem swo : SWO (ltOf cfT) where
  irrefl x := by rw [aai]; simp
  trans x y z h1 h2 := by rw [aai] at *; simp at *; omega
  ntrans x y z h1 h2 := by rw [aai] at *; simp at *; omega
theorem closure (x y : Tm) (W : World) : oJ x.id x.a x.tn y.id y.a y.tn W fun r W' => r = cfT x y ∧ ∃ q os', W' = grow (W.drewN q) os' := by
  apply BZ
  unfold Al
  have r1 : Row (W.alloc (.cells ⟨eT x⟩ 237)) W.heap.size (eT x) := Row.new W (eT x) 237
  have x2 : Ext (W.alloc (.cells ⟨eT x⟩ 237)) ((W.alloc (.cells ⟨eT x⟩ 237)).alloc (.cells ⟨eT y⟩ 237)) := fun S => aF.alloc _ _ S
  have r2 := r1.ext x2
  have r3 : Row ((W.alloc (.cells ⟨eT x⟩ 237)).alloc (.cells ⟨eT y⟩ 237)) (W.alloc (.cells ⟨eT x⟩ 237)).heap.size (eT y) := Row.new _ (eT y) 237
  have c1 : ((W.alloc (.cells ⟨[.int .i64 x.id, .int .i64 (x.a : Int), .int .i64 x.tn]⟩ 237)).alloc (.cells ⟨[.int .i64 y.id, .int .i64 (y.a : Int), .int .i64 y.tn]⟩ 237)).cell? ⟨W.heap.size, 2, none⟩ = some (.int .i64 x.tn) := by
    have := r2.cell 2
    exact this
  have c2 : ((W.alloc (.cells ⟨[.int .i64 x.id, .int .i64 (x.a : Int), .int .i64 x.tn]⟩ 237)).alloc (.cells ⟨[.int .i64 y.id, .int .i64 (y.a : Int), .int .i64 y.tn]⟩ 237)).cell? ⟨(W.alloc (.cells ⟨[.int .i64 x.id, .int .i64 (x.a : Int), .int .i64 x.tn]⟩ 237)).heap.size, 2, none⟩ = some (.int .i64 y.tn) := by
    have := r3.cell 2
    exact this
  simp only [sx, c1, c2]
  refine wB (Ll _ _ _) ?_
  rintro r W3 ⟨rfl, hw⟩
  subst hw
  exact ⟨rfl, 0, _, by rw [alloc_eq_grow, alloc_eq_grow, grow_grow]; rfl⟩
theorem lays (blk off size : Nat) (w : World) : CmpLays Tryz.prog jO #[] eT 3 cfT blk off size w := by
  intro m os dk _ x y
  have h := closure x y (sortWorldK eT 3 w blk off m dk os)
  unfold oJ at h
  have e : (#[.agg (eT x).toArray, .agg (eT y).toArray] ++ #[] : Array Value) = ⟨[.agg ⟨eT x⟩, .agg ⟨eT y⟩]⟩ := by simp
  rw [e]
  refine Calls.mono h ?_
  rintro e W' ⟨r, he, rfl, hq⟩
  exact ⟨he, hq⟩
theorem OT (d : Array Tm) {j : Nat} (hj : j < d.size * 3) : (flatK eT 3 d)[j]! = (d.toList.flatMap eT)[j]?.getD default := by
  rw [get_flatK eT 3 d j hj]
  have hlt : j / 3 < d.size := by omega
  have e := flat_get eT 3 iE d.toList (j / 3) (j % 3) (Nat.mod_lt _ (by omega))
  rw [show j / 3 * 3 + j % 3 = j by omega] at e
  rw [e, Array.getElem?_toList, Array.getElem?_eq_getElem hlt, getElem!_pos d _ hlt, Option.bind_some]
  rw [List.getElem!_eq_getElem?_getD]
theorem Ja {l : List Tm} {j : Nat} (hj : j < l.length * 3) : (l.flatMap eT)[j]? = some ((l.flatMap eT)[j]?.getD default) := by
  have hl := dA eT 3 iE l
  rw [List.getElem?_eq_getElem (by omega)]; rfl
theorem holds {w : World} {b : Nat} {xs : List Tm} {pad : List Value} (hr : Row w b (xs.flatMap eT ++ pad)) : HoldsK eT 3 w b 0 xs.toArray := by
  intro j hj
  rw [size_flatK] at hj
  have hl := dA eT 3 iE xs
  simp only [List.size_toArray] at hj
  refine ⟨?_, hr.frozen _⟩
  rw [Nat.zero_add, hr.cell, List.getElem?_append_left (by omega), OT _ (by simpa using hj), List.toList_toArray]
  exact Ja hj
theorem row_of {w : World} {b n : Nat} {xs : List Tm} {pad : List Value} {d' : Array Tm} {os : Array Obj} (hr : Row w b (xs.flatMap eT ++ pad)) (hd : d'.size = xs.length) :
    Row (sortWorldK eT 3 w b 0 n d' os) b (d'.toList.flatMap eT ++ pad) ∧ aF w (sortWorldK eT 3 w b 0 n d' os) (· = b) := by
  obtain ⟨T, ht⟩ := hr
  have hb : b < w.heap.size := (Array.getElem?_eq_some_iff.1 ht).1
  have hl := dA eT 3 iE xs
  have hl' : (d'.toList.flatMap eT).length = d'.size * 3 := by rw [dA eT 3 iE, Array.length_toList]
  have hh : (sortWorldK eT 3 w b 0 n d' os).heap = w.heap.modify b (onCells (putCells id 0 (flatK eT 3 d'))) ++ os := rfl
  constructor
  · refine ⟨T, ?_⟩
    rw [hh, Array.getElem?_append_left (by simpa using hb), Array.getElem?_modify, if_pos rfl, ht]
    have : putCells id 0 (flatK eT 3 d') ⟨xs.flatMap eT ++ pad⟩ = ⟨d'.toList.flatMap eT ++ pad⟩ := by
      apply Array.ext_getElem?
      intro k
      unfold putCells
      rw [Array.getElem?_mapIdx]
      simp only [size_flatK, Nat.zero_le, true_and, Nat.zero_add, Nat.sub_zero, id_eq, List.getElem?_toArray]
      by_cases hk : k < d'.size * 3
      · rw [List.getElem?_append_left (by omega), List.getElem?_append_left (by omega), Ja (l := xs) (by omega), Option.map_some, if_pos hk, OT _ hk]
        exact (Ja (by rw [Array.length_toList]; exact hk)).symm
      · rw [List.getElem?_append_right (by omega), List.getElem?_append_right (by omega), hl, hl', hd]
        cases pad[k - xs.length * 3]? with
        | none => rfl
        | some v => rw [Option.map_some, if_neg (by rw [<- hd]; exact hk)]
    simp only [Option.map_some, onCells, this]
  · refine ⟨?_, fun c hc hcb => ?_, ⟨rfl, rfl, rfl⟩⟩
    · rw [hh]; simp
    · rw [hh, Array.getElem?_append_left (by simpa using hc), Array.getElem?_modify, if_neg (fun e => hcb e.symm)]
end Srt
theorem abx (w : World) : jA (IntKind.u64.wrap ((0 : Nat) : Int)) w fun r w' => r = 0 ∧ w' = w := by
  apply I7
  have h : jF (IntKind.u64.wrap ((0 : Nat) : Int)) w fun r w' => r = 0 ∧ w' = w := by
    apply FB
    rw [show IntKind.u64.wrap ((0 : Nat) : Int) = 0 from rfl]
    simp only [show decide ((0 : Int) >= 4294967296) = false from rfl, show decide ((0 : Int) >= 65536) = false from rfl, show decide ((0 : Int) >= 256) = false from rfl, cond_false, show IntKind.u8.wrap 0 = 0 from rfl]
    exact ⟨0, by decide, rfl, rfl, by trivial⟩
  refine FQ h ?_
  rintro r w' ⟨rfl, hw⟩
  exact ⟨rfl, hw⟩
theorem abU (s : ah) (lim : Int) (v : Value) (w : World) : aU s 0 ((0 : Nat) : Int) lim v w fun w' => w' = w := by
  apply oO
  refine aG (fun st W => W = w ∧ st.1 = 0 ∧ st.2.1 = 0) (fun _ _ => 0) ⟨rfl, rfl, rfl⟩ ?_
  rintro ⟨a, b, c, d, e, ⟨⟩⟩ W ⟨rfl, ha, hb⟩ next hnext
  simp only at ha hb
  subst ha hb
  have : decide ((IntKind.i64.wrap ((0 : Int) - 0)) <= 12) = true := rfl
  rw [this, cond_true]
  have h : aX s 0 0 v W fun w' => w' = W := by
    apply kM
    refine aG (fun st W' => W' = W ∧ st.1 = 1) (fun _ _ => 0) ⟨rfl, rfl⟩ ?_
    rintro ⟨a, ⟨⟩⟩ W' ⟨rfl, ha⟩ next' hnext'
    simp only at ha
    subst ha
    have : decide ((1 : Int) < 0) = false := rfl
    rw [this, cond_false]
  refine kR h ?_
  rintro w' hw
  exact hw
open Srt in
theorem YP {w : World} {s : ah} {xs : List Tm} (hs : dn 3 eT w s xs) (hl : xs.length <= 2 ^ 30) :
    aS s (Value.func (.func jO) #[] #[]) w fun w' => aF w w' (ah.at s) ∧ ∃ ys : List Tm, ys.Perm xs ∧ ys.Pairwise (fun x y => ¬ y.tn < x.tn) ∧ dn 3 eT w' s ys := by
  by_cases hne : s.a = none
  · have hx : xs = [] := by
      rcases hs.mem with ⟨_, h, _⟩ | ⟨b, pad, h, _⟩
      · exact h
      · rw [hne] at h; cases h
    subst hx
    have hlen : s.len = 0 := hs.len
    apply kK
    rw [hlen]
    refine IE (abx w) ?_
    rintro r w' ⟨rfl, hw⟩
    subst hw
    refine oI (abU s _ _ _) ?_
    rintro w' hw
    subst hw
    exact ⟨aF.refl _ _, [], List.Perm.refl _, List.Pairwise.nil, hs⟩
  obtain ⟨b, pad, ha, hc, hr⟩ : ∃ b pad, s.a = some ⟨b, 0, none⟩ ∧ s.cap * 3 = xs.length * 3 + pad.length ∧ Row w b (xs.flatMap eT ++ pad) := by
    rcases hs.mem with ⟨h, _, _⟩ | h
    · exact absurd h hne
    · exact h
  have hlen := hs.len
  have eg : ∀ args w, (callFunc 206 args).run Tryz.prog w = .ok (.enter 206 args) w := enters_of Tryz.func206 (by kernel_rfl) rfl
  have hcon := AnyQ.slices_SortFunc acy 3 Tryz.isAgg237 Tryz.sizeOf237 eT iE aar cfT swo 206 #[] b 0 s.cap xs.toArray w eg (lays b 0 xs.toArray.size w) (holds hr) hr.lt (by rw [List.size_toArray]; omega)
  unfold aS
  rw [ha, hlen]
  change Calls Tryz.prog 205 #[.slice (some ⟨b, 0, none⟩) xs.length s.cap, .func (.func jO) #[] #[]] w _
  refine Calls.mono (show Calls Tryz.prog 205 #[.slice (some ⟨b, 0, none⟩) xs.toArray.size s.cap, .func (.func jO) #[] #[]] w _ from hcon) ?_
  rintro e w' ⟨rfl, d', n, os, ⟨hp1, _, hp3⟩, hso, rfl⟩
  have hsz : xs.toArray.size = xs.length := by simp
  have hp1 : d'.size = xs.length := hp1.trans hsz
  rw [hsz] at hp3
  have hdl : d'.toList.length = xs.length := hp1
  obtain ⟨g1, g2⟩ := row_of (n := n) (os := os) hr hp1
  have e1 : (d'.extract 0 xs.length).toList = d'.toList := by rw [<- hp1]; simp
  have e2 : (xs.toArray.extract 0 xs.length).toList = xs := by simp
  rw [e1, e2] at hp3
  refine ⟨rfl, g2.mono fun c hcb => ⟨0, by rw [ha, hcb]⟩, d'.toList, hp3, ?_, ⟨?_, .inr ⟨b, pad, ha, ?_, g1⟩⟩⟩
  · rw [List.pairwise_iff_getElem]
    intro i j hi hj hij
    rw [Array.length_toList] at hi hj
    have := hso i j (Nat.zero_le _) hij (by rw [List.size_toArray]; omega)
    rw [getElem!_pos d' j hj, getElem!_pos d' i hi, aai] at this
    simpa using this
  · rw [hlen]; exact hdl.symm
  · rw [hc, hdl]
end Go.Proofs.WN
end
section
namespace Go.Proofs.WN
open Gp Gp.Wh
set_option maxRecDepth 100000
abbrev eI (x : Int) : List Value := [.int .i64 x]
theorem fJ (x : Int) : (eI x).length = 1 := rfl
theorem Pq (x : Int) : ∀ v ∈ eI x, bK v = true := by intro v hv; rw [List.mem_singleton.1 hv]; rfl
theorem aak {l : PL} {id : Int} {t : Tm} (h : d_ l id = some t) : (qw l id).length + 1 = l.length := by
  induction l with
  | nil => cases h
  | cons x l ih =>
    unfold qw
    unfold d_ at h
    by_cases hx : id = x.1
    · rw [if_pos hx]; simp
    · rw [if_neg hx] at h ⊢
      simp only [List.length_cons]
      have := ih h; omega
section
variable {w w' : World} {d m : Nat} {ss : List ah} {l : PL} {now : Nat} {tn most : Int} {F : Fs}
def zN (p d now : Nat) (W : World) : Prop := Row W p [.pointer (some ⟨d, 0, none⟩)] ∧ W.cell? ⟨d, 449, none⟩ = some (.int .i64 (now : Int))
theorem zN.ext {p d now : Nat} {W W' : World} (h : zN p d now W) (hx : Ext W W') : zN p d now W' := ⟨h.1.ext hx, zi h.2 hx⟩
theorem abh (p d now : Nat) : FnT (Value.func (.func DF) #[] #[.pointer (some ⟨p, 0, none⟩)]) (zN p d now) (fun x => (x.a : Int) != (now : Int)) := by
  intro x W K hC hK
  refine ji (by kernel_rfl) ?_
  have : u_ x.id x.a x.tn ⟨p, 0, none⟩ W fun r W' => r = ((x.a : Int) != (now : Int)) ∧ Ext W W' := by
    apply BK
    refine aN fun q W1 q1 _ _ g1 => ?_
    have y := g1.trans (Ext.drew W1)
    have hC' := hC.ext y
    simp only [sx, q1.drew.cell, hC'.1.cell, hC'.2]
    exact ⟨by trivial, y⟩
  refine Calls.mono this ?_
  rintro e W' ⟨r, he, rfl, hf⟩
  exact ⟨_, he, hK W' hf⟩
theorem ach (p d now : Nat) : FnT (Value.func (.func Et) #[] #[.pointer (some ⟨p, 0, none⟩)]) (zN p d now) (fun x => (x.a : Int) == (now : Int)) := by
  intro x W K hC hK
  refine ji (by kernel_rfl) ?_
  have : uZ x.id x.a x.tn ⟨p, 0, none⟩ W fun r W' => r = ((x.a : Int) == (now : Int)) ∧ Ext W W' := by
    apply Ce
    refine aN fun q W1 q1 _ _ g1 => ?_
    have y := g1.trans (Ext.drew W1)
    have hC' := hC.ext y
    simp only [sx, q1.drew.cell, hC'.1.cell, hC'.2]
    exact ⟨by trivial, y⟩
  refine Calls.mono this ?_
  rintro e W' ⟨r, he, rfl, hf⟩
  exact ⟨_, he, hK W' hf⟩
theorem Z8 (h : WS w d m ss l now tn most F) :
    jB (some ⟨d, 0, none⟩) w fun r w' => aF w w' (jl d m ss) ∧ ∃ D : List Tm, D.Pairwise (fun x y => x.tn < y.tn) ∧ (∀ t, t ∈ D ↔ d_ l t.id = some t ∧ t.a = now) ∧ dn 1 eI w' r (D.map Tm.id) ∧ (∀ b, ah.at r b -> w.heap.size <= b) ∧
      ∃ ss' l' F', WS w' d m ss' l' now tn most F' ∧ (∀ id t, d_ l' id = some t ↔ d_ l id = some t ∧ t ∉ D) ∧ l'.length + D.length = l.length ∧ (∀ b, jl d m ss' b -> jl d m ss b ∨ w.heap.size <= b) ∧ (∀ b, ah.at r b -> ¬ jl d m ss' b) := by
  apply Fa
  refine ⟨rfl, aN fun p w1 r1 e1 z1 f1 => ?_⟩
  have x1 := f1.trans (Ext.drew w1)
  have h1 := h.ext x1
  have r1d := r1.drew
  have hp : ∀ b, jl d m ss b -> b ≠ p := fun b hb => by have := h.wm.lt hb; omega
  simp only [sx, r1d.cell, h1.wm.QO]
  refine o8 (KI h1.wm h.wi.nw h.wi.nw) ?_
  rintro _ w2 ⟨⟨n, hn, hlv, rfl⟩, f2⟩
  have hn0 : n = 0 := hlv.uniq (Lv.self now)
  subst hn0
  rw [Nat.zero_mul, Nat.zero_add]
  have x2 := x1.trans f2
  have h2 := h.ext x2
  have r2 := r1d.ext f2
  have hk := wG now 0
  obtain ⟨s, hs, hb⟩ := h2.wm.buf 0 (dg now 0) (by omega) hk
  rw [Nat.zero_mul, Nat.zero_add] at hs
  have hll := Nat.le_trans (WI.short h.wi (fun _ _ e => e) (show 0 < 7 by omega) hk) (by have := h.mo; omega : l.length <= 2 ^ 20)
  have hat : ∀ b, ah.at s b -> jl d m ss b := fun b hb => .inr (.inr ⟨_, s, hs, hb⟩)
  have all : ∀ t ∈ F 0 (dg now 0), t.a = now := fun t ht => (h.wi.VY.1 ht).2
  have s2 : zN p d now w2 := ⟨r2, h2.wm.QO⟩
  simp only [qV, au, aI, h2.wm.cs hs]
  refine mJ (MP (hb.sl iE (by omega)) (by omega)) ?_
  rintro c3 w3 ⟨f3, b3, n3⟩
  have h3 := h2.ext f3
  have s3 := s2.ext f3
  have hz0 := h.wm.lt (.inl rfl : jl d m ss d)
  have hx2 := x2.size
  have hx3 := f3.size
  refine dB (P7 b3 (by omega) (abh p d now) fun W hf => ?_) ?_
  · refine ⟨s3.1.fr hf fun e => ?_, xJ s3.2 hf fun e => ?_⟩
    · have := n3 p e; have := r2.lt; omega
    · have := n3 d e; omega
  rintro c4 w4 ⟨b4, f4, n4⟩
  have e4 : (F 0 (dg now 0)).filter (fun x => !((x.a : Int) != (now : Int))) = F 0 (dg now 0) := List.filter_eq_self.2 fun t ht => by rw [all t ht]; simp
  rw [e4] at b4
  have old3 : ∀ b, b < w2.heap.size -> ¬ ah.at c3 b := fun b hb e => by have := n3 b e; omega
  have h4 := h3.fr f4 fun b hb e => old3 b (h2.wm.lt hb) e
  have s4 : zN p d now w4 := ⟨s3.1.fr f4 (old3 p r2.lt), h4.wm.QO⟩
  have b34 : dn 3 eT w4 s (F 0 (dg now 0)) := (hb.ext f3).fr f4 fun b hb' e => old3 b (hb.lt hb') e
  have hs4 := h4.wm.cs hs
  simp only [hs4, au, aI]
  refine dB (P7 b34 (by omega) (ach p d now) fun W hf => ⟨s4.1.fr hf fun e => hp p (hat p e) rfl, xJ s4.2 hf fun e => (h.wm.ne d ⟨_, s, hs, e⟩).1 rfl⟩) ?_
  rintro c5 w5 ⟨b5, f5, n5⟩
  have e5 : (F 0 (dg now 0)).filter (fun x => !((x.a : Int) == (now : Int))) = [] := List.filter_eq_nil_iff.2 fun t ht => by rw [all t ht]; simp
  rw [e5] at b5
  rw [show (⟨d, dg now 0, none⟩ : Addr) = ⟨d, 0 * 64 + dg now 0, none⟩ by rw [Nat.zero_mul, Nat.zero_add]]
  refine h4.wm.ZN (n := 0) (k := dg now 0) (by omega) hk (by rw [Nat.zero_mul, Nat.zero_add]; exact hs) (S := ah.at s) f5 (fun b _ hb => hb) b5 (fun b hb => .inl (n5 b hb)) (by simp) fun w6 h6 f6 z6 => ?_
  rw [Nat.zero_mul, Nat.zero_add] at h6
  have c4new : ∀ b, ah.at c4 b -> w2.heap.size <= b := fun b hb => n3 b (n4 b hb)
  have sold : ∀ b, ah.at s b -> b < w2.heap.size := fun b hb' => hb.lt hb'
  have b46 : dn 3 eT w6 c4 (F 0 (dg now 0)) := ((b4.fr f5 fun b hb' e => by have := c4new b hb'; have := sold b e; omega)).fr f6 fun b hb' e => by have := c4new b hb'; omega
  have f06 : aF w w6 (jl d m ss) := (((((x2.trans f3) (jl d m ss)).trans f4 fun b hb1 hb2 => by have := n3 b hb2; omega).trans f5 fun b _ e => hat b e)).trans f6 fun b _ e => .inl e
  have sub6 : ∀ b, jl d m (ss.set (dg now 0) c5) b -> jl d m ss b := fun b hb' => by
    rcases hb' with g | g | ⟨j, u, hj, hu⟩
    · exact .inl g
    · exact .inr (.inl g)
    · rw [List.getElem?_set] at hj
      split at hj
      · split at hj
        · cases hj; exact hat b (n5 b hu)
        · cases hj
      · exact .inr (.inr ⟨j, u, hj, hu⟩)
  have r6 : Row w6 p [.pointer (some ⟨d, 0, none⟩)] := (s4.1.fr f5 fun e => hp p (hat p e) rfl).fr f6 fun e => hp d (.inl rfl) e.symm
  have hz6 : w2.heap.size <= w6.heap.size := by have := f4.size; have := f5.size; have := f6.size; omega
  refine kN (YP b46 (by omega)) ?_
  rintro w7 ⟨f7, D, hperm, hsort, b7⟩
  have lt2 : ∀ b, jl d m (ss.set (dg now 0) c5) b -> b < w2.heap.size := fun b hb' => h2.wm.lt (sub6 b hb')
  have h7 := h6.fr f7 fun b hb' e => by have := c4new b e; have := lt2 b hb'; omega
  have r7 := r6.fr f7 fun e => by have := c4new p e; have := r2.lt; omega
  have f07 : aF w w7 (jl d m ss) := f06.trans f7 fun b hb1 e => by have := c4new b e; omega
  have hmD : ∀ t, t ∈ D ↔ d_ l t.id = some t ∧ t.a = now := fun t => by rw [hperm.mem_iff]; exact h.wi.VY
  have hnd0 := h.wi.nd 0 (dg now 0) (by omega) hk
  have hDn : (D.map Tm.id).Nodup := (hperm.map Tm.id).nodup_iff.2 hnd0
  have hDl : D.length <= 2 ^ 20 := by rw [hperm.length_eq]; exact hll
  have hstr : D.Pairwise (fun x y => x.tn < y.tn) := by
    rw [List.pairwise_iff_getElem] at hsort ⊢
    intro i j hi hj hij
    have q1 := hsort i j hi hj hij
    have m1 := (hmD D[i]).1 (List.getElem_mem hi)
    have m2 := (hmD D[j]).1 (List.getElem_mem hj)
    have : D[i].tn ≠ D[j].tn := fun e => by
      have hid := h.ti _ _ _ _ m1.1 m2.1 e
      have := List.pairwise_iff_getElem.1 hDn i j (by simpa using hi) (by simpa using hj) hij
      simp only [List.getElem_map] at this
      exact this hid
    omega
  have clen := b7.len
  have c4lt : ∀ b, ah.at c4 b -> b < w7.heap.size := fun b hb' => b7.lt hb'
  refine aG (fun st W => ∃ (i : Nat) (l1 : PL), i <= D.length ∧ st.2.1 = (i : Int) ∧ dn 1 eI W st.1 ((D.take i).map Tm.id) ∧ (∀ b, ah.at st.1 b -> w7.heap.size <= b) ∧ WM W d m (ss.set (dg now 0) c5) l1 now tn most (qQ F 0 (dg now 0) []) ∧
      (∀ id t, d_ l1 id = some t ↔ d_ l id = some t ∧ t ∉ D.take i) ∧ l1.length + i = l.length ∧ aF w7 W (· = m)) (fun st _ => D.length - st.2.1.toNat)
    ⟨0, l, by omega, rfl, dn.nil, (fun b ⟨o, hb'⟩ => by cases hb'), h7, fun id t => by simp, by omega, aF.refl _ _⟩ ?_
  rintro ⟨out, i, ⟨⟩⟩ W ⟨i, l1, hiD, hii, hbo, hno, hWm, hlk, hlen, hfW⟩ next hnext
  simp only at hii hbo hno
  subst hii
  have ml7 : m < w7.heap.size := h7.lt (.inr (.inl rfl))
  by_cases hlt : (i : Int) < (c4.len : Int)
  · rw [decide_eq_true hlt, cond_true]
    have hlt' : i < D.length := by omega
    have hx := List.getElem?_eq_getElem hlt'
    have htk : D.take (i + 1) = D.take i ++ [D[i]] := List.take_succ_eq_append_getElem hlt'
    have hmem := List.getElem_mem hlt'
    have hndt : D[i] ∉ D.take i := fun hin => by
      have hn2 := hDn
      rw [<- List.take_append_drop (i + 1) D, htk, List.map_append, List.map_append, List.nodup_append, List.nodup_append] at hn2
      exact hn2.1.2.2 _ (List.mem_map.2 ⟨_, hin, rfl⟩) _ (by simp) rfl
    generalize D[i] = t at hx htk hmem hndt
    have hbW : dn 3 eT W c4 D := b7.fr hfW fun b hb' e => by have := c4new b hb'; have := h2.wm.lt (.inr (.inl rfl) : jl d m ss m); omega
    refine OA (hbW.sl iE (by omega)) hx fun a q0 q1 q2 => ?_
    simp only [au, aC, q0, q1, q2]
    refine yG rfl rfl fun q w8 r8 e8 z8 f8 => ?_
    have rpW : Row W p [.pointer (some ⟨d, 0, none⟩)] := r7.fr hfW fun e => hp m (.inr (.inl rfl)) e.symm
    have y8 := f8.trans (Ext.drew w8)
    have h8 := hWm.ext y8
    have r8d := r8.drew
    simp only [sx, (rpW.ext y8).cell, h8.Qw, r8d.cell]
    refine h8.ab_ t.id fun w9 h9 f9 z9 => ?_
    have hmq : m ≠ q := by have := hfW.size; omega
    have r9 := r8d.fr f9 fun e => hmq e.symm
    simp only [List.getElem?_cons_zero, au, aC, r9.cell]
    refine aN fun q2 w10 r10 e10 z10 f10 => ?_
    have hel : iM 1 eI w10 ⟨some ⟨q2, 0, none⟩, 1, 1⟩ [t.id] := (dn.row (xs := [t.id]) (f := eI) (n := 1) (by simpa using r10)).sl fJ (by omega)
    have hbo10 := ((hbo.ext y8).fr f9 fun b hb' e => by have := hno b hb'; omega).ext f10
    refine iU fJ hbo10 hel rfl (by omega) Pq (by rw [List.length_map, List.length_take, List.length_singleton]; omega) (by rw [List.length_map, List.length_take, List.length_singleton]; omega) fun o11 w11 b11 f11 n11 => ?_
    have hlt1 : d_ l1 t.id = some t := (hlk t.id t).2 ⟨((hmD t).1 hmem).1, hndt⟩
    have h11 := (h9.ext f10).fr f11 fun b hb' e => by
      have := hno b e
      have := h7.lt hb'
      omega
    have hwz : w8.drew.heap.size = w8.heap.size := rfl
    have f7z := hfW.size
    have f8z := f8.size
    have f9z := f9.size
    have f10z := f10.size
    have f711 : aF w7 w11 (· = m) := ((((hfW.ext y8).trans f9 fun _ _ e => e).ext f10)).trans f11 fun b hb1 e => by have := hno b e; omega
    rw [wrap_i64 (by omega) (by omega)]
    refine hnext _ _ ⟨i + 1, _, by omega, by simp, ?_, ?_, h11, fun id u => ?_, ?_, f711⟩ (by simp only; omega)
    · simp only
      rw [htk, List.map_append]; exact b11
    · simp only
      intro b hb'
      rcases n11 b hb' with g | g
      · exact hno b g
      · omega
    · rw [AP hWm.nd, htk, List.mem_append, List.mem_singleton]
      by_cases hid : id = t.id
      · rw [if_pos hid]
        constructor
        · intro hx; cases hx
        · rintro ⟨g1, g2⟩
          rw [hid, ((hmD t).1 hmem).1] at g1
          cases g1
          exact absurd (.inr rfl) g2
      · rw [if_neg hid, hlk]
        constructor
        · rintro ⟨g1, g2⟩
          refine ⟨g1, ?_⟩
          rintro (g | rfl)
          · exact g2 g
          · exact hid ((h.wi.pl _ _ g1).1).symm
        · rintro ⟨g1, g2⟩
          exact ⟨g1, fun g => g2 (.inl g)⟩
    · have := aak hlt1; omega
  · rw [decide_eq_false hlt, cond_false]
    have : i = D.length := by omega
    subst this
    rw [List.take_length] at hbo hlk
    have hfin : aF w W (jl d m ss) := f07.trans hfW fun b _ e => .inr (.inl e)
    have hmem' : ∀ u, u ∈ F 0 (dg now 0) ↔ u ∈ D := fun u => hperm.mem_iff.symm
    have hrest : rest (d_ l) (F 0 (dg now 0)) = d_ l1 := by
      funext id
      cases hq : d_ l1 id with
      | some t =>
        have := (hlk id t).1 hq
        exact qH.2 ⟨this.1, fun e => this.2 ((hmem' t).1 e)⟩
      | none =>
        cases hr : rest (d_ l) (F 0 (dg now 0)) id with
        | none => rfl
        | some t =>
          have := qH.1 hr
          have := (hlk id t).2 ⟨this.1, fun e => this.2 ((hmem' t).2 e)⟩
          rw [hq] at this; cases this
    have hwi := h.wi.due
    rw [hrest] at hwi
    have hout : ∀ b, ah.at out b -> w7.heap.size <= b := hno
    have hz7 : w.heap.size <= w7.heap.size := f07.size
    refine ⟨hfin, D, hstr, hmD, hbo, fun b hb' => by have := hno b hb'; omega, _, l1, _, ⟨hWm, hwi, ⟨h.mo.1, by have := h.mo.2; omega⟩, fun id t ht => h.tb id t ((hlk id t).1 ht).1, fun i1 i2 t u q1 q2 q3 => h.ti i1 i2 t u ((hlk i1 t).1 q1).1 ((hlk i2 u).1 q2).1 q3, h.t0⟩, hlk, by omega, fun b hb' => .inl (sub6 b hb'), fun b hb' e => by have := hno b hb'; have := lt2 b e; have := f7.size; omega⟩
def ltT (x y : Tm) : Prop := x.a < y.a ∨ (x.a = y.a ∧ x.tn < y.tn)
theorem Jg (h : WS w d m ss l now tn most F) (a : Int) {T : Nat} (hT : T = max now (min a 1099511627776).toNat) :
    dY (some ⟨d, 0, none⟩) a w fun r w' => aF w w' (jl d m ss) ∧ ∃ D : List Tm, D.Pairwise ltT ∧ (∀ t, t ∈ D ↔ d_ l t.id = some t ∧ t.a <= T) ∧ dn 1 eI w' r (D.map Tm.id) ∧ (∀ b, ah.at r b -> w.heap.size <= b) ∧
      ∃ ss' l' F', WS w' d m ss' l' T tn most F' ∧ (∀ id t, d_ l' id = some t ↔ d_ l id = some t ∧ T < t.a) ∧ l'.length + D.length = l.length ∧ (∀ b, jl d m ss' b -> jl d m ss b ∨ w.heap.size <= b) ∧ (∀ b, ah.at r b -> ¬ jl d m ss' b) := by
  apply zS
  have hnw := h.wi.nw
  have hmo := h.mo
  have hT40 : T <= 2 ^ 40 := by omega
  have hTn : now <= T := by omega
  refine gZ (zq h.wm) ?_
  rintro _ w2 ⟨rfl, hw⟩
  subst hw
  simp -zeta only [sx, Bool.not_true, h.wm.QO]
  have eT' : (if (if (1099511627776 : Int) < a then 1099511627776 else a) > (now : Int) then (if (1099511627776 : Int) < a then 1099511627776 else a) else (now : Int)) = (T : Int) := by
    rw [hT]
    split <;> split <;> omega
  simp -zeta only [eT']
  refine aG (fun st W => ∃ (O : List Tm) (ss1 : List ah) (l1 : PL) (n1 : Nat) (F1 : Fs), WS W d m ss1 l1 n1 tn most F1 ∧ n1 <= T ∧ now <= n1 ∧ dn 1 eI W st.1 (O.map Tm.id) ∧ (∀ b, ah.at st.1 b -> w2.heap.size <= b ∧ ¬ jl d m ss1 b) ∧ O.Pairwise ltT ∧
      (∀ id t, d_ l1 id = some t ↔ d_ l id = some t ∧ t ∉ O) ∧ (∀ t ∈ O, d_ l t.id = some t ∧ t.a <= T) ∧ (∀ t ∈ O, ∀ id u, d_ l1 id = some u -> t.a < u.a) ∧ l1.length + O.length = l.length ∧ aF w2 W (jl d m ss) ∧ (∀ b, jl d m ss1 b -> jl d m ss b ∨ w2.heap.size <= b))
    (fun st W => st.1.cap * 0 + (l.length - st.1.len)) ⟨[], ss, l, now, F, h, hTn, Nat.le_refl _, dn.nil, (fun b ⟨o, hb⟩ => by cases hb), List.Pairwise.nil, fun id t => by simp, by simp, by simp, by simp, aF.refl _ _, fun b hb => .inl hb⟩ ?_
  rintro ⟨out, ⟨⟩⟩ W ⟨O, ss1, l1, n1, F1, hW, hn1, hn0, hbo, hno, hso, hlk, hO, hOl, hlen, hf, hsub⟩ next hnext
  simp only at hbo hno
  have hl20 : l1.length <= 2 ^ 20 := by omega
  refine DK (XP hW.wm hW.wi) ?_
  rintro r t w3 ⟨f3, hres⟩
  have h3 := hW.ext f3
  have hbo3 := hbo.ext f3
  have hf3 := hf.ext f3
  intro J
  have fin : (∀ id u, d_ l1 id = some u -> T < u.a) -> J true := by
    intro hall
    simp only [J, cond_true]
    refine r_ (TY h3.wm h3.wi hn1 hT40 (fun id u hu => Nat.le_of_lt (hall id u hu)) hl20) ?_
    rintro w4 ⟨f4, ss4, F4, h4, hi4, hs4⟩
    have hW3 : w2.heap.size <= w3.heap.size := hf3.size
    refine ⟨hf3.trans f4 fun b hb1 hb2 => ?_, O, hso, fun u => ⟨fun hu => hO u hu, fun ⟨g1, g2⟩ => ?_⟩, hbo3.fr f4 fun b hb e => (hno b hb).2 e, fun b hb => (hno b hb).1, ss4, l1, F4, ⟨h4, hi4, ⟨hmo.1, by omega⟩, h3.tb, h3.ti, h3.t0⟩, fun id u => ?_, hlen, fun b hb => ?_, fun b hb e => ?_⟩
    · rcases hsub b hb2 with g | g
      · exact g
      · omega
    · refine Classical.byContradiction fun hn => ?_
      have := hall _ u ((hlk u.id u).2 ⟨g1, hn⟩)
      omega
    · rw [hlk]
      constructor
      · rintro ⟨g1, g2⟩
        exact ⟨g1, hall id u ((hlk id u).2 ⟨g1, g2⟩)⟩
      · rintro ⟨g1, g2⟩
        exact ⟨g1, fun e => by have := (hO u e).2; omega⟩
    · rcases hs4 b hb with g | g
      · exact hsub b g
      · exact .inr (by omega)
    · rcases hs4 b e with g | g
      · exact (hno b hb).2 g
      · have := hbo.lt hb
        have := f3.size
        omega
  rcases hres with ⟨rfl, hnone⟩ | ⟨rfl, u, hu, rfl, hge, hmin⟩
  · rw [Bool.not_false, cond_true]
    exact fin fun id v hv => by rw [hnone id] at hv; cases hv
  · rw [Bool.not_true, cond_false]
    by_cases hgt : (u.a : Int) > (T : Int)
    · rw [decide_eq_true hgt]
      exact fin fun id v hv => by have := hmin id v hv; omega
    · rw [decide_eq_false hgt]
      have hua : u.a <= T := by omega
      simp only [J, cond_false]
      refine r_ (TY h3.wm h3.wi hge (by omega) hmin hl20) ?_
      rintro w4 ⟨f4, ss4, F4, h4, hi4, hs4⟩
      have hws4 : WS w4 d m ss4 l1 u.a tn most F4 := ⟨h4, hi4, ⟨hmo.1, by omega⟩, h3.tb, h3.ti, h3.t0⟩
      refine Fh (Z8 hws4) ?_
      rintro r5 w5 ⟨f5, D, hDs, hDm, hb5, hn5, ss5, l5, F5, h5, hlk5, hlen5, hs5, hd5⟩
      have hbo4 := hbo3.fr f4 fun b hb e => (hno b hb).2 e
      have olt : ∀ b, ah.at out b -> b < w3.heap.size := fun b hb => hbo3.lt hb
      have out4 : ∀ b, ah.at out b -> ¬ jl d m ss4 b := fun b hb e => by
        rcases hs4 b e with g | g
        · exact (hno b hb).2 g
        · have := olt b hb; omega
      have hbo5 := hbo4.fr f5 fun b hb e => out4 b hb e
      have z3 := hf3.size
      have z4 := f4.size
      have z5 := f5.size
      have hDl : D.length <= 2 ^ 20 := by omega
      refine iU fJ hbo5 (hb5.sl fJ (by omega)) rfl (by omega) Pq (by rw [List.length_map, List.length_map]; omega) (by rw [List.length_map, List.length_map]; omega) fun o6 w6 b6 f6 n6 => ?_
      have f24 : aF w2 w4 (jl d m ss) := hf3.trans f4 fun b hb1 hb2 => by
        rcases hsub b hb2 with g | g
        · exact g
        · omega
      have f25 : aF w2 w5 (jl d m ss) := f24.trans f5 fun b hb1 hb2 => by
        rcases hs4 b hb2 with g | g
        · rcases hsub b g with g | g
          · exact g
          · omega
        · omega
      have f26 : aF w2 w6 (jl d m ss) := f25.trans f6 fun b hb1 hb2 => by have := (hno b hb2).1; omega
      have out5 : ∀ b, ah.at out b -> ¬ jl d m ss5 b := fun b hb e => by
        rcases hs5 b e with g | g
        · exact out4 b hb g
        · have := olt b hb; omega
      have h6 := h5.fr f6 fun b hb e => out5 b e hb
      rw [<- List.map_append] at b6
      have hD0 : 0 < D.length := List.length_pos_of_mem ((hDm u).2 ⟨by
        have := (h3.wi.pl _ _ hu).1
        rw [this]; exact hu, rfl⟩)
      have b6l := b6.len
      have bol := hbo.len
      rw [List.length_map] at b6l bol
      rw [List.length_append] at b6l
      refine hnext _ _ ⟨O ++ D, ss5, l5, u.a, F5, h6, hua, by omega, b6, fun b hb => ?_, ?_, fun id v => ?_, fun v hv => ?_, fun v hv id x hx => ?_, by rw [List.length_append]; omega, f26, fun b hb => ?_⟩ (by simp only [Nat.mul_zero, Nat.zero_add]; omega)
      · rcases n6 b hb with g | g
        · exact ⟨(hno b g).1, out5 b g⟩
        · refine ⟨by omega, fun e => ?_⟩
          have := h5.wm.lt e
          omega
      · rw [List.pairwise_append]
        refine ⟨hso, hDs.imp_of_mem fun {x y} hx hy hxy => .inr ⟨?_, hxy⟩, fun x hx y hy => .inl ?_⟩
        · rw [((hDm x).1 hx).2, ((hDm y).1 hy).2]
        · exact hOl x hx _ y ((hDm y).1 hy).1
      · rw [hlk5, hlk, List.mem_append, not_or, and_assoc]
      · rcases List.mem_append.1 hv with g | g
        · exact hO v g
        · obtain ⟨g1, g2⟩ := (hDm v).1 g
          exact ⟨((hlk _ _).1 g1).1, by omega⟩
      · obtain ⟨q1, q2⟩ := (hlk5 id x).1 hx
        rcases List.mem_append.1 hv with g | g
        · exact hOl v g id x q1
        · obtain ⟨g1, g2⟩ := (hDm v).1 g
          have := hmin id x q1
          have : x.a ≠ u.a := fun e => q2 ((hDm x).2 ⟨by rw [(h3.wi.pl _ _ q1).1]; exact q1, e⟩)
          omega
      · rcases hs5 b hb with g | g
        · rcases hs4 b g with g | g
          · exact hsub b g
          · exact .inr (by omega)
        · exact .inr (by omega)
end
end Go.Proofs.WN
end
section
namespace Go.Proofs.WN
open Gp Gp.Wh
set_option maxRecDepth 100000
theorem Af {α β : Type} {enc : α -> Value} {ev : β -> Value} {w : World} {K : Addr -> World -> Prop} (h : ∀ w1, kE enc ev w1 w.heap.size [] -> w1.heap.size = w.heap.size + 1 -> Ext w w1 -> K ⟨w.heap.size, 0, none⟩ w1) : Al w (.map #[] 0) K :=
  h _ (kE.new w enc ev) (by simp) (fun S => aF.alloc w _ S)
theorem VB (n : Int) (hn : 0 <= n ∧ n <= 1048576) (w : World) : qI n w fun p e w' => Ext w w' ∧ e = 0 ∧ ∃ d m ss, p = some ⟨d, 0, none⟩ ∧ WS w' d m ss [] 0 0 n (fun _ _ => []) ∧ ∀ b, jl d m ss b -> w.heap.size <= b := by
  apply QL
  have c1 : ¬ n < 0 := by omega
  have c2 : ¬ n > 1048576 := by omega
  simp only [c1, c2, decide_false, cond_false]
  refine Af (enc := JR) (ev := evT) fun w4 m4 z4 f4 => ?_
  refine aN fun d w5 r5 e5 z5 f5 => ?_
  have hss : ∀ (i : Nat) (s : ah), (List.replicate 448 (⟨none, 0, 0⟩ : ah))[i]? = some s -> s = ⟨none, 0, 0⟩ := fun i s hi => by
    rw [List.getElem?_replicate] at hi
    split at hi
    · cases hi; rfl
    · cases hi
  have noat : ∀ b, ¬ atS (List.replicate 448 (⟨none, 0, 0⟩ : ah)) b := fun b ⟨i, s, hi, o, hs⟩ => by rw [hss i s hi] at hs; cases hs
  refine ⟨f4.trans f5, by trivial, d, w.heap.size, List.replicate 448 ⟨none, 0, 0⟩, rfl, ⟨⟨?_, by simp, m4.ext f5, by simp, fun n k hn hk => ?_, fun i j s s' b hij hi hj hb => ?_, fun b hb => absurd hb (noat b), by omega, fun _ _ _ _ => by simp⟩, ⟨fun id t ht => ?_, by omega, fun n k t hn hk => ?_, fun n k hn hk => by simp⟩, ⟨by omega, by simpa using hn.1⟩, fun id t ht => ?_, fun i i' t u ht => ?_, by omega⟩, fun b hb => ?_⟩
  · rw [List.map_replicate]; exact r5
  · refine ⟨⟨none, 0, 0⟩, ?_, dn.nil⟩
    rw [List.getElem?_replicate, if_pos (by omega)]
  · rw [hss i s hi] at hb; obtain ⟨o, ho⟩ := hb; cases ho
  · cases ht
  · constructor
    · intro hx; simp at hx
    · rintro ⟨hx, _⟩; cases hx
  · cases ht
  · cases ht
  · rcases hb with rfl | rfl | hb
    · omega
    · omega
    · exact absurd hb (noat b)
end Go.Proofs.WN
end
section
namespace Gp.Pool
def take (G xs : List Int) : Option Int := xs.find? fun p => decide (p ∉ G)
end Gp.Pool
namespace Go.Proofs.CN
open Gp
set_option maxRecDepth 100000
theorem mx (a c : Int) : (if c > a then c else a) = max a c := by rw [Int.max_def]; split <;> split <;> omega
def yP (l : List Int) : List (AO [.one (.int .i64)]) := l.map fun p => (p, ())
def Dh (w0 w : World) (v : Value) (l : List Int) : Prop :=
  bK v = true ∧ ∃ C, kP Tryz.prog [.one (.int .i64)] v C (yP l) ∧ ∀ W S, aF w W S -> (∀ b, w0.heap.size <= b -> b < w.heap.size -> ¬ S b) -> C W
theorem Dh.ext {w0 w w' : World} {v : Value} {l : List Int} (h : Dh w0 w v l) (hf : Ext w w') : Dh w0 w' v l := by
  obtain ⟨h1, C, h2, h3⟩ := h
  exact ⟨h1, C, h2, fun W S hF hS => h3 W S ((hf S).trans hF fun _ _ e => e) fun b hb hlt => hS b hb (by have := hf.size; omega)⟩
end Go.Proofs.CN
namespace Go.Proofs.CN
open Gp
set_option maxRecDepth 100000
structure abr (w W : World) (rs : List (Nat × List Value)) : Prop where
  ext : Ext w W
  rows : ∀ r ∈ rs, Row W r.1 r.2 ∧ w.heap.size <= r.1
  nd : (rs.map Prod.fst).Nodup
theorem abr.step {w W W' : World} {rs : List (Nat × List Value)} (h : abr w W rs) (f : Ext W W') : abr w W' rs :=
  ⟨h.ext.trans f, fun r hr => ⟨(h.rows r hr).1.ext f, (h.rows r hr).2⟩, h.nd⟩
theorem Dh.back {w0 w1 w : World} {v : Value} {l : List Int} (h : Dh w1 w v l) (hf : w0.heap.size <= w1.heap.size) : Dh w0 w v l := by
  obtain ⟨h1, C, h2, h3⟩ := h
  exact ⟨h1, C, h2, fun W S hF hS => h3 W S hF fun b hb hlt => hS b (by omega) hlt⟩
end Go.Proofs.CN
namespace Go.Proofs.CN
end Go.Proofs.CN
namespace Go.Proofs.CN
open Gp
open Gp.Pool (take)
set_option maxRecDepth 100000
theorem NQ (a b : Int) : (a == b) = decide (a = b) := rfl
theorem eqP (a b : Int) : xQ Tryz.prog 16 3 (.int .i64 a) (.int .i64 b) = some (decide (a = b)) := by
  have h : xQ Tryz.prog 16 3 (.int .i64 a) (.int .i64 b) = some (a == b) := by kernel_rfl
  rw [h]; rfl
theorem Z5 (a : Int) : iJ Tryz.prog 3 (.int .i64 a) = true := by
  unfold iJ
  rw [eqP]
  rfl
theorem wH (k : Int) (w : World) : nV k w fun r w' => r = decide (0 <= k ∧ k < 4294967296) ∧ w' = w := by
  apply Oc
  by_cases h : 0 <= k
  · simp [h]
  · simp [h]
end Go.Proofs.CN
namespace Go.Proofs.CN
open Gp
set_option maxRecDepth 100000
theorem xA {w w' : World} {S : Nat -> Prop} (h : aF w w' S) (l : Nat) : aF (aA w l) (aA w' l) S := by
  refine ⟨by simpa [aA] using h.size, fun b hb hn => ?_, h.io⟩
  have := h.same b (by simpa [aA] using hb) hn
  simp only [aA, Array.getElem?_modify, this]
end Go.Proofs.CN
namespace Go.Proofs.CN
open Gp
set_option maxRecDepth 100000
theorem RG {x y a : Int} (hy : 0 <= y) (hy2 : y <= 32) (w : World) : jV x y a w fun r w' => r = (decide (0 <= a ∧ a < 4294967296) && (gG .i64 a (32 - y) == gG .i64 x (32 - y))) ∧ Ext w w' := by
  apply Gx
  refine aN fun t w1 r1 e1 z1 f1 => ?_
  simp only [sx, r1.cell]
  refine yj (wH a _) ?_
  rintro _ w' ⟨rfl, hw⟩
  subst hw
  have f2 := f1.trans (Ext.drew w1)
  by_cases h : 0 <= a ∧ a < 4294967296
  · rw [wrap_i64 (by omega) (by omega)]
    simp only [h, decide_true, cond_true, cond_true, List.getElem?_cons_zero, au, aC, r1.drew.cell, and_self, Bool.true_and]
    exact ⟨by omega, by omega, by trivial, f2⟩
  · simp only [h, decide_false, cond_false, Bool.false_and]
    exact ⟨by trivial, f2⟩
def VN (a : Int) : Prop := 0 <= a ∧ a < 4294967296 ∧ (gG .i64 a 24 == gG .i64 0 24) = false ∧ (gG .i64 a 24 == gG .i64 2130706432 24) = false ∧ (gG .i64 a 29 == gG .i64 3758096384 29) = false
theorem ZK {a : Int} (h : VN a) (w : World) : jH a w fun r w' => r = true ∧ Ext w w' := by
  obtain ⟨h1, h2, h3, h4, h5⟩ := h
  apply Hl
  refine yj (wH a _) ?_
  rintro _ w' ⟨rfl, hw⟩
  subst hw
  have hr : (0 <= a ∧ a < 4294967296) := ⟨h1, h2⟩
  simp only [hr, and_self, decide_true, Bool.not_true, cond_false]
  refine aN fun t w1 r1 e1 z1 f1 => ?_
  refine Jr (K := fun r w2 => r = false ∧ Ext w1 w2) ?_ ?_
  · apply Jd
    refine aG (fun st W => ∃ j : Nat, j <= 3 ∧ st.1 = (j : Int) ∧ Ext w1 W) (fun st _ => (3 - st.1).toNat) ⟨0, by omega, rfl, Ext.refl _⟩ ?_
    rintro ⟨i, ⟨⟩⟩ W ⟨j, hj, hi, hx⟩ next hnext
    simp only at hi
    subst hi
    have r := r1.ext hx
    by_cases hlt : j < 3
    · have hl : ((j : Int) < ((3 : Nat) : Int)) := by omega
      have hxy : ∃ x y : Int, 0 <= y ∧ y <= 32 ∧ (gG .i64 a (32 - y) == gG .i64 x (32 - y)) = false ∧ W.cell? ⟨t, j * 2, none⟩ = some (.int .i64 x) ∧ W.cell? ⟨t, j * 2 + 1, none⟩ = some (.int .i64 y) := by
        match j, hlt with
        | 0, _ => exact ⟨0, 8, by omega, by omega, h3, r.cell 0, r.cell 1⟩
        | 1, _ => exact ⟨2130706432, 8, by omega, by omega, h4, r.cell 2, r.cell 3⟩
        | 2, _ => exact ⟨3758096384, 3, by omega, by omega, h5, r.cell 4, r.cell 5⟩
      obtain ⟨x, y, hy, hy2, hs, c0, c1⟩ := hxy
      simp only [sx, hl, decide_true, Int.toNat_natCast, c0, c1]
      refine ⟨by first | trivial | omega, by first | trivial | omega, ?_⟩
      refine yG rfl rfl fun b w3 r3 e3 z3 x3 => ?_
      simp only [sx, r3.cell]
      refine xP (RG hy hy2 _) ?_
      rintro _ w4 ⟨rfl, x4⟩
      simp only [hs, Bool.and_false, cond_false]
      rw [wrap_i64 (by omega) (by omega)]
      exact hnext _ _ ⟨j + 1, by omega, by simp, (hx.trans x3).trans x4⟩ (by simp only; omega)
    · have hl : ¬ ((j : Int) < ((3 : Nat) : Int)) := by omega
      simp only [hl, decide_false, cond_false]
      exact ⟨by trivial, hx⟩
  · rintro _ w2 ⟨rfl, f2⟩
    exact ⟨rfl, f1.trans f2⟩
end Go.Proofs.CN
namespace Go.Proofs.CN
open Gp
set_option maxRecDepth 100000
theorem P5 {w : World} {K : Addr -> World -> Prop} (h : ∀ w1, (∀ (α : Type) (enc : α -> Value), uF enc w1 w.heap.size []) -> w1.heap.size = w.heap.size + 1 -> Ext w w1 -> K ⟨w.heap.size, 0, none⟩ w1) : Al w (.map #[] 0) K :=
  h _ (fun _ enc => uF.new w enc) (by simp) (fun S => aF.alloc w _ S)
end Go.Proofs.CN
end
