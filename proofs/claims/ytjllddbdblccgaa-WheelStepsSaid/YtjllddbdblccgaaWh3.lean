import Derived.Test.YtjllddbdblccgaaWh2
/- A wheel: the next one, the time, arming. -/
namespace Go.Proofs
open Gp Gp.Wh
set_option maxRecDepth 100000

theorem sub_len : ∀ {a b : List Int}, a.Nodup → (∀ x ∈ a, x ∈ b) → a.length ≤ b.length
  | [], _, _, _ => by simp
  | x :: a, b, h, hs => by
    rw [List.nodup_cons] at h
    have hx := hs x (by simp)
    have := sub_len (b := b.erase x) h.2 fun y hy => by
      have hne : y ≠ x := fun e => h.1 (e ▸ hy)
      exact (List.mem_erase_of_ne hne).2 (hs y (by simp [hy]))
    rw [List.length_erase_of_mem hx] at this
    have := List.length_pos_of_mem hx
    simp only [List.length_cons]; omega

theorem lk_mem {l : PL} {id : Int} {t : Tm} (h : lkF l id = some t) : id ∈ l.map (·.1) := by
  refine Classical.byContradiction fun hn => ?_
  rw [lk_none.2 hn] at h; cases h

theorem WI.short {now : Nat} {P : Ps} {F : Fs} {l : PL} (h : WI now P F) (hs : ∀ id t, P id = some t → lkF l id = some t) {n k : Nat} (hn : n < 7) (hk : k < 64) : (F n k).length ≤ l.length := by
  have := sub_len (b := l.map (·.1)) (h.nd n k hn hk) fun x hx => by
    obtain ⟨t, ht, rfl⟩ := List.mem_map.1 hx
    exact lk_mem (hs _ _ ((h.mem n k t hn hk).1 ht).1)
  simpa using this

section
variable {w w' : World} {d m : Nat} {ss : List SliceV} {l : PL} {now : Nat} {tn most : Int} {F : Fs}

theorem wnext_ok (h : WM w d m ss l now tn most F) (hi : WI now (lkF l) F) : c_wheel_Wheel_next (some ⟨d, 0, none⟩) w fun r t w' => Ext w w' ∧
    ((t = false ∧ ∀ id, lkF l id = none) ∨ (t = true ∧ ∃ u, lkF l u.id = some u ∧ r = (u.a : Int) ∧ now ≤ u.a ∧ ∀ id v, lkF l id = some v → u.a ≤ v.a)) := by
  apply ok_wheel_Wheel_next
  unfold s_wheel_Wheel_next
  refine LoopP_inv (fun st W => W = w ∧ ∃ n : Nat, n ≤ 7 ∧ st.1 = (n : Int) ∧ ∀ n' k', n' < n → k' < 64 → dg now n' ≤ k' → F n' k' = []) (fun st _ => 7 - st.1.toNat) ⟨rfl, 0, by omega, rfl, fun n' k' hn => by omega⟩ ?_
  rintro ⟨i, ⟨⟩⟩ W ⟨rfl, n, hn, hin, he⟩ next hnext
  simp only at hin
  subst hin
  by_cases hlt : (n : Int) < 7
  · rw [decide_eq_true hlt, cond_true]
    have hn7 : n < 7 := by omega
    obtain ⟨e1, e2⟩ := dg_ok (a := now) hn7
    simp only [ex_some, Ld_eq, LdV_some, dec_int, add_mk, Nat.zero_add, h.c449]
    rw [e1, e2]
    refine ⟨by omega, ?_⟩
    have hd := dg_lt now n
    refine LoopP_inv (fun st W' => W' = W ∧ ∃ k : Nat, k ≤ 64 ∧ dg now n ≤ k ∧ st.1 = (k : Int) ∧ ∀ k', k' < k → dg now n ≤ k' → F n k' = []) (fun st _ => 64 - st.1.toNat) ⟨rfl, dg now n, by omega, Nat.le_refl _, rfl, fun k' h1 h2 => by omega⟩ ?_
    rintro ⟨i, ⟨⟩⟩ W' ⟨rfl, k, hk, hdk, hik, hek⟩ next' hnext'
    simp only at hik
    subst hik
    by_cases hlk : (k : Int) < 64
    · rw [decide_eq_true hlk, cond_true]
      have hk6 : k < 64 := by omega
      obtain ⟨s, hs, hb⟩ := h.buf n k hn7 hk6
      have hsm := h.sm n k hn7 hk6
      simp only [LdV_some, dec_slice, Int.toNat_natCast, Nat.mul_one, h.cs hs]
      refine ⟨by omega, by omega, by omega, by omega, ?_⟩
      have hbl := hb.len
      by_cases hz : F n k = []
      · have : ¬ ((s.len : Int) > 0) := by rw [hbl, hz]; simp
        rw [decide_eq_false this, cond_false]
        rw [wrap_i64 (by omega) (by omega)]
        refine hnext' _ _ ⟨rfl, k + 1, by omega, by omega, by simp, fun k' h1 h2 => ?_⟩ (by simp only; omega)
        rcases Nat.lt_or_ge k' k with g | g
        · exact hek k' g h2
        · have : k' = k := by omega
          rw [this]; exact hz
      · have hpos := List.length_pos_iff.2 hz
        have : ((s.len : Int) > 0) := by omega
        rw [decide_eq_true this, cond_true]
        refine cm_slices_MinFunc_wheel_timer_wheel_timer (min_ok (hb.sl eT_len (by omega)) (by omega) hz) ?_
        rintro r0 r1 r2 w3 ⟨f3, t, ht, rfl, hmin⟩
        obtain ⟨g1, g2, g3⟩ := hi.next hn7 hk6 he hek ht hmin
        exact ⟨f3, .inr ⟨by trivial, t, g1, rfl, g2, g3⟩⟩
    · rw [decide_eq_false hlk, cond_false]
      rw [wrap_i64 (by omega) (by omega)]
      have : k = 64 := by omega
      subst this
      refine hnext _ _ ⟨rfl, n + 1, by omega, by simp, fun n' k' h1 h2 h3 => ?_⟩ (by simp only; omega)
      rcases Nat.lt_or_ge n' n with g | g
      · exact he n' k' g h2 h3
      · have : n' = n := by omega
        subst this
        exact hek k' h2 h3
  · rw [decide_eq_false hlt, cond_false]
    have : n = 7 := by omega
    subst this
    exact ⟨Ext.refl _, .inl ⟨rfl, fun id => hi.none he id⟩⟩

theorem updF_same {F : Fs} {n k : Nat} (h : F n k = []) : updF F n k [] = F := by
  funext n' k'
  unfold updF
  split
  · rename_i e; rw [e.1, e.2, h]
  · rfl

theorem wturn_ok (h : WM w d m ss l now tn most F) (hi : WI now (lkF l) F) {to : Nat} (h1 : now ≤ to) (h2 : to ≤ 2 ^ 40) (hto : ∀ id u, lkF l id = some u → to ≤ u.a) (hl : l.length ≤ 2 ^ 20) :
    c_wheel_Wheel_turnTo (some ⟨d, 0, none⟩) (to : Int) w fun w' => Fr8 w w' (fpW d m ss) ∧ ∃ ss' F', WM w' d m ss' l to tn most F' ∧ WI to (lkF l) F' ∧ ∀ b, fpW d m ss' b → fpW d m ss b ∨ w.heap.size ≤ b := by
  apply ok_wheel_Wheel_turnTo
  unfold s_wheel_Wheel_turnTo
  simp only [ex_some, Ld_eq, LdV_some, dec_int, add_mk, Nat.zero_add, h.c449]
  refine cm_wheel_level (level_ok hi.nw h2 w) ?_
  rintro r w1 ⟨⟨v, rfl, hlv⟩, hw⟩
  subst hw
  have hv7 := hlv.lt hi.nw h2
  have low := fun {n k : Nat} => hi.low (n := n) (k := k) h1 hto hlv
  have hdv := dg_lt to v
  -- the slots are emptied
  have hmv : (F v (dg to v)).length ≤ 2 ^ 20 := Nat.le_trans (WI.short hi (fun _ _ e => e) hv7 hdv) hl
  refine LoopP_inv (fun st W => ∃ j ss', j ≤ v ∧ st.2.1 = (j : Int) ∧ BufN 3 eT W st.1 (if j < v then F v (dg to v) else []) ∧ (∀ b, SliceV.at st.1 b → w1.heap.size ≤ b) ∧ (∀ b, fpW d m ss' b → fpW d m ss b) ∧ Fr8 w1 W (fpW d m ss) ∧
      WM W d m ss' l now tn most (if j < v then updF F v (dg to v) [] else F)) (fun st _ => st.2.1.toNat)
    ⟨v, ss, Nat.le_refl _, rfl, by rw [if_neg (by omega)]; exact BufN.nil, (fun b ⟨o, hb⟩ => by cases hb), fun b hb => hb, Fr8.refl _ _, by rw [if_neg (by omega)]; exact h⟩ ?_
  rintro ⟨mv, i, ⟨⟩⟩ W ⟨j, ss', hj, hij, hbm, hnm, hsub, hf, hW⟩ next hnext
  simp only at hij hbm hnm
  subst hij
  have mvd : ∀ b, SliceV.at mv b → ¬ fpW d m ss' b := fun b hb hx => by have := h.lt (hsub b hx); have := hnm b hb; omega
  by_cases hpos : (j : Int) > 0
  · rw [decide_eq_true hpos, cond_true]
    have hj7 : j < 7 := by omega
    obtain ⟨e1, e2⟩ := dg_ok (a := to) hj7
    have hd := dg_lt to j
    have hWd := hW.ext (Ext.drew W)
    obtain ⟨s, hs, hb⟩ := hWd.buf j (dg to j) hj7 hd
    rw [e1, e2]
    simp only [LdV_some, dec_slice, Int.toNat_natCast, Nat.mul_one, hWd.cs hs]
    refine ⟨by omega, by omega, by omega, by omega, by omega, ?_⟩
    have hslot : (if j < v then updF F v (dg to v) [] else F) j (dg to j) = if j < v then [] else F v (dg to v) := by
      by_cases hjv : j < v
      · rw [if_pos hjv, if_pos hjv]
        unfold updF
        rw [if_neg (by omega)]
        exact low hjv hj7 hd
      · have : j = v := by omega
        subst this
        rw [if_neg hjv, if_neg hjv]
    rw [hslot] at hb
    refine AppSl_bufN eT_len (hbm.ext (Ext.drew W)) (hb.sl eT_len (by omega)) rfl (by omega) eT_one (by split <;> simp only [List.length_nil] <;> omega) (by split <;> simp only [List.length_nil] <;> omega) fun s4 w4 b4 f4 n4 => ?_
    have hall : (if j < v then F v (dg to v) else []) ++ (if j < v then [] else F v (dg to v)) = F v (dg to v) := by split <;> simp
    rw [hall] at b4
    have hWz : W.drew.heap.size = W.heap.size := rfl
    have hfz := hf.size
    have f4' : ∀ b, fpW d m ss' b → SliceV.at mv b → SliceV.at s b := fun b hx hb => absurd hx (mvd b hb)
    refine hWd.setS hj7 hd hs (s' := ⟨none, 0, 0⟩) (L := []) f4 f4' BufN.nil (fun b ⟨o, hb⟩ => by cases hb) (by simp) fun w5 h5 f5 z5 => ?_
    have hF : updF (if j < v then updF F v (dg to v) [] else F) j (dg to j) [] = if j - 1 < v then updF F v (dg to v) [] else F := by
      by_cases hjv : j < v
      · rw [if_pos hjv, if_pos (by omega)]
        exact updF_same (by rw [← if_pos (c := j < v) hjv (t := updF F v (dg to v) []) (e := F), hslot, if_pos hjv])
      · have : j = v := by omega
        subst this
        rw [if_neg hjv, if_pos (by omega)]
    rw [hF] at h5
    have hf4 : Fr8 w1 w4 (fpW d m ss) := (hf.ext (Ext.drew W)).trans f4 fun b hb1 hb2 => by have := hnm b hb2; omega
    rw [wrap_i64 (by omega) (by omega)]
    refine hnext _ _ ⟨j - 1, _, by omega, by simp only; omega, ?_, ?_, ?_, hf4.trans f5 fun b _ e => .inl e, h5⟩ (by simp only; omega)
    · simp only
      rw [if_pos (show j - 1 < v by omega)]
      refine b4.fr f5 fun b hb e => ?_
      have hdl := h.lt (.inl rfl : fpW d m ss d)
      rcases n4 b hb with g | g
      · have := hnm b g; omega
      · have : W.drew.heap.size ≤ b := g
        omega
    · simp only
      intro b hb
      rcases n4 b hb with g | g
      · exact hnm b g
      · have : W.drew.heap.size ≤ b := g
        omega
    · rintro b (hb | hb | ⟨q, u, hq, hu⟩)
      · exact .inl hb
      · exact .inr (.inl hb)
      · rw [List.getElem?_set] at hq
        split at hq
        · split at hq
          · cases hq; obtain ⟨o, ho⟩ := hu; cases ho
          · cases hq
        · exact hsub b (.inr (.inr ⟨q, u, hq, hu⟩))
  · rw [decide_eq_false hpos, cond_false]
    have : j = 0 := by omega
    subst this
    have hturn := hi.turn h1 h2 hto hlv
    have eM : (if 0 < v then F v (dg to v) else []) = if v = 0 then [] else F v (dg to v) := by
      by_cases hz : v = 0
      · rw [if_pos hz, if_neg (by omega)]
      · rw [if_neg hz, if_pos (by omega)]
    have eF : (if 0 < v then updF F v (dg to v) [] else F) = if v = 0 then F else updF F v (dg to v) [] := by
      by_cases hz : v = 0
      · rw [if_pos hz, if_neg (by omega)]
      · rw [if_neg hz, if_pos (by omega)]
    rw [eM] at hbm
    rw [eF] at hW
    have hMF : ∀ t ∈ (if v = 0 then [] else F v (dg to v)), t ∈ F v (dg to v) := fun t ht => by
      split at ht
      · simp at ht
      · exact ht
    have hMn : ((if v = 0 then [] else F v (dg to v)).map Tm.id).Nodup := by
      split
      · simp
      · exact hi.nd v _ hv7 hdv
    have hMl : (if v = 0 then [] else F v (dg to v)).length ≤ 2 ^ 20 := by
      split
      · simp
      · exact hmv
    generalize (if v = 0 then [] else F v (dg to v)) = Mv at hbm hturn hMF hMn hMl
    generalize (if v = 0 then F else updF F v (dg to v) []) = F1 at hW hturn
    simp only []
    refine hW.setNow to fun w5 h5 f5 z5 => ?_
    have hdl := h.lt (.inl rfl : fpW d m ss d)
    have hbm5 := hbm.fr f5 fun b hb e => by have := hnm b hb; omega
    have hf5 : Fr8 w1 w5 (fpW d m ss) := hf.trans f5 fun b _ e => .inl e
    have mlt : ∀ b, SliceV.at mv b → b < w5.heap.size := fun b hb => hbm5.lt hb
    have mlen := hbm.len
    refine LoopP_inv (fun st W' => ∃ i ss2 F2, i ≤ Mv.length ∧ st.1 = (i : Int) ∧ WM W' d m ss2 l to tn most F2 ∧ WI to (rest (lkF l) (Mv.drop i)) F2 ∧ BufN 3 eT W' mv Mv ∧ Fr8 w1 W' (fpW d m ss) ∧ (∀ b, fpW d m ss2 b → fpW d m ss b ∨ w5.heap.size ≤ b) ∧ w5.heap.size ≤ W'.heap.size) (fun st _ => Mv.length - st.1.toNat)
      ⟨0, ss', F1, by omega, rfl, h5, by simpa using hturn, hbm5, hf5, fun b hb => .inl (hsub b hb), Nat.le_refl _⟩ ?_
    rintro ⟨i, ⟨⟩⟩ W' ⟨i, ss2, F2, hin, hii, hW', hI', hbW, hfW, hsub2, hsz⟩ next' hnext'
    simp only at hii
    subst hii
    by_cases hlt : (i : Int) < (mv.len : Int)
    · rw [decide_eq_true hlt, cond_true]
      have hlt' : i < Mv.length := by omega
      have hx := List.getElem?_eq_getElem hlt'
      have hdr := List.drop_eq_getElem_cons hlt'
      generalize Mv[i] = t at hx hdr
      refine SlN_T (hbW.sl eT_len (by omega)) hx fun a c0 c1 c2 => ?_
      simp only [LdV_some, dec_int, c0, c1, c2]
      refine Al_f rfl rfl fun p w6 r6 e6 z6 f6 => ?_
      simp only [List.getElem?_cons_zero, List.getElem?_cons_succ, LdV_some, dec_int, add_mk, Nat.zero_add, Nat.add_zero, r6.cell]
      have h6 := hW'.ext f6
      have hmem := hMF t (List.mem_of_getElem? hx)
      have hp := ((hi.mem v _ t hv7 hdv).1 hmem).1
      have hpl := hi.pl _ _ hp
      have hrs : ∀ id u, rest (lkF l) (Mv.drop i) id = some u → lkF l id = some u := fun id u hu => (rest_some.1 hu).1
      refine cm_wheel_Wheel_put (wput_ok h6 h2 t hpl.2.2 fun n k hn hk => by have := WI.short hI' hrs hn hk; omega) ?_
      rintro w7 ⟨f7, n, ss3, hn7, hln, h7, hsub3⟩
      have mvd2 : ∀ b, SliceV.at mv b → ¬ fpW d m ss2 b := fun b hb hx => by
        rcases hsub2 b hx with g | g
        · have := h.lt g; have := hnm b hb; omega
        · have := mlt b hb; omega
      have hnn : rest (lkF l) (Mv.drop i) t.id = none := by
        unfold rest
        rw [hp, hdr]
        simp
      have hput := hI'.put hnn (hto _ _ hp) hpl.2.2 hln
      have htd : t ∉ Mv.drop (i + 1) := by
        intro hx2
        have hn2 := hMn.sublist ((List.drop_sublist i Mv).map Tm.id)
        rw [hdr, List.map_cons, List.nodup_cons] at hn2
        exact hn2.1 (List.mem_map.2 ⟨t, hx2, rfl⟩)
      rw [hdr, rest_cons hp (fun id u hu => (hi.pl id u hu).1) htd] at hput
      rw [wrap_i64 (by omega) (by omega)]
      have s6 := f6.size
      have s7 := f7.size
      refine hnext' _ _ ⟨i + 1, ss3, _, by omega, by simp, h7, hput, (hbW.ext f6).fr f7 fun b hb hx => mvd2 b hb hx, (hfW.ext f6).trans f7 fun b hb hx => ?_, fun b hb => ?_, by omega⟩ (by simp only; omega)
      · rcases hsub2 b hx with g | g
        · exact g
        · have := hf5.size; omega
      · rcases hsub3 b hb with g | g
        · exact hsub2 b g
        · exact .inr (by omega)
    · rw [decide_eq_false hlt, cond_false]
      have : i = Mv.length := by omega
      subst this
      rw [List.drop_length, rest_nil] at hI'
      exact ⟨hfW, ss2, F2, hW', hI', fun b hb => by
        rcases hsub2 b hb with g | g
        · exact .inl g
        · exact .inr (by have := hf5.size; omega)⟩

/-- A wheel that is right. -/
structure WS (w : World) (d m : Nat) (ss : List SliceV) (l : PL) (now : Nat) (tn most : Int) (F : Fs) : Prop where
  wm : WM w d m ss l now tn most F
  wi : WI now (lkF l) F
  mo : most ≤ 1048576 ∧ (l.length : Int) ≤ most
  tb : ∀ id t, lkF l id = some t → t.tn ≤ tn
  ti : ∀ id id' t u, lkF l id = some t → lkF l id' = some u → t.tn = u.tn → id = id'
  t0 : 0 ≤ tn

theorem WS.ext (h : WS w d m ss l now tn most F) (hf : Ext w w') : WS w' d m ss l now tn most F := ⟨h.wm.ext hf, h.wi, h.mo, h.tb, h.ti, h.t0⟩
theorem WS.fr {S : Nat → Prop} (h : WS w d m ss l now tn most F) (hf : Fr8 w w' S) (hs : ∀ b, fpW d m ss b → ¬ S b) : WS w' d m ss l now tn most F := ⟨h.wm.fr hf hs, h.wi, h.mo, h.tb, h.ti, h.t0⟩

def armE (l : PL) (most id at_ : Int) : Int := if id < 0 ∨ id > 2147483648 ∨ at_ < 0 ∨ at_ > 1099511627776 then 1 else if lkF l id = none ∧ most ≤ (l.length : Int) then 7 else 0

theorem up_len (l : PL) (a : Int) (b : Tm) : ((upF l a b).length : Int) = if lkF l a = none then (l.length : Int) + 1 else l.length := by
  have := congrArg List.length (up_keys l a b)
  rw [List.length_map] at this
  by_cases hm : a ∈ l.map (·.1)
  · rw [if_pos hm, List.length_map] at this
    rw [if_neg (by rw [lk_none]; simpa using hm), this]
  · rw [if_neg hm, List.length_append, List.length_map, List.length_singleton] at this
    rw [if_pos (lk_none.2 hm), this]; omega

theorem lk_upP (l : PL) (t : Tm) : lkF (upF l t.id t) = updP (lkF l) t.id (some t) := by
  funext id
  rw [lk_up]; rfl

theorem warm_ok (h : WS w d m ss l now tn most F) (id at_ : Int) (ht : tn < 2 ^ 62) :
    c_wheel_Wheel_Arm (some ⟨d, 0, none⟩) id at_ w fun e w' => e = armE l most id at_ ∧ Fr8 w w' (fpW d m ss) ∧
      ∃ ss' F', (∀ b, fpW d m ss' b → fpW d m ss b ∨ w.heap.size ≤ b) ∧
        WS w' d m ss' (if armE l most id at_ = 0 then upF l id ⟨id, max at_.toNat now, tn + 1⟩ else l) now (if armE l most id at_ = 0 then tn + 1 else tn) most F' := by
  apply ok_wheel_Wheel_Arm
  unfold s_wheel_Wheel_Arm
  have hm := h.mo
  have hnw := h.wi.nw
  refine cm_wheel_Wheel_ready (wready_ok h.wm) ?_
  rintro _ w2 ⟨rfl, hw⟩
  subst hw
  simp -zeta only [Bool.not_true, cond_false]
  intro J6
  have h6t : (id < 0 ∨ id > 2147483648 ∨ at_ < 0 ∨ at_ > 1099511627776) → J6 true := by
    intro hbad
    have e : armE l most id at_ = 1 := by unfold armE; rw [if_pos hbad]
    simp only [J6, cond_true]
    rw [e]
    exact ⟨by trivial, Fr8.refl _ _, ss, F, fun b hb => .inl hb, h⟩
  have h6f : ¬ (id < 0 ∨ id > 2147483648 ∨ at_ < 0 ∨ at_ > 1099511627776) → J6 false := by
    intro hok
    have eA : armE l most id at_ = if lkF l id = none ∧ most ≤ (l.length : Int) then 7 else 0 := by unfold armE; rw [if_neg hok]
    simp only [not_or] at hok
    simp -zeta only [J6, cond_false, cond_false, ex_some, Ld_eq, LdV_some, dec_map, add_mk, Nat.zero_add, h.wm.c448]
    have key : ∀ (K : Value → Bool → Prop), (∀ v b, (∃ t0 : Tm, v = .agg ⟨eT t0⟩ ∧ ∀ t, lkF l id = some t → t0 = t) → b = (lkF l id).isSome → K v b) → MapGetV Try.prog 3 (some m) (.int .i64 id) (.agg ⟨[.int .i64 0, .int .i64 0, .int .i64 0]⟩) w2 K := by
      intro K hh
      refine MapGetV_F (enc := encW) h.wm.mp eqW id (keyW id) (fun hl => hh _ _ ⟨⟨0, 0, 0⟩, rfl, fun t ht => by rw [hl] at ht; cases ht⟩ (by rw [hl]; rfl)) (fun b hl => hh _ _ ⟨b, rfl, fun t ht => by rw [hl] at ht; cases ht; rfl⟩ (by rw [hl]; rfl))
    refine key _ ?_
    rintro _ b11 ⟨t0, rfl, ht0⟩ hb11
    refine ⟨t0.id, (t0.a : Int), t0.tn, rfl, Al_f rfl rfl fun p w3 r3 e3 z3 f3 => ?_⟩
    have hw3 := h.wm.ext f3
    intro J18
    have h18t : lkF l id = none ∧ most ≤ (l.length : Int) → ∀ W, Ext w2 W → J18 true W := by
      intro hfull W hx
      rw [if_pos hfull] at eA
      simp only [J18, cond_true]
      rw [eA]
      exact ⟨by trivial, hx _, ss, F, fun b hb => .inl hb, h.ext hx⟩
    have h18f : ¬ (lkF l id = none ∧ most ≤ (l.length : Int)) → ∀ W, Ext w3 W → J18 false W := by
      intro hroom W hx
      rw [if_neg hroom] at eA
      simp -zeta only [J18, cond_false]
      intro J21
      have h21 : ∀ W1 ss1 F1, WM W1 d m ss1 l now tn most F1 → WI now (updP (lkF l) id none) F1 → Fr8 w2 W1 (fpW d m ss) → (∀ b, fpW d m ss1 b → fpW d m ss b ∨ w2.heap.size ≤ b) → J21 W1 := by
        intro W1 ss1 F1 g1 g2 g3 g4
        have htn0 := h.t0
        simp only [J21, LdV_some, dec_int, g1.c450]
        rw [wrap_i64 (n := tn + 1) (by omega) (by omega)]
        refine g1.setTn (tn + 1) fun w4 h4 f4 z4 => ?_
        have h4d := h4.ext (Ext.drew w4)
        simp only [LdV_some, dec_int, h4d.c449, h4d.c450]
        refine Al_e fun q w5 r5 e5 z5 f5 => ?_
        have h5 := h4d.ext f5
        simp only [true_and, add_mk, Nat.zero_add, Nat.add_zero, h5.c449, h5.c450]
        refine StN_full r5 rfl rfl fun w6 r6 f6 z6 => ?_
        have f6q := f6 (· = q) rfl
        have hq : ∀ b, fpW d m ss1 b → b ≠ q := fun b hb => by have := h4d.lt hb; omega
        have h6 := (h5.fr f6q hq).ext (Ext.drew w6)
        have r6d := r6.drew
        simp only [List.getElem?_cons_zero, List.getElem?_cons_succ, LdV_some, dec_int, dec_map, h6.c448, r6d.cell]
        have emax : (if (now : Int) > at_ then (now : Int) else at_) = ((max at_.toNat now : Nat) : Int) := by
          split <;> omega
        have hT : (Value.agg ⟨[.int .i64 id, .int .i64 (if (now : Int) > at_ then (now : Int) else at_), .int .i64 (tn + 1)]⟩ : Value) = .agg ⟨eT ⟨id, max at_.toNat now, tn + 1⟩⟩ := by rw [emax]
        rw [hT]
        refine h6.setM ⟨id, max at_.toNat now, tn + 1⟩ fun w7 h7 f7 z7 => ?_
        have hqm : m ≠ q := hq m (.inr (.inl rfl))
        have r7 := r6d.fr f7 (fun e => hqm e.symm)
        simp only [List.getElem?_cons_zero, List.getElem?_cons_succ, LdV_some, dec_int, r7.cell]
        rw [emax]
        have hamax : max at_.toNat now ≤ 2 ^ 40 := by omega
        have hsub0 : ∀ id' t, updP (lkF l) id none id' = some t → lkF l id' = some t := fun id' t hu => by
          unfold updP at hu
          split at hu
          · cases hu
          · exact hu
        refine cm_wheel_Wheel_put (wput_ok h7 hnw ⟨id, max at_.toNat now, tn + 1⟩ hamax fun n k hn hk => by have := WI.short g2 hsub0 hn hk; omega) ?_
        rintro w8 ⟨f8, n, ss8, hn, hln, h8, hs8⟩
        have hp := g2.put (t := ⟨id, max at_.toNat now, tn + 1⟩) (by unfold updP; simp) (by simp only; omega) hamax hln
        have eP : updP (updP (lkF l) id none) id (some ⟨id, max at_.toNat now, tn + 1⟩) = lkF (upF l id ⟨id, max at_.toNat now, tn + 1⟩) := by
          rw [lk_upP l ⟨id, max at_.toNat now, tn + 1⟩]
          funext id'
          unfold updP
          split <;> rfl
        rw [eP] at hp
        have f18 : Fr8 W1 w8 (fpW d m ss1) := ((((((f4.mono (S' := fpW d m ss1) fun b e => .inl e).ext (Ext.drew w4)).ext f5).trans f6q fun b hb e => by
            have h1z := f4.size
            have h2z : w4.drew.heap.size = w4.heap.size := rfl
            omega).ext (Ext.drew w6)).trans f7 fun b hb e => .inr (.inl e)).trans f8 fun b _ hb => hb
        have f28 : Fr8 w2 w8 (fpW d m ss) := g3.trans f18 fun b hb hb2 => by
          rcases g4 b hb2 with e | e
          · exact e
          · omega
        have s7 : w2.heap.size ≤ w7.heap.size := by
          have a1 := g3.size
          have a2 := f4.size
          have a3 := f5.size
          have a4 := f6q.size
          have a5 := f7.size
          have a6 : w4.drew.heap.size = w4.heap.size := rfl
          have a7 : w6.drew.heap.size = w6.heap.size := rfl
          omega
        obtain ⟨F8, h8, hp⟩ : ∃ F8, WM w8 d m ss8 (upF l id ⟨id, max at_.toNat now, tn + 1⟩) now (tn + 1) most F8 ∧ WI now (lkF (upF l id ⟨id, max at_.toNat now, tn + 1⟩)) F8 := ⟨_, h8, hp⟩
        refine ⟨eA.symm, f28, ss8, F8, fun b hb => ?_, ?_⟩
        · rcases hs8 b hb with e | e
          · exact g4 b e
          · exact .inr (by omega)
        · rw [eA, if_pos rfl, if_pos rfl]
          refine ⟨h8, hp, ⟨hm.1, ?_⟩, fun id' u hu => ?_, fun i1 i2 u1 u2 q1 q2 q3 => ?_, by omega⟩
          · rw [up_len]
            split
            · rename_i hn
              have : ¬ most ≤ (l.length : Int) := fun e => hroom ⟨hn, e⟩
              omega
            · exact hm.2
          · rw [lk_up] at hu
            split at hu
            · cases hu; exact Int.le_refl _
            · have := h.tb id' u hu; omega
          · rw [lk_up] at q1 q2
            split at q1
            · rename_i e1
              split at q2
              · rename_i e2; rw [e1, e2]
              · cases q1
                have := h.tb _ _ q2
                simp only at q3; omega
            · split at q2
              · cases q2
                have := h.tb _ _ q1
                simp only at q3; omega
              · exact h.ti _ _ _ _ q1 q2 q3
      clear_value J21
      have hW := hw3.ext hx
      have rW := r3.ext hx
      have xW := f3.trans hx
      cases hlk : lkF l id with
      | none =>
        rw [hlk] at hb11
        rw [hb11, Option.isSome_none, cond_false]
        refine h21 W ss F hW ?_ (xW _) fun b hb => .inl hb
        have : updP (lkF l) id none = lkF l := by
          funext id'
          unfold updP
          split
          · rename_i e; rw [e, hlk]
          · rfl
        rw [this]; exact h.wi
      | some t =>
        rw [hlk] at hb11
        have := ht0 t hlk
        subst this
        obtain ⟨p1, p2, p3⟩ := h.wi.pl id t0 hlk
        rw [hb11, Option.isSome_some, cond_true]
        simp only [List.getElem?_cons_zero, List.getElem?_cons_succ, LdV_some, dec_int, add_mk, Nat.zero_add, Nat.add_zero, rW.cell]
        refine cm_wheel_Wheel_take (wtake_ok hW hnw t0 p3) ?_
        rintro w4 ⟨f4, n, ss4, hn, hln, h4, hs4⟩
        have htk := h.wi.take hlk hln
        rw [p1] at h4
        exact h21 w4 ss4 _ h4 htk ((xW _).trans f4 fun b _ e => e) fun b hb => by
          rcases hs4 b hb with e | e
          · exact .inl e
          · exact .inr (Nat.le_trans xW.size e)
    clear_value J18
    cases hlk : lkF l id with
    | none =>
      rw [hlk] at hb11
      rw [hb11, Option.isSome_none, Bool.not_false, cond_true]
      have hw3d := hw3.ext (Ext.drew w3)
      simp only [LdV_some, dec_int, dec_map, hw3d.c448, hw3d.c451]
      refine MapLen_F hw3d.mp ⟨by trivial, ?_⟩
      by_cases hful : (l.length : Int) ≥ most
      · rw [decide_eq_true hful]; exact h18t ⟨hlk, hful⟩ _ (f3.trans (Ext.drew w3))
      · rw [decide_eq_false hful]; exact h18f (fun e => hful e.2) _ (Ext.drew w3)
    | some t =>
      rw [hlk] at hb11
      rw [hb11, Option.isSome_some, Bool.not_true, cond_false]
      exact h18f (fun e => by rw [hlk] at e; cases e.1) _ (Ext.drew w3)
  clear_value J6
  by_cases c1 : id < 0
  · rw [decide_eq_true c1, cond_true]; exact h6t (.inl c1)
  · rw [decide_eq_false c1, cond_false]
    by_cases c2 : id > 2147483648
    · rw [decide_eq_true c2, cond_true]; exact h6t (.inr (.inl c2))
    · rw [decide_eq_false c2, cond_false]
      by_cases c3 : at_ < 0
      · rw [decide_eq_true c3, cond_true]; exact h6t (.inr (.inr (.inl c3)))
      · rw [decide_eq_false c3, cond_false]
        by_cases c4 : at_ > 1099511627776
        · rw [decide_eq_true c4]; exact h6t (.inr (.inr (.inr c4)))
        · rw [decide_eq_false c4]; exact h6f (by omega)
end
end Go.Proofs
