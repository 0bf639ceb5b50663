import Derived.Test.YtjllddbdblccgaaWh5
/- The law WheelSteps. -/
namespace Go.Proofs
open Gp Gp.Wh
set_option maxRecDepth 100000

theorem adv_pure {L l2 l3 : PL} {O D : List Tm} {T : Nat} (hid : ∀ id t, lkF l2 id = some t → t.id = id) (hso : O.Pairwise ltT) (hlk : ∀ id t, lkF l2 id = some t ↔ lkF L id = some t ∧ t ∉ O) (hO : ∀ t ∈ O, lkF L t.id = some t)
    (hOl : ∀ t ∈ O, ∀ id u, lkF l2 id = some u → t.a < u.a) (hD : D.Pairwise ltT) (hDm : ∀ t, t ∈ D ↔ lkF l2 t.id = some t ∧ t.a ≤ T) (hlk3 : ∀ id t, lkF l3 id = some t ↔ lkF l2 id = some t ∧ T < t.a) :
    (O ++ D).Pairwise ltT ∧ (∀ id t, lkF l3 id = some t ↔ lkF L id = some t ∧ t ∉ O ++ D) ∧ (∀ t ∈ O ++ D, lkF L t.id = some t) ∧ ∀ t ∈ O ++ D, ∀ id u, lkF l3 id = some u → t.a < u.a := by
  refine ⟨?_, fun id t => ?_, fun t ht => ?_, fun t ht id u hu => ?_⟩
  · rw [List.pairwise_append]
    exact ⟨hso, hD, fun x hx y hy => .inl (hOl x hx _ y ((hDm y).1 hy).1)⟩
  · rw [hlk3, hlk, List.mem_append, not_or, and_assoc]
    constructor
    · rintro ⟨g1, g2, g3⟩
      exact ⟨g1, g2, fun h => by have := ((hDm t).1 h).2; omega⟩
    · rintro ⟨g1, g2, g3⟩
      refine ⟨g1, g2, Classical.byContradiction fun hn => g3 ((hDm t).2 ⟨?_, by omega⟩)⟩
      have := (hlk id t).2 ⟨g1, g2⟩
      rw [hid id t this]; exact this
  · rcases List.mem_append.1 ht with g | g
    · exact hO t g
    · exact ((hlk _ _).1 ((hDm t).1 g).1).1
  · obtain ⟨q1, q2⟩ := (hlk3 id u).1 hu
    rcases List.mem_append.1 ht with g | g
    · exact hOl t g id u q1
    · have := ((hDm t).1 g).2; omega

theorem steps17_ok {w : World} {s : SliceV} {xs : List Int} {by_ : Int} (hb : 0 ≤ by_ ∧ by_ < 256) (hs : SlN 1 e16 w s xs) (hr : ∀ x ∈ xs, 0 ≤ x ∧ x < 65536) :
    c_law17_WheelSteps s by_ w fun r w' => r = true ∧ Ext w w' := by
  apply ok_law17_WheelSteps
  unfold s_law17_WheelSteps
  have hlen := hs.len
  refine cm_law17_awake (awake17_ok w) ?_
  rintro _ w1 ⟨rfl, f1⟩
  simp -zeta only [Bool.not_true, cond_false]
  by_cases hbig : (s.len : Int) > 60
  · rw [decide_eq_true hbig, cond_true]
    refine cm_law17_awake (awake17_ok w1) ?_
    rintro _ w2 ⟨rfl, f2⟩
    exact ⟨rfl, f1.trans f2⟩
  rw [decide_eq_false hbig, cond_false]
  refine cm_wheel_New (wnew_ok 100 (by omega) w1) ?_
  rintro p e w2 ⟨f2, rfl, d1, m1, ss1, rfl, h1, hfp1⟩
  refine cm_wheel_New (wnew_ok 100 (by omega) w2) ?_
  rintro p e w3 ⟨f3, rfl, d2, m2, ss2, rfl, h2, hfp2⟩
  have hdis : ∀ b, fpW d1 m1 ss1 b → ¬ fpW d2 m2 ss2 b := fun b hb1 hb2 => by
    have := h1.wm.lt hb1
    have := hfp2 b hb2
    omega
  have h1 := h1.ext f3
  have s1 := f1.size
  have s2 := f2.size
  have s3 := f3.size
  intro J13
  simp -zeta only [Option.isNone_some, show ((0 : Int) != 0) = false from rfl, cond_false]
  show J13 false
  simp -zeta only [J13, cond_false]
  clear_value J13
  have x3 : Ext w w3 := (f1.trans f2).trans f3
  refine LoopP_inv (fun st W => ∃ (i : Nat) (L : PL) (u1 u2 : List SliceV) (F1 F2 : Fs), i ≤ xs.length ∧ st.1 = (i : Int) ∧ WS W d1 m1 u1 L 0 (i : Int) 100 F1 ∧ WS W d2 m2 u2 L 0 (i : Int) 100 F2 ∧ (∀ b, fpW d1 m1 u1 b → ¬ fpW d2 m2 u2 b) ∧
      (∀ b, fpW d1 m1 u1 b → w.heap.size ≤ b) ∧ (∀ b, fpW d2 m2 u2 b → w.heap.size ≤ b) ∧ Ext w W ∧ L.length = i ∧ ∀ id t, lkF L id = some t → id < (i : Int) ∧ t.a ≤ 65535) (fun st _ => xs.length - st.1.toNat)
    ⟨0, [], ss1, ss2, _, _, by omega, rfl, h1, h2, hdis, fun b hb => by have := hfp1 b hb; omega, fun b hb => by have := hfp2 b hb; omega, x3, rfl, fun id t ht => by cases ht⟩ ?_
  rintro ⟨i0, ⟨⟩⟩ W ⟨i, L, u1, u2, F1, F2, hi, hii, g1, g2, hd12, hn1, hn2, hx, hLl, hL⟩ next hnext
  simp only at hii
  subst hii
  dsimp -zeta only
  by_cases hlt : (i : Int) < (s.len : Int)
  · rw [decide_eq_true hlt, cond_true]
    have q1 := List.getElem?_eq_getElem (show i < xs.length by omega)
    have hv := hr _ (List.getElem_mem (show i < xs.length by omega))
    generalize xs[i]'(by omega) = v at q1 hv
    obtain ⟨x, rfl⟩ : ∃ x : Nat, v = (x : Int) := ⟨v.toNat, by omega⟩
    refine SlN_ix e16_len (by omega) (hs.ext hx) (by omega) (by rw [Int.toNat_natCast]; exact q1) fun q hc => ?_
    have c0 := hc 0 _ rfl
    rw [show q.add 0 = q from rfl] at c0
    simp only [Ld_eq, c0, LdV_some, dec_int]
    rw [wrap_i64 (n := (x : Int)) (by omega) (by omega)]
    have hnone : lkF L (i : Int) = none := by
      cases hq : lkF L (i : Int) with
      | none => rfl
      | some t => have := (hL _ _ hq).1; omega
    have eA : armE L 100 (i : Int) (x : Int) = 0 := by
      unfold armE
      rw [if_neg (by omega), if_neg (by omega)]
    have emax : max (x : Int).toNat 0 = x := by omega
    refine cm_wheel_Wheel_Arm (warm_ok g1 (i : Int) (x : Int) (by omega)) ?_
    rintro _ w4 ⟨_, f4, u3, F3, hu3, g3⟩
    rw [eA, if_pos rfl, if_pos rfl, emax] at g3
    have g2' := g2.fr f4 fun b hb2 hb1 => hd12 b hb1 hb2
    refine cm_wheel_Wheel_Arm (warm_ok g2' (i : Int) (x : Int) (by omega)) ?_
    rintro _ w5 ⟨_, f5, u4, F4, hu4, g4⟩
    rw [eA, if_pos rfl, if_pos rfl, emax] at g4
    have d32 : ∀ b, fpW d1 m1 u3 b → ¬ fpW d2 m2 u2 b := fun b hb1 hb2 => by
      rcases hu3 b hb1 with g | g
      · exact hd12 b g hb2
      · have := g2.wm.lt hb2; omega
    have g3' := g3.fr f5 fun b hb1 hb2 => d32 b hb1 hb2
    have hxz := hx.size
    have z4 := f4.size
    rw [wrap_i64 (by omega) (by omega)]
    have x4 : Ext w w4 := hx.new f4 fun y hy hb => by have := hn1 y hb; omega
    have ei : (i : Int) + 1 = ((i + 1 : Nat) : Int) := by omega
    rw [ei] at g3' g4 ⊢
    refine hnext _ _ ⟨i + 1, _, u3, u4, F3, F4, by omega, rfl, g3', g4, fun b hb1 hb2 => ?_, fun b hb => ?_, fun b hb => ?_, x4.new f5 fun y hy hb => by have := hn2 y hb; omega, ?_, fun id t ht => ?_⟩ (by simp only; omega)
    · rcases hu4 b hb2 with g | g
      · exact d32 b hb1 g
      · have := g3.wm.lt hb1; omega
    · rcases hu3 b hb with g | g
      · exact hn1 b g
      · omega
    · rcases hu4 b hb with g | g
      · exact hn2 b g
      · omega
    · have := up_len L (i : Int) ⟨(i : Int), x, ((i + 1 : Nat) : Int)⟩
      rw [if_pos hnone] at this
      omega
    · rw [lk_up] at ht
      split at ht
      · cases ht
        refine ⟨by omega, ?_⟩
        simp only; omega
      · have := hL id t ht
        exact ⟨by omega, this.2⟩
  · rw [decide_eq_false hlt, cond_false]
    have hie : i = xs.length := by omega
    refine cm_wheel_Wheel_Advance (wadvance_ok g1 131072 (T := 131072) (by decide)) ?_
    rintro r w4 ⟨f4, D1, hD1, hDm1, b4, n4, u3, l3, F3, g3, hlk3, hlen3, hu3, hd3⟩
    have g2' := g2.fr f4 fun b hb2 hb1 => hd12 b hb1 hb2
    have hxz := hx.size
    have z4 := f4.size
    have x4 : Ext w w4 := hx.new f4 fun y hy hb => by have := hn1 y hb; omega
    have r2 : ∀ b, SliceV.at r b → ¬ fpW d2 m2 u2 b := fun b hb1 hb2 => by have := g2.wm.lt hb2; have := n4 b hb1; omega
    have hstep : IntKind.i64.wrap (97 + (IntKind.i64.wrap (40 * (IntKind.i64.wrap by_)))) = 97 + 40 * by_ := by
      rw [wrap_i64 (n := by_) (by omega) (by omega), wrap_i64 (n := 40 * by_) (by omega) (by omega), wrap_i64 (by omega) (by omega)]
    obtain ⟨stp, hst, hst1, hst2⟩ : ∃ k : Nat, 97 + 40 * by_ = (k : Int) ∧ 97 ≤ k ∧ k ≤ 11000 := ⟨(97 + 40 * by_).toNat, by omega, by omega, by omega⟩
    rw [hstep, hst]
    refine LoopP_inv (fun st W => ∃ (n T2 : Nat) (O : List Tm) (u5 : List SliceV) (l2 : PL) (F5 : Fs), n ≤ 80000 ∧ st.2.1 = (n : Int) ∧ T2 ≤ n ∧ WS W d2 m2 u5 l2 T2 (i : Int) 100 F5 ∧ BufN 1 eI W st.1 (O.map Tm.id) ∧ (∀ b, SliceV.at st.1 b → w4.heap.size ≤ b ∧ ¬ fpW d2 m2 u5 b) ∧
        O.Pairwise ltT ∧ (∀ id t, lkF l2 id = some t ↔ lkF L id = some t ∧ t ∉ O) ∧ (∀ t ∈ O, lkF L t.id = some t) ∧ (∀ t ∈ O, ∀ id u, lkF l2 id = some u → t.a < u.a) ∧ l2.length + O.length = L.length ∧
        BufN 1 eI W r (D1.map Tm.id) ∧ (∀ b, SliceV.at r b → ¬ fpW d2 m2 u5 b) ∧ Ext w W ∧ (∀ b, fpW d2 m2 u5 b → w.heap.size ≤ b) ∧ w4.heap.size ≤ W.heap.size) (fun st _ => 70000 - st.2.1.toNat)
      ⟨0, 0, [], u2, L, F2, by omega, rfl, by omega, g2', BufN.nil, (fun b ⟨o, hb⟩ => by cases hb), List.Pairwise.nil, fun id t => by simp, by simp, by simp, by simp, b4, r2, x4, hn2, Nat.le_refl _⟩ ?_
    rintro ⟨out, n0, ⟨⟩⟩ W' ⟨n, T2, O, u5, l2, F5, hn8, hnn, hT2, g5, hbo, hno, hso, hlk, hO, hOl, hlenO, hbr, hrd, hx', hn5, hw4⟩ next' hnext'
    simp only at hnn hbo hno
    subst hnn
    dsimp -zeta only
    have hx'z := hx'.size
    have rlt : ∀ b, SliceV.at r b → b < w4.heap.size := fun b hb => b4.lt hb
    -- one step
    have step : ∀ (a : Nat), T2 ≤ a → a ≤ 2 ^ 40 → ∀ (K : SliceV → World → Prop), (∀ (o : SliceV) (W2 : World) (O2 : List Tm) (u6 : List SliceV) (l6 : PL) (F6 : Fs), WS W2 d2 m2 u6 l6 a (i : Int) 100 F6 → BufN 1 eI W2 o (O2.map Tm.id) → (∀ b, SliceV.at o b → w4.heap.size ≤ b ∧ ¬ fpW d2 m2 u6 b) →
        O2.Pairwise ltT → (∀ id t, lkF l6 id = some t ↔ lkF L id = some t ∧ t ∉ O2) → (∀ t ∈ O2, lkF L t.id = some t) → (∀ t ∈ O2, ∀ id u, lkF l6 id = some u → t.a < u.a) → l6.length + O2.length = L.length → (∀ id t, lkF l6 id = some t → a < t.a) →
        BufN 1 eI W2 r (D1.map Tm.id) → (∀ b, SliceV.at r b → ¬ fpW d2 m2 u6 b) → Ext w W2 → (∀ b, fpW d2 m2 u6 b → w.heap.size ≤ b) → w4.heap.size ≤ W2.heap.size → K o W2) →
        c_wheel_Wheel_Advance (some ⟨d2, 0, none⟩) (a : Int) W' fun r29 w30 => AppSl 3 1 8 [(Value.int .i64 0)] out r29 w30 K := by
      intro a ha1 ha2 K hK
      refine cm_wheel_Wheel_Advance (wadvance_ok g5 (a : Int) (T := a) (by omega)) ?_
      rintro r6 w6 ⟨f6, D, hD, hDm, b6, n6, u6, l6, F6, g6, hlk6, hlen6, hu6, hd6⟩
      have z6 := f6.size
      have out6 : ∀ b, SliceV.at out b → ¬ fpW d2 m2 u6 b := fun b hb1 hb2 => by
        rcases hu6 b hb2 with g | g
        · exact (hno b hb1).2 g
        · have := hbo.lt hb1; omega
      have hbo6 := hbo.fr f6 fun b hb e => (hno b hb).2 e
      refine AppSl_bufN eI_len hbo6 (b6.sl eI_len (by omega)) rfl (by omega) eI_one (by rw [List.length_map, List.length_map]; omega) (by rw [List.length_map, List.length_map]; omega) fun o7 w7 b7 f7 n7 => ?_
      rw [← List.map_append] at b7
      obtain ⟨p1, p2, p3, p4⟩ := adv_pure (fun id t ht => (g5.wi.pl id t ht).1) hso hlk hO hOl hD hDm hlk6
      have g7 := g6.fr f7 fun b hb e => out6 b e hb
      have hbr7 := (hbr.fr f6 fun b hb e => hrd b hb e).fr f7 fun b hb e => by have := rlt b hb; have := (hno b e).1; omega
      have x6 : Ext w w6 := hx'.new f6 fun y hy hb => by have := hn5 y hb; omega
      have x7 : Ext w w7 := x6.new f7 fun y hy hb => by have := (hno y hb).1; omega
      have z7 := f7.size
      refine hK o7 w7 (O ++ D) u6 l6 F6 g7 b7 (fun b hb => ?_) p1 p2 p3 p4 (by rw [List.length_append]; omega) (fun id t ht => ((hlk6 id t).1 ht).2) hbr7 (fun b hb e => ?_) x7 (fun b hb => ?_) (by omega)
      · rcases n7 b hb with g | g
        · exact ⟨(hno b g).1, out6 b g⟩
        · exact ⟨by omega, fun e => by have := g6.wm.lt e; omega⟩
      · rcases hu6 b e with g | g
        · exact hrd b hb g
        · have := rlt b hb; omega
      · rcases hu6 b hb with g | g
        · exact hn5 b g
        · omega
    by_cases hle : (n : Int) ≤ 65536
    · rw [decide_eq_true hle, cond_true]
      refine step n hT2 (by omega) _ fun o W2 O2 u6 l6 F6 k1 k2 k3 k4 k5 k6 k7 k8 k9 k10 k11 k12 k13 k14 => ?_
      rw [show ((n : Int) + (stp : Int)) = ((n + stp : Nat) : Int) by omega, wrap_i64 (by omega) (by omega)]
      exact hnext' _ _ ⟨n + stp, n, O2, u6, l6, F6, by omega, rfl, by omega, k1, k2, k3, k4, k5, k6, k7, k8, k10, k11, k12, k13, k14⟩ (by simp only; omega)
    · rw [decide_eq_false hle, cond_false]
      refine step 131072 (by omega) (by omega) _ fun o W2 O2 u6 l6 F6 k1 k2 k3 k4 k5 k6 k7 k8 k9 k10 k11 k12 k13 k14 => ?_
      have hall : ∀ id, lkF l6 id = none := fun id => by
        cases hq : lkF l6 id with
        | none => rfl
        | some t =>
          have q2 := k9 id t hq
          have q3 := (hL id t ((k5 id t).1 hq).1).2
          omega
      have hDO : D1 = O2 := by
        refine ltT_one hD1 k4 fun t => ?_
        rw [hDm1]
        constructor
        · rintro ⟨q1, _⟩
          refine Classical.byContradiction fun hn => ?_
          have := (k5 t.id t).2 ⟨q1, hn⟩
          rw [hall] at this; cases this
        · intro ht
          have q1 := k6 t ht
          exact ⟨q1, by have := (hL _ _ q1).2; omega⟩
      subst hDO
      have hz3 : l3.length = 0 := by
        have : l3 = [] := lk_nil fun id => by
          cases hq : lkF l3 id with
          | none => rfl
          | some t =>
            obtain ⟨q1, q2⟩ := (hlk3 id t).1 hq
            have := (hL _ _ q1).2
            omega
        rw [this]; rfl
      have rl := b4.len
      rw [List.length_map] at rl
      have el : ((r.len : Int) == (s.len : Int)) = true := by
        rw [beq_iff_eq]; omega
      rw [el, cond_true]
      refine cm_slices_Equal_int_int (equalI_ok (k10.sl eI_len (by omega)) (k2.sl eI_len (by omega)) (by rw [List.length_map]; omega)) ?_
      rintro _ w9 ⟨rfl, f9⟩
      rw [decide_eq_true rfl, cond_true]
      refine cm_law17_awake (awake17_ok w9) ?_
      rintro _ w10 ⟨rfl, f10⟩
      exact ⟨rfl, (k12.trans f9).trans f10⟩
end Go.Proofs
