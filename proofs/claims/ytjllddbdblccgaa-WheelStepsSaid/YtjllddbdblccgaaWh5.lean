import Derived.Test.YtjllddbdblccgaaWh4
/- The laws WheelOnce and WheelSteps. -/
namespace Go.Proofs
open Gp Gp.Wh
set_option maxRecDepth 100000

theorem SlN_I {w : World} {s : SliceV} {l : List Int} (h : SlN 1 eI w s l) {k : Nat} {z : Int} (hk : l[k]? = some z) {K : Addr → Prop} (hK : ∀ a, w.cell? a = some (.int .i64 z) → K a) : AtIx s 1 (k : Int) K :=
  SlN_ix eI_len (by omega) h (by omega) (by rw [Int.toNat_natCast]; exact hk) fun a hc => hK a (hc 0 _ rfl)

theorem equalI_ok {w : World} {s t : SliceV} {xs ys : List Int} (hs : SlN 1 eI w s xs) (ht : SlN 1 eI w t ys) (hl : xs.length ≤ 2 ^ 40) :
    c_slices_Equal_int_int s t w fun r w' => r = decide (xs = ys) ∧ Ext w w' := by
  apply ok_slices_Equal_int_int
  unfold s_slices_Equal_int_int
  have l1 := hs.len
  have l2 := ht.len
  by_cases hlen : xs.length = ys.length
  · rw [show ((s.len : Int) != (t.len : Int)) = false by rw [bne_eq_false_iff_eq]; omega, cond_false]
    refine LoopP_inv (fun st W => Ext w W ∧ ∃ i : Nat, i ≤ xs.length ∧ st.1 = (i : Int) ∧ xs.take i = ys.take i) (fun st _ => (s.len - st.1).toNat) ⟨Ext.refl _, 0, by omega, rfl, by simp⟩ ?_
    rintro ⟨i, ⟨⟩⟩ W ⟨hx, i, hi, hii, he⟩ next hnext
    simp only at hii
    subst hii
    by_cases hlt : (i : Int) < (s.len : Int)
    · rw [decide_eq_true hlt, cond_true]
      have g1 := List.getElem?_eq_getElem (show i < xs.length by omega)
      have g2 := List.getElem?_eq_getElem (show i < ys.length by omega)
      have k1 : xs.take (i + 1) = xs.take i ++ [xs[i]'(by omega)] := List.take_succ_eq_append_getElem (by omega)
      have k2 : ys.take (i + 1) = ys.take i ++ [ys[i]'(by omega)] := List.take_succ_eq_append_getElem (by omega)
      generalize xs[i]'(by omega) = a at g1 k1
      generalize ys[i]'(by omega) = b at g2 k2
      have y := hx.trans (Ext.drew W)
      refine SlN_I (hs.ext y) g1 fun q1 c1 => ?_
      simp only [Ld_eq, c1, LdV_some, dec_int]
      refine SlN_I (ht.ext y) g2 fun q2 c2 => ?_
      simp only [c2, LdV_some, dec_int]
      by_cases hab : a = b
      · subst hab
        rw [bne_self_eq_false, cond_false, wrap_i64 (by omega) (by omega)]
        exact hnext _ _ ⟨y, i + 1, by omega, by simp, by rw [k1, k2, he]⟩ (by simp only; omega)
      · rw [show (a != b) = true by simpa using hab, cond_true]
        refine ⟨?_, y⟩
        symm
        refine decide_eq_false fun e => hab ?_
        rw [e, g2] at g1
        exact (Option.some.inj g1).symm
    · rw [decide_eq_false hlt, cond_false]
      rw [List.take_of_length_le (by omega), List.take_of_length_le (by omega)] at he
      exact ⟨(decide_eq_true he).symm, hx⟩
  · rw [show ((s.len : Int) != (t.len : Int)) = true by simp; omega, cond_true]
    exact ⟨(decide_eq_false fun e => hlen (by rw [e])).symm, Ext.refl _⟩

theorem ltT_irrefl (x : Tm) : ¬ ltT x x := by unfold ltT; omega
theorem ltT_asymm {x y : Tm} (h : ltT x y) : ¬ ltT y x := by unfold ltT at *; omega

/-- One list alone has these timers in this order. -/
theorem ltT_one : ∀ {D E : List Tm}, D.Pairwise ltT → E.Pairwise ltT → (∀ t, t ∈ D ↔ t ∈ E) → D = E
  | [], [], _, _, _ => rfl
  | [], e :: E, _, _, h => by have := (h e).2 (by simp); simp at this
  | x :: D, [], _, _, h => by have := (h x).1 (by simp); simp at this
  | x :: D, e :: E, hD, hE, h => by
    rw [List.pairwise_cons] at hD hE
    have hxe : x = e := by
      rcases List.mem_cons.1 ((h x).1 (by simp)) with g | g
      · exact g
      · rcases List.mem_cons.1 ((h e).2 (by simp)) with g' | g'
        · exact g'.symm
        · exact absurd (hE.1 x g) (ltT_asymm (hD.1 e g'))
    subst hxe
    rw [ltT_one hD.2 hE.2 fun t => ?_]
    constructor
    · intro ht
      rcases List.mem_cons.1 ((h t).1 (by simp [ht])) with g | g
      · rw [g] at ht; exact absurd (hD.1 x ht) (ltT_irrefl x)
      · exact g
    · intro ht
      rcases List.mem_cons.1 ((h t).2 (by simp [ht])) with g | g
      · rw [g] at ht; exact absurd (hE.1 x ht) (ltT_irrefl x)
      · exact g

theorem Al_mapF {α β : Type} {enc : α → Value} {ev : β → Value} {w : World} {K : Addr → World → Prop} (h : ∀ w1, MapF enc ev w1 w.heap.size [] → w1.heap.size = w.heap.size + 1 → Ext w w1 → K ⟨w.heap.size, 0, none⟩ w1) : Al w (.map #[] 0) K :=
  h _ (MapF.new w enc ev) (by simp) (fun S => Fr8.alloc w _ S)

theorem wnew_ok (n : Int) (hn : 0 ≤ n ∧ n ≤ 1048576) (w : World) : c_wheel_New n w fun p e w' => Ext w w' ∧ e = 0 ∧ ∃ d m ss, p = some ⟨d, 0, none⟩ ∧ WS w' d m ss [] 0 0 n (fun _ _ => []) ∧ ∀ b, fpW d m ss b → w.heap.size ≤ b := by
  apply ok_wheel_New
  unfold s_wheel_New
  have c1 : ¬ n < 0 := by omega
  have c2 : ¬ n > 1048576 := by omega
  simp only [c1, c2, decide_false, cond_false]
  refine Al_mapF (enc := encW) (ev := evT) fun w4 m4 z4 f4 => ?_
  refine Al_e fun d w5 r5 e5 z5 f5 => ?_
  have hss : ∀ (i : Nat) (s : SliceV), (List.replicate 448 (⟨none, 0, 0⟩ : SliceV))[i]? = some s → s = ⟨none, 0, 0⟩ := fun i s hi => by
    rw [List.getElem?_replicate] at hi
    split at hi
    · cases hi; rfl
    · cases hi
  have noat : ∀ b, ¬ atS (List.replicate 448 (⟨none, 0, 0⟩ : SliceV)) b := fun b ⟨i, s, hi, o, hs⟩ => by rw [hss i s hi] at hs; cases hs
  refine ⟨f4.trans f5, by trivial, d, w.heap.size, List.replicate 448 ⟨none, 0, 0⟩, rfl, ⟨⟨?_, by simp, m4.ext f5, by simp, fun n k hn hk => ?_, fun i j s s' b hij hi hj hb => ?_, fun b hb => absurd hb (noat b), by omega, fun _ _ _ _ => by simp⟩, ⟨fun id t ht => ?_, by omega, fun n k t hn hk => ?_, fun n k hn hk => by simp⟩, ⟨by omega, by simpa using hn.1⟩, fun id t ht => ?_, fun i i' t u ht => ?_, by omega⟩, fun b hb => ?_⟩
  · rw [List.map_replicate]; exact r5
  · refine ⟨⟨none, 0, 0⟩, ?_, BufN.nil⟩
    rw [List.getElem?_replicate, if_pos (by omega)]
  · rw [hss i s hi] at hb; obtain ⟨o, ho⟩ := hb; cases ho
  · cases ht
  · constructor
    · intro hx; simp at hx
    · rintro ⟨hx, _⟩; cases hx
  · cases ht
  · cases ht
  · rcases hb with rfl | rfl | hb
    · omega
    · omega
    · exact absurd hb (noat b)

theorem lk_one (id : Int) (t : Tm) (id' : Int) : lkF [(id, t)] id' = if id' = id then some t else none := by
  unfold lkF
  rfl

theorem awake17_ok (w : World) : c_law17_awake w fun r w' => r = true ∧ Ext w w' := by
  apply ok_law17_awake
  unfold s_law17_awake
  refine cm_wheel_New (wnew_ok 9 (by omega) w) ?_
  rintro p e w1 ⟨f1, rfl, d, m, ss, rfl, h, hfp⟩
  simp -zeta only [Option.isNone_some, show ((0 : Int) != 0) = false from rfl, cond_false]
  intro J4
  refine cm_wheel_Wheel_Arm (warm_ok h 1 5 (by omega)) ?_
  rintro e2 w2 ⟨rfl, f2, ss2, F2, hs2, h2⟩
  have a1 : armE ([] : PL) 9 1 5 = 0 := by unfold armE; simp [lkF]
  rw [a1] at h2 ⊢
  simp -zeta only [show ((0 : Int) != 0) = false from rfl, cond_false]
  rw [if_pos rfl, if_pos rfl] at h2
  refine cm_wheel_Wheel_Arm (warm_ok h2 2 3 (by omega)) ?_
  rintro e3 w3 ⟨rfl, f3, ss3, F3, hs3, h3⟩
  have a2 : armE (upF ([] : PL) 1 ⟨1, max (5 : Int).toNat 0, 0 + 1⟩) 9 2 3 = 0 := by unfold armE upF; simp
  rw [a2] at h3 ⊢
  rw [if_pos rfl, if_pos rfl] at h3
  show J4 false w3
  simp -zeta only [J4, cond_false]
  have s1 := f1.size
  have fp3 : ∀ b, fpW d m ss3 b → w.heap.size ≤ b := fun b hb => by
    have s2 := f2.size
    rcases hs3 b hb with g | g
    · rcases hs2 b g with g | g
      · exact hfp b g
      · omega
    · omega
  have x3 : Ext w w3 := (f1.new f2 fun y hy hx => by have := hfp y hx; omega).new f3 fun y hy hx => by
    rcases hs2 y hx with g | g
    · have := hfp y g; omega
    · omega
  refine cm_wheel_Wheel_Advance (wadvance_ok h3 5 (T := 5) (by decide)) ?_
  rintro r w4 ⟨f4, D, hD, hDm, b4, n4, ss4, l4, F4, h4, hlk4, hlen4, hs4, hd4⟩
  have hDe : D = [⟨2, 3, 2⟩, ⟨1, 5, 1⟩] := by
    refine ltT_one hD ?_ fun t => ?_
    · refine List.pairwise_cons.2 ⟨fun y hy => ?_, List.pairwise_cons.2 ⟨by simp, List.Pairwise.nil⟩⟩
      rw [List.mem_singleton.1 hy]; exact .inl (by simp only; omega)
    · rw [hDm]
      have e : lkF (upF (upF ([] : PL) 1 ⟨1, max (5 : Int).toNat 0, 0 + 1⟩) 2 ⟨2, max (3 : Int).toNat 0, 0 + 1 + 1⟩) t.id = if t.id = 2 then some ⟨2, 3, 2⟩ else if t.id = 1 then some ⟨1, 5, 1⟩ else none := by
        rw [lk_up, lk_up]; rfl
      rw [e, List.mem_cons, List.mem_singleton]
      constructor
      · rintro ⟨g1, g2⟩
        split at g1
        · cases g1; exact .inl rfl
        · split at g1
          · cases g1; exact .inr rfl
          · cases g1
      · rintro (rfl | rfl)
        · exact ⟨rfl, by simp only; omega⟩
        · exact ⟨rfl, by simp only; omega⟩
  subst hDe
  refine Al_e fun q w5 r5 e5 z5 f5 => ?_
  have hel : SlN 1 eI w5 ⟨some ⟨q, 0, none⟩, 2, 2⟩ [2, 1] := (BufN.row (xs := [2, 1]) (f := eI) (n := 1) (by simpa using r5)).sl eI_len (by omega)
  refine cm_slices_Equal_int_int (equalI_ok ((b4.ext f5).sl eI_len (by omega)) hel (by simp)) ?_
  rintro _ w6 ⟨rfl, f6⟩
  have : decide (([⟨2, 3, 2⟩, ⟨1, 5, 1⟩] : List Tm).map Tm.id = [2, 1]) = true := rfl
  rw [this, cond_true]
  have x4 : Ext w w4 := x3.new f4 fun y hy hx => by have := fp3 y hx; omega
  refine cm_wheel_Wheel_Len (wlen_ok ((h4.ext f5).ext f6).wm) ?_
  rintro _ w7 ⟨rfl, hw⟩
  subst hw
  have : l4.length = 0 := by
    have e : (upF (upF ([] : PL) 1 ⟨1, max (5 : Int).toNat 0, 0 + 1⟩) 2 ⟨2, max (3 : Int).toNat 0, 0 + 1 + 1⟩).length = 2 := rfl
    rw [e] at hlen4
    simp only [List.length_cons, List.length_nil] at hlen4
    omega
  rw [this]
  exact ⟨rfl, (x4.trans f5).trans f6⟩

abbrev e32 (x : Int) : List Value := [.int .u32 x]
abbrev e16 (x : Int) : List Value := [.int .u16 x]
theorem e32_len (x : Int) : (e32 x).length = 1 := rfl
theorem e16_len (x : Int) : (e16 x).length = 1 := rfl

theorem lk_nil {l : PL} (h : ∀ id, lkF l id = none) : l = [] := by
  cases l with
  | nil => rfl
  | cons x l =>
    have := h x.1
    unfold lkF at this
    rw [if_pos rfl] at this; cases this

theorem once17_ok {w : World} {s : SliceV} {xs : List Int} {at_ : Int} (hat : 0 ≤ at_ ∧ at_ < 4294967296) (hs : SlN 1 e32 w s xs) (hr : ∀ x ∈ xs, 0 ≤ x ∧ x < 4294967296) :
    c_law17_WheelOnce at_ s w fun r w' => r = true ∧ Ext w w' := by
  apply ok_law17_WheelOnce
  unfold s_law17_WheelOnce
  have hlen := hs.len
  refine cm_law17_awake (awake17_ok w) ?_
  rintro _ w1 ⟨rfl, f1⟩
  simp -zeta only [Bool.not_true, cond_false]
  by_cases hbig : (s.len : Int) > 100
  · rw [decide_eq_true hbig, cond_true]
    refine cm_law17_awake (awake17_ok w1) ?_
    rintro _ w2 ⟨rfl, f2⟩
    exact ⟨rfl, f1.trans f2⟩
  rw [decide_eq_false hbig, cond_false]
  refine cm_wheel_New (wnew_ok 3 (by omega) w1) ?_
  rintro p e w2 ⟨f2, rfl, d, m, ss, rfl, h, hfp⟩
  obtain ⟨a, rfl⟩ : ∃ a : Nat, at_ = (a : Int) := ⟨at_.toNat, by omega⟩
  rw [wrap_i64 (n := (a : Int)) (by omega) (by omega)]
  intro J10
  simp -zeta only [Option.isNone_some, show ((0 : Int) != 0) = false from rfl, cond_false]
  refine cm_wheel_Wheel_Arm (warm_ok h 7 a (by omega)) ?_
  rintro e3 w3 ⟨rfl, f3, ss3, F3, hs3, h3⟩
  have a1 : armE ([] : PL) 3 7 a = 0 := by unfold armE; rw [if_neg (by omega), if_neg (by simp [lkF])]
  rw [a1] at h3 ⊢
  simp -zeta only [show ((0 : Int) != 0) = false from rfl, cond_false]
  rw [if_pos rfl, if_pos rfl] at h3
  refine cm_wheel_Wheel_Arm (warm_ok h3 8 1099511627776 (by omega)) ?_
  rintro e4 w4 ⟨rfl, f4, ss4, F4, hs4, h4⟩
  have a2 : armE (upF ([] : PL) 7 ⟨7, max (a : Int).toNat 0, 0 + 1⟩) 3 8 1099511627776 = 0 := by unfold armE upF; simp
  rw [a2] at h4 ⊢
  rw [if_pos rfl, if_pos rfl] at h4
  show J10 false w4
  simp -zeta only [J10, cond_false]
  have s1 := f1.size
  have s2 := f2.size
  have s3 := f3.size
  have s4 := f4.size
  have fp3 : ∀ b, fpW d m ss3 b → w.heap.size ≤ b := fun b hb => by
    rcases hs3 b hb with g | g
    · have := hfp b g; omega
    · omega
  have fp4 : ∀ b, fpW d m ss4 b → w.heap.size ≤ b := fun b hb => by
    rcases hs4 b hb with g | g
    · exact fp3 b g
    · omega
  have x4 : Ext w w4 := ((f1.trans f2).new f3 fun y hy hx => by have := hfp y hx; omega).new f4 fun y hy hx => by have := fp3 y hx; omega
  have e4 : ∀ id, lkF (upF (upF ([] : PL) 7 ⟨7, max (a : Int).toNat 0, 0 + 1⟩) 8 ⟨8, max (1099511627776 : Int).toNat 0, 0 + 1 + 1⟩) id = if id = 8 then some ⟨8, 1099511627776, 2⟩ else if id = 7 then some ⟨7, a, 1⟩ else none := fun id => by
    rw [lk_up, lk_up]
    have : max (a : Int).toNat 0 = a := by omega
    rw [this]; rfl
  generalize (upF (upF ([] : PL) 7 ⟨7, max (a : Int).toNat 0, 0 + 1⟩) 8 ⟨8, max (1099511627776 : Int).toNat 0, 0 + 1 + 1⟩) = l4 at h4 e4
  refine LoopP_inv (fun st W => ∃ (i now : Nat) (ss1 : List SliceV) (l1 : PL) (F1 : Fs), i ≤ xs.length ∧ st.2.2.1 = (i : Int) ∧ st.1 = (now : Int) ∧ now ≤ i * 4294967296 ∧ WS W d m ss1 l1 now (0 + 1 + 1) 3 F1 ∧ Ext w W ∧ (∀ b, fpW d m ss1 b → w.heap.size ≤ b) ∧
      ((st.2.1 = 0 ∧ ∀ id, lkF l1 id = if id = 8 then some ⟨8, 1099511627776, 2⟩ else if id = 7 then some ⟨7, a, 1⟩ else none) ∨ (st.2.1 = 1 ∧ a ≤ now ∧ ∀ id, lkF l1 id = if id = 8 then some ⟨8, 1099511627776, 2⟩ else none))) (fun st _ => xs.length - st.2.2.1.toNat)
    ⟨0, 0, ss4, l4, F4, by omega, rfl, rfl, by omega, h4, x4, fp4, .inl ⟨rfl, e4⟩⟩ ?_
  rintro ⟨n0, off, i0, ⟨⟩⟩ W ⟨i, now, ss1, l1, F1, hi, hii, hn0, hnow, hW, hx, hf1, hoff⟩ next hnext
  simp only at hii hn0 hoff
  subst hii hn0
  dsimp -zeta only
  by_cases hlt : (i : Int) < (s.len : Int)
  · rw [decide_eq_true hlt, cond_true]
    have g1 := List.getElem?_eq_getElem (show i < xs.length by omega)
    have hv := hr _ (List.getElem_mem (show i < xs.length by omega))
    generalize xs[i]'(by omega) = v at g1 hv
    obtain ⟨x, rfl⟩ : ∃ x : Nat, v = (x : Int) := ⟨v.toNat, by omega⟩
    refine SlN_ix e32_len (by omega) (hs.ext hx) (by omega) (by rw [Int.toNat_natCast]; exact g1) fun q hc => ?_
    have c0 := hc 0 _ rfl
    rw [show q.add 0 = q from rfl] at c0
    simp -zeta only [Ld_eq, c0, LdV_some, dec_int]
    rw [wrap_i64 (n := (x : Int)) (by omega) (by omega), show ((now : Int) + (x : Int)) = ((now + x : Nat) : Int) by omega, wrap_i64 (n := ((now + x : Nat) : Int)) (by omega) (by omega)]
    refine cm_wheel_Wheel_Advance (wadvance_ok hW ((now + x : Nat) : Int) (T := now + x) (by omega)) ?_
    rintro r w5 ⟨f5, D, hD, hDm, b5, n5, ss5, l5, F5, h5, hlk5, hlen5, hs5, hd5⟩
    have x5 : Ext w w5 := hx.new f5 fun y hy hb => by have := hf1 y hb; omega
    have hxz := hx.size
    have fp5 : ∀ b, fpW d m ss5 b → w.heap.size ≤ b := fun b hb => by
      rcases hs5 b hb with g | g
      · exact hf1 b g
      · omega
    have blen := b5.len
    rw [List.length_map] at blen
    intro J20
    have h20 : ∀ (o : Int) W', Ext w5 W' → ((o = 0 ∧ now + x < a ∧ ∀ id, lkF l5 id = if id = 8 then some ⟨8, 1099511627776, 2⟩ else if id = 7 then some ⟨7, a, 1⟩ else none) ∨ (o = 1 ∧ a ≤ now + x ∧ ∀ id, lkF l5 id = if id = 8 then some ⟨8, 1099511627776, 2⟩ else none)) → J20 o W' := by
      intro o W' hx' ho
      simp -zeta only [J20]
      intro J23
      have fin : (o = 0 ∨ o = 1) → J23 false := by
        intro h01
        simp only [J23, cond_false]
        rw [wrap_i64 (by omega) (by omega)]
        refine hnext _ _ ⟨i + 1, now + x, ss5, l5, F5, by omega, by simp, rfl, by omega, h5.ext hx', x5.trans hx', fp5, ?_⟩ (by simp only; omega)
        rcases ho with ⟨rfl, _, g⟩ | ⟨rfl, g', g⟩
        · exact .inl ⟨rfl, g⟩
        · exact .inr ⟨rfl, g', g⟩
      clear_value J23
      rcases ho with ⟨rfl, g', g⟩ | ⟨rfl, g', g⟩
      · have c1 : ¬ (((now + x : Nat) : Int) ≥ (a : Int)) := by omega
        rw [decide_eq_false c1]
        exact fin (.inl rfl)
      · have c1 : (((now + x : Nat) : Int) ≥ (a : Int)) := by omega
        rw [decide_eq_true c1]
        exact fin (.inr rfl)
    clear_value J20
    have no8 : ∀ t ∈ D, t.id ≠ 8 := fun t ht e => by
      obtain ⟨q1, q2⟩ := (hDm t).1 ht
      rw [e] at q1
      have : lkF l1 8 = some ⟨8, 1099511627776, 2⟩ := by
        rcases hoff with ⟨_, g⟩ | ⟨_, _, g⟩ <;> rw [g, if_pos rfl]
      rw [this] at q1
      cases q1
      simp only at q2; omega
    rcases hoff with ⟨rfl, hl1⟩ | ⟨rfl, hna, hl1⟩
    · by_cases hfire : a ≤ now + x
      · have hDe : D = [⟨7, a, 1⟩] := by
          refine ltT_one hD (List.pairwise_singleton _ _) fun t => ?_
          rw [hDm, List.mem_singleton, hl1]
          constructor
          · rintro ⟨q1, q2⟩
            split at q1
            · cases q1; simp only at q2; omega
            · split at q1
              · cases q1; rfl
              · cases q1
          · rintro rfl
            exact ⟨rfl, hfire⟩
        subst hDe
        have : ((r.len : Int) > 0) := by rw [blen]; simp
        rw [decide_eq_true this, cond_true]
        intro J25
        have h25 : ∀ W', Ext w5 W' → J25 false W' := by
          intro W' hx'
          simp only [J25, cond_false]
          rw [show IntKind.i64.wrap (0 + 1) = 1 from rfl]
          refine h20 1 W' hx' (.inr ⟨rfl, hfire, fun id => ?_⟩)
          cases hq : lkF l5 id with
          | some t =>
            obtain ⟨q1, q2⟩ := (hlk5 id t).1 hq
            rw [hl1] at q1
            split at q1
            · rename_i e; rw [if_pos e]; exact q1.symm
            · split at q1
              · cases q1; simp only at q2; omega
              · cases q1
          | none =>
            by_cases e : id = 8
            · rw [if_pos e]
              have := (hlk5 id ⟨8, 1099511627776, 2⟩).2 ⟨by rw [hl1, if_pos e], by simp only; omega⟩
              rw [hq] at this; cases this
            · rw [if_neg e]
        clear_value J25
        refine Al_e fun q w6 r6 e6 z6 f6 => ?_
        have hel : SlN 1 eI w6 ⟨some ⟨q, 0, none⟩, 1, 1⟩ [7] := (BufN.row (xs := [7]) (f := eI) (n := 1) (by simpa using r6)).sl eI_len (by omega)
        refine cm_slices_Equal_int_int (equalI_ok ((b5.ext f6).sl eI_len (by omega)) hel (by simp)) ?_
        rintro _ w7 ⟨rfl, f7⟩
        have : decide (([⟨7, a, 1⟩] : List Tm).map Tm.id = [7]) = true := rfl
        rw [this, Bool.not_true, cond_false]
        have c2 : ¬ (((now + x : Nat) : Int) < (a : Int)) := by omega
        rw [decide_eq_false c2]
        exact h25 w7 (f6.trans f7)
      · have hDe : D = [] := by
          refine List.eq_nil_iff_forall_not_mem.2 fun t ht => ?_
          have h8 := no8 t ht
          obtain ⟨q1, q2⟩ := (hDm t).1 ht
          rw [hl1, if_neg h8] at q1
          split at q1
          · cases q1; exact hfire q2
          · cases q1
        subst hDe
        have : ¬ ((r.len : Int) > 0) := by rw [blen]; simp
        rw [decide_eq_false this, cond_false]
        refine h20 0 w5 (Ext.refl _) (.inl ⟨rfl, by omega, fun id => ?_⟩)
        cases hq : lkF l5 id with
        | some t =>
          obtain ⟨q1, q2⟩ := (hlk5 id t).1 hq
          rw [← hl1, q1]
        | none =>
          cases hq1 : lkF l1 id with
          | none => rw [← hl1, hq1]
          | some t =>
            have hne : ¬ t.a ≤ now + x := fun hle => by
              have := (hDm t).2 ⟨by rw [(hW.wi.pl _ _ hq1).1]; exact hq1, hle⟩
              simp at this
            have := (hlk5 id t).2 ⟨hq1, by omega⟩
            rw [hq] at this; cases this
    · have hDe : D = [] := by
        refine List.eq_nil_iff_forall_not_mem.2 fun t ht => ?_
        have h8 := no8 t ht
        obtain ⟨q1, q2⟩ := (hDm t).1 ht
        rw [hl1, if_neg h8] at q1
        cases q1
      subst hDe
      have : ¬ ((r.len : Int) > 0) := by rw [blen]; simp
      rw [decide_eq_false this, cond_false]
      refine h20 1 w5 (Ext.refl _) (.inr ⟨rfl, by omega, fun id => ?_⟩)
      cases hq : lkF l5 id with
      | some t =>
        obtain ⟨q1, q2⟩ := (hlk5 id t).1 hq
        rw [← hl1, q1]
      | none =>
        cases hq1 : lkF l1 id with
        | none => rw [← hl1, hq1]
        | some t =>
          have hne : ¬ t.a ≤ now + x := fun hle => by
            have := (hDm t).2 ⟨by rw [(hW.wi.pl _ _ hq1).1]; exact hq1, hle⟩
            simp at this
          have := (hlk5 id t).2 ⟨hq1, by omega⟩
          rw [hq] at this; cases this
  · rw [decide_eq_false hlt, cond_false]
    refine cm_law17_awake (awake17_ok W) ?_
    rintro _ w9 ⟨rfl, f9⟩
    exact ⟨rfl, hx.trans f9⟩
end Go.Proofs
