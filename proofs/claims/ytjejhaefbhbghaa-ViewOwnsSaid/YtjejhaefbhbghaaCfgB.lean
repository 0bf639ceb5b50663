import Derived.Test.YtjejhaefbhbghaaCfgA
/- Settings: doubled entries. -/
namespace Go.Proofs
open Gp
set_option maxRecDepth 100000

theorem e16_one (x : T16) : ∀ v ∈ e16 x, isOne v = true := by
  obtain ⟨x0, x1, x2, x3, x4, x5, x6, x7, x8, x9, x10, x11, x12, x13, x14, x15, ⟨⟩⟩ := x
  intro v hv
  have : (e16 (x0, x1, x2, x3, x4, x5, x6, x7, x8, x9, x10, x11, x12, x13, x14, x15, ())).all isOne = true := rfl
  exact List.all_eq_true.1 this v hv

theorem clone16 {w : World} {s : SliceV} {xs : List T16} (hs : SlN 16 e16 w s xs) (hl : s.len ≤ 2 ^ 40) :
    c_slices_Clone_api_Six_api_Six s w fun r w' => Ext w w' ∧ BufN 16 e16 w' r xs ∧ ∀ b, SliceV.at r b → w.heap.size ≤ b := by
  apply ok_slices_Clone_api_Six_api_Six
  unfold s_slices_Clone_api_Six_api_Six
  have hlen := hs.len
  cases ha : s.a with
  | none =>
    have hc := hs.cells
    rw [ha] at hc
    have h0 : xs.flatMap e16 = [] := hc
    have hfl := flat_len e16 16 e16_len xs
    rw [h0] at hfl
    have : xs = [] := by
      cases xs with
      | nil => rfl
      | cons _ _ => simp only [List.length_cons, List.length_nil] at hfl; omega
    subst this
    simp only [Option.isNone_none, cond_true]
    exact ⟨Ext.refl _, BufN.nil, fun b ⟨o, hb⟩ => by cases hb⟩
  | some a =>
    simp only [Option.isNone_some, cond_false]
    refine Al_e fun t w1 rt et zt f1 => ?_
    have hb : BufN 16 e16 w1 ⟨some ⟨t, 0, none⟩, 0, 0⟩ ([] : List T16) := BufN.row (xs := []) rt
    refine AppSl_bufN e16_len hb (hs.ext f1) rfl (by omega) e16_one (by simp only [List.length_nil]; omega) (by simp only [List.length_nil]; omega) fun s' w' h1 h2 h3 => ?_
    refine ⟨f1.new h2 fun b hb ⟨o, he⟩ => by cases he; omega, h1, fun b hb => ?_⟩
    rcases h3 b hb with ⟨o, he⟩ | h
    · cases he; omega
    · omega

/-- The softwire of what is told. -/
def sw7 (x : T7) : Int := x.1
/-- How many of these have this softwire. -/
def cnt (tl : List T7) (k : Nat) : Nat := tl.countP fun y => sw7 y == (k : Int)
def cnts (n : Nat) (tl : List T7) : List Int := (List.range n).map fun k => (cnt tl k : Int)

theorem cnts_flat (n : Nat) (tl : List T7) : (cnts n tl).flatMap eI = (List.range n).map fun k => Value.int .i64 (cnt tl k : Int) := by
  unfold cnts
  generalize List.range n = l
  induction l with
  | nil => rfl
  | cons a l ih => simp only [List.map_cons, List.flatMap_cons, ih]; rfl

theorem SlN_lt {α : Type} {n : Nat} {f : α → List Value} {w : World} {s : SliceV} {xs : List α} {a : Addr} (hn : ∀ x, (f x).length = n) (hn0 : 0 < n) (h : SlN n f w s xs) (ha : s.a = some a) (hx : 0 < xs.length) : a.block < w.heap.size := by
  have hc := h.cells
  rw [ha] at hc
  have hfl := flat_len f n hn xs
  have hp : 0 < xs.length * n := Nat.mul_pos hx hn0
  have h0 := hc.2 0 (by omega)
  rw [List.getElem?_eq_getElem (by omega)] at h0
  exact cell_lt h0

theorem cnt_snoc (tl : List T7) (x : T7) (k : Nat) : cnt (tl ++ [x]) k = cnt tl k + if sw7 x = (k : Int) then 1 else 0 := by
  unfold cnt
  rw [List.countP_append, List.countP_singleton]
  congr 1
  by_cases h : sw7 x = (k : Int) <;> simp [h]

theorem cnts_set {n : Nat} {tl : List T7} {x : T7} (h0 : 0 ≤ sw7 x) :
    ((cnts n tl).flatMap eI).set (sw7 x).toNat (.int .i64 ((cnt tl (sw7 x).toNat : Int) + 1)) = (cnts n (tl ++ [x])).flatMap eI := by
  rw [cnts_flat, cnts_flat]
  refine List.ext_getElem? fun i => ?_
  rw [List.getElem?_set]
  by_cases hi : i < n
  · rw [List.getElem?_map, List.getElem?_map, List.getElem?_range hi]
    simp only [Option.map_some, List.length_map, List.length_range]
    rw [cnt_snoc]
    by_cases he : (sw7 x).toNat = i
    · subst he
      rw [if_pos rfl, if_pos hi, if_pos (by omega)]
      rfl
    · rw [if_neg he, if_neg (by omega)]; rfl
  · rw [List.getElem?_eq_none (by simp; omega), List.getElem?_eq_none (by simp; omega)]
    by_cases he : (sw7 x).toNat = i
    · rw [if_pos he, if_neg (by simp; omega)]
    · rw [if_neg he]

/-- Nothing is there twice, and nobody has too many. -/
def fineP (p : T16) (sl : List T16) (pl : List Int) (tl : List T7) (n : Nat) (q : Int) : Prop :=
  (sl ++ [p]).Nodup ∧ pl.Nodup ∧ (tl.map inner7).Nodup ∧ (tl.map outer7).Nodup ∧ ∀ k : Nat, k < n → (cnt tl k : Int) ≤ q

theorem any_cnts {n : Nat} {tl : List T7} {q : Int} : ((cnts n tl).any fun x => decide (x > q)) = true ↔ ¬ ∀ k : Nat, k < n → (cnt tl k : Int) ≤ q := by
  rw [List.any_eq_true]
  constructor
  · rintro ⟨x, hx, hq⟩ h
    obtain ⟨k, hk, rfl⟩ := List.mem_map.1 hx
    have := h k (List.mem_range.1 hk)
    simp only [decide_eq_true_eq] at hq
    omega
  · intro h
    by_cases hk : ∃ k : Nat, k < n ∧ q < (cnt tl k : Int)
    · obtain ⟨k, h1, h2⟩ := hk
      exact ⟨_, List.mem_map.2 ⟨k, List.mem_range.2 h1, rfl⟩, by simpa using h2⟩
    · exact absurd (fun k hk' => by
        by_cases hh : (cnt tl k : Int) ≤ q
        · exact hh
        · exact absurd ⟨k, hk', by omega⟩ hk) h

theorem doubled_ok {w : World} {p0 p1 p2 p3 p4 p5 p6 p7 p8 p9 p10 p11 p12 p13 p14 p15 : Int} {sw po : SliceV} {n18 n19 n20 n21 n22 n23 n24 n25 n26 n27 n28 n29 n30 n31 n32 n33 n34 : Int} {st : SliceV} {sl : List T16} {pl : List Int} {tl : List T7} (hsw : SlN 16 e16 w sw sl) (hpo : SlN 1 eI w po pl) (hst : SlN 7 e7 w st tl) (lsw : sw.len ≤ 2 ^ 40) (lpo : po.len ≤ 2 ^ 40) (lst : st.len ≤ 2 ^ 40)
    (hr : ∀ x ∈ tl, 0 ≤ sw7 x ∧ sw7 x < (sw.len : Int)) :
    c_config_doubled p0 p1 p2 p3 p4 p5 p6 p7 p8 p9 p10 p11 p12 p13 p14 p15 sw po n18 n19 n20 n21 n22 n23 n24 n25 n26 n27 n28 n29 n30 n31 n32 n33 n34 st w fun r w' => (r = true ↔ ¬ fineP (p0, p1, p2, p3, p4, p5, p6, p7, p8, p9, p10, p11, p12, p13, p14, p15, ()) sl pl tl sw.len n20) ∧ Ext w w' := by
  apply ok_config_doubled
  unfold s_config_doubled
  have lens := hsw.len
  refine Al_e fun a w1 ra ea z1 f1 => ?_
  simp -zeta only [Ld_eq, List.getElem?_cons_zero, List.getElem?_cons_succ, LdV_some, dec_slice, dec_int, add_mk, Nat.zero_add, Nat.add_zero, ra.drew.cell]
  intro J4
  have hJ4 : ∀ s W, Ext w1 W → BufN 16 e16 W s (sl ++ [(p0, p1, p2, p3, p4, p5, p6, p7, p8, p9, p10, p11, p12, p13, p14, p15, ())]) → J4 s W := by
    intro s W hx hb
    have ra := ra.ext hx
    have hpo := (hpo.ext f1).ext hx
    have hst := (hst.ext f1).ext hx
    have xx := f1.trans hx
    simp -zeta only [J4]
    intro J7
    have hJ7 : ∀ c W', Ext W W' → (c = true ↔ ¬ ((sl ++ [(p0, p1, p2, p3, p4, p5, p6, p7, p8, p9, p10, p11, p12, p13, p14, p15, ())]).Nodup ∧ pl.Nodup ∧ (tl.map inner7).Nodup ∧ (tl.map outer7).Nodup)) → J7 c W' := by
      intro c W' hx' hc
      simp only [J7]
      cases c
      · have ra := ra.ext hx'
        have hst := hst.ext hx'
        have hf : (sl ++ [(p0, p1, p2, p3, p4, p5, p6, p7, p8, p9, p10, p11, p12, p13, p14, p15, ())]).Nodup ∧ pl.Nodup ∧ (tl.map inner7).Nodup ∧ (tl.map outer7).Nodup := by
          by_cases h : (sl ++ [(p0, p1, p2, p3, p4, p5, p6, p7, p8, p9, p10, p11, p12, p13, p14, p15, ())]).Nodup ∧ pl.Nodup ∧ (tl.map inner7).Nodup ∧ (tl.map outer7).Nodup
          · exact h
          · exact absurd (hc.2 h) (by simp)
        simp only [cond_false, cond_false, List.getElem?_cons_zero, List.getElem?_cons_succ, LdV_some, dec_slice, ra.cell]
        refine MkSl_row (by omega) (by omega) (by omega) (by omega) fun m w2 rm em z2 f2 => ?_
        have f2 : Ext W' w2 := f2
        have la1 := ra.lt
        have hst1 := hst
        have ra := ra.ext f2
        have hst := hst.ext f2
        have hlt := hst.len
        simp only [Int.toNat_natCast, List.getElem?_cons_zero, List.getElem?_cons_succ, LdV_some, dec_slice, AtIx_some, add_mk, Nat.zero_add, ra.cell]
        have rm0 : Row w2 m ((cnts sw.len (tl.take 0)).flatMap eI) := by
          have e : (cnts sw.len (tl.take 0)).flatMap eI = repCells [Value.int .i64 0] ((sw.len : Int)).toNat := by
            rw [cnts_flat, Int.toNat_natCast]
            generalize sw.len = n
            rw [List.take_zero]
            have : ∀ l : List Nat, (l.map fun k => Value.int .i64 ((cnt [] k : Nat) : Int)) = repCells [Value.int .i64 0] l.length := by
              intro l
              induction l with
              | nil => rfl
              | cons a l ih => simp only [List.map_cons, List.length_cons, repCells, ih]; rfl
            rw [this, List.length_range]
          rw [e]; exact rm
        refine LoopP_inv (fun st' V => ∃ j : Nat, j ≤ tl.length ∧ st'.1 = (j : Int) ∧ Row V m ((cnts sw.len (tl.take j)).flatMap eI) ∧ Fr8 w2 V (· = m)) (fun st' _ => (tl.length - st'.1).toNat) ⟨0, by omega, rfl, rm0, Fr8.refl _ _⟩ ?_
        rintro ⟨i, ⟨⟩⟩ V ⟨j, hj, hi, rmV, hfV⟩ next hnext
        simp only at hi
        subst hi
        have lra := ra.lt
        have zW := hx'.size
        have raV := ra.fr hfV (by omega)
        have hstV := hst.fr hfV (fun a' ha' hl' => by
          have := SlN_lt e7_len (by omega) hst1 ha' hl'
          omega)
        by_cases hlt2 : (j : Int) < (st.len : Int)
        · simp only [hlt2, decide_true, cond_true]
          have hx := List.getElem?_eq_getElem (show j < tl.length by omega)
          have hmem := List.getElem_mem (show j < tl.length by omega)
          generalize tl[j] = x at hx hmem
          have htk := Gp.Cfg.take_snoc hx
          have hrx := hr x hmem
          have hset := cnts_set (n := sw.len) (tl := tl.take j) (x := x) hrx.1
          rw [← htk] at hset
          have hcl : cnt (tl.take j) (sw7 x).toNat ≤ tl.length := Nat.le_trans (List.countP_le_length) (by simp; omega)
          refine SlN_ix e7_len (by omega) hstV (by omega) (by rw [Int.toNat_natCast]; exact hx) fun a' hc => ?_
          obtain ⟨x0, x1, x2, x3, x4, x5, x6, ⟨⟩⟩ := x
          have c0 : V.cell? (a'.add 0) = some (.int .i64 x0) := hc 0 _ rfl; have c1 : V.cell? (a'.add 1) = some (.int .i64 x1) := hc 1 _ rfl; have c2 : V.cell? (a'.add 2) = some (.int .i64 x2) := hc 2 _ rfl; have c3 : V.cell? (a'.add 3) = some (.int .i64 x3) := hc 3 _ rfl; have c4 : V.cell? (a'.add 4) = some (.int .i64 x4) := hc 4 _ rfl; have c5 : V.cell? (a'.add 5) = some (.int .i64 x5) := hc 5 _ rfl; have c6 : V.cell? (a'.add 6) = some (.int .i64 x6) := hc 6 _ rfl
          simp only [LdV_some, dec_int, c0, c1, c2, c3, c4, c5, c6]
          refine Al_f rfl rfl fun t w3 rt et zt f3 => ?_
          have rm3 := rmV.ext f3
          have hq0 : 0 ≤ x0 ∧ x0 < (sw.len : Int) := hrx
          have hg : ((cnts sw.len (tl.take j)).flatMap eI)[x0.toNat]? = some (.int .i64 (cnt (tl.take j) x0.toNat : Int)) := by
            rw [cnts_flat, List.getElem?_map, List.getElem?_range (by omega)]; rfl
          have hcl : cnt (tl.take j) x0.toNat ≤ tl.length := hcl
          have hset : ((cnts sw.len (tl.take j)).flatMap eI).set x0.toNat (.int .i64 ((cnt (tl.take j) x0.toNat : Int) + 1)) = (cnts sw.len (tl.take (j + 1))).flatMap eI := hset
          simp only [List.getElem?_cons_zero, LdV_some, dec_int, rt.cell, Nat.mul_one, rm3.cell, hg]
          refine ⟨hq0.1, hq0.2, hq0.1, hq0.2, ?_⟩
          rw [wrap_i64 (by omega) (by omega), wrap_i64 (by omega) (by omega)]
          refine St_row rm3 rfl (by rw [cnts_flat]; simp; omega) fun w4 rm4 f4 z4 => ?_
          rw [hset] at rm4
          exact hnext _ _ ⟨j + 1, by omega, by simp, rm4, (hfV.ext f3).trans (f4 (· = m) rfl) fun _ _ e => e⟩ (by simp only; omega)
        · simp only [hlt2, decide_false, cond_false]
          rw [List.take_of_length_le (by omega)] at rmV
          have hsm : SlN 1 eI V ⟨some ⟨m, 0, none⟩, sw.len, sw.len⟩ (cnts sw.len tl) := by
            have := (BufN.row (xs := cnts sw.len tl) (f := eI) (n := 1) rmV).sl eI_len (by omega)
            simpa [cnts] using this
          refine cm_slices_ContainsFunc_int_int (containsF1 hsm (by simp only; omega) fn_many fun W hW => raV.ext hW) ?_
          rintro r w5 ⟨rfl, f5⟩
          have e5 : Ext W' V := f2.new hfV fun b hb e => by omega
          refine ⟨?_, ((xx.trans hx').trans e5).trans f5⟩
          rw [any_cnts]
          exact ⟨fun h hh => h hh.2.2.2.2, fun h hh => h ⟨hf.1, hf.2.1, hf.2.2.1, hf.2.2.2, hh⟩⟩
      · simp only [cond_true]
        exact ⟨⟨fun _ h => hc.1 rfl ⟨h.1, h.2.1, h.2.2.1, h.2.2.2.1⟩, fun _ => by trivial⟩, xx.trans hx'⟩
    refine cm_config_each_api_Six_api_Six (each_api_Six_api_Six (hb.sl e16_len (by omega)) ?_ rfl fn_itself16) ?_
    · rw [hb.len]; simp only [List.length_append, List.length_cons, List.length_nil]; omega
    rintro v w2 ⟨f2, C, hi, hC⟩
    rw [List.map_id'] at hi
    refine cm_config_twice_api_Six (twice16 hi hC) ?_
    rintro r w3 ⟨h1, f3⟩
    cases r
    · have f3 := f2.trans f3
      have n1 : (sl ++ [(p0, p1, p2, p3, p4, p5, p6, p7, p8, p9, p10, p11, p12, p13, p14, p15, ())]).Nodup := by
        by_cases h : (sl ++ [(p0, p1, p2, p3, p4, p5, p6, p7, p8, p9, p10, p11, p12, p13, p14, p15, ())]).Nodup
        · exact h
        · exact absurd (h1.2 h) (by simp)
      have ra := ra.ext f3
      have hpo := hpo.ext f3
      have hst := hst.ext f3
      simp -zeta only [cond_false, cond_false, List.getElem?_cons_zero, List.getElem?_cons_succ, LdV_some, dec_slice, ra.cell]
      refine cm_config_each_int_int (each_int_int hpo (by simp only; omega) rfl fn_itself1) ?_
      rintro v w4 ⟨f4, C, hi, hC⟩
      rw [List.map_id'] at hi
      refine cm_config_twice_int (twice1 hi hC) ?_
      rintro r w5 ⟨h2, f5⟩
      have f5 := f4.trans f5
      cases r
      · have n2 : pl.Nodup := by
          by_cases h : pl.Nodup
          · exact h
          · exact absurd (h2.2 h) (by simp)
        have ra := ra.ext f5
        have hst := hst.ext f5
        simp -zeta only [cond_false, cond_false, List.getElem?_cons_zero, List.getElem?_cons_succ, LdV_some, dec_slice, ra.cell]
        refine cm_config_each_api_Static_api_Inner (each_api_Static_api_Inner hst (by simp only; omega) rfl fn_inner) ?_
        rintro v w6 ⟨f6, C, hi, hC⟩
        refine cm_config_twice_api_Inner (twice4 hi hC) ?_
        rintro r w7 ⟨h3, f7⟩
        have f7 := f6.trans f7
        cases r
        · have n3 : (tl.map inner7).Nodup := by
            by_cases h : (tl.map inner7).Nodup
            · exact h
            · exact absurd (h3.2 h) (by simp)
          have ra := ra.ext f7
          have hst := hst.ext f7
          simp -zeta only [cond_false, cond_false, List.getElem?_cons_zero, List.getElem?_cons_succ, LdV_some, dec_slice, ra.cell]
          refine cm_config_each_api_Static_api_Outer (each_api_Static_api_Outer hst (by simp only; omega) rfl fn_outer) ?_
          rintro v w8 ⟨f8, C, hi, hC⟩
          refine cm_config_twice_api_Outer (twice3 hi hC) ?_
          rintro r w9 ⟨h4, f9⟩
          refine hJ7 _ _ ((((f3.trans f5).trans f7).trans f8).trans f9) (h4.trans ⟨fun h hh => h hh.2.2.2, fun h hh => h ⟨n1, n2, n3, hh⟩⟩)
        · simp -zeta only [cond_true]
          exact hJ7 _ _ ((f3.trans f5).trans f7) ⟨fun _ h => h3.1 rfl h.2.2.1, fun _ => rfl⟩
      · simp -zeta only [cond_true]
        exact hJ7 _ _ (f3.trans f5) ⟨fun _ h => h2.1 rfl h.2.1, fun _ => rfl⟩
    · simp -zeta only [cond_true]
      exact hJ7 _ _ (f2.trans f3) ⟨fun _ h => h1.1 rfl h.1, fun _ => rfl⟩
  have hd := Ext.drew w1
  refine ⟨?_, ?_⟩
  · refine cm_slices_Clone_api_Six_api_Six (clone16 ((hsw.ext f1).ext hd) lsw) ?_
    rintro r w2 ⟨f2, hb, hb2⟩
    have e2 := hd.trans f2
    have ra2 := ra.ext e2
    simp only [ra2.cell, List.getElem?_cons_zero, List.getElem?_cons_succ, true_and]
    refine Al_e fun t w3 rt et zt f3 => ?_
    have ra3 := ra2.ext f3
    simp only [ra3.cell, List.getElem?_cons_zero, List.getElem?_cons_succ, true_and]
    have ht : SlN 16 e16 w3 ⟨some ⟨t, 0, none⟩, 1, 1⟩ [((p0, p1, p2, p3, p4, p5, p6, p7, p8, p9, p10, p11, p12, p13, p14, p15, ()) : T16)] := (BufN.row (xs := [((p0, p1, p2, p3, p4, p5, p6, p7, p8, p9, p10, p11, p12, p13, p14, p15, ()) : T16)]) (f := e16) (n := 16) rt).sl e16_len (by omega)
    refine AppSl_bufN e16_len (hb.ext f3) ht rfl (by omega) e16_one (by simp only [List.length_cons, List.length_nil]; omega) (by simp only [List.length_cons, List.length_nil]; omega) fun s' w' h1 h2 h3 => ?_
    have hz : w1.heap.size ≤ w1.drew.heap.size := hd.size
    exact hJ4 _ _ (((e2.trans f3).fr h2).new fun b hb' hs => by have := hb2 b hs; omega) h1
  · refine Al_e fun t w2 rt et zt f2 => ?_
    have e2 := hd.trans f2
    have ra2 := ra.ext e2
    simp only [ra2.cell, List.getElem?_cons_zero, List.getElem?_cons_succ, true_and]
    refine cm_slices_Clone_api_Six_api_Six (clone16 ((hsw.ext f1).ext e2) lsw) ?_
    rintro r w3 ⟨f3, hb, hb2⟩
    have e3 := e2.trans f3
    have ra3 := ra2.ext f3
    simp only [ra3.cell, List.getElem?_cons_zero, List.getElem?_cons_succ, true_and]
    have ht : SlN 16 e16 w3 ⟨some ⟨t, 0, none⟩, 1, 1⟩ [((p0, p1, p2, p3, p4, p5, p6, p7, p8, p9, p10, p11, p12, p13, p14, p15, ()) : T16)] := ((BufN.row (xs := [((p0, p1, p2, p3, p4, p5, p6, p7, p8, p9, p10, p11, p12, p13, p14, p15, ()) : T16)]) (f := e16) (n := 16) rt).sl e16_len (by omega)).ext f3
    refine AppSl_bufN e16_len hb ht rfl (by omega) e16_one (by simp only [List.length_cons, List.length_nil]; omega) (by simp only [List.length_cons, List.length_nil]; omega) fun s' w' h1 h2 h3 => ?_
    have hz : w1.heap.size ≤ w2.heap.size := e2.size
    exact hJ4 _ _ ((e3.fr h2).new fun b hb' hs => by have := hb2 b hs; omega) h1

end Go.Proofs

/- Settings: whether they may be. -/
namespace Go.Proofs
open Gp
set_option maxRecDepth 100000

/-- The numbers' bounds. -/
def bnds (ls lp lt n18 n19 n20 n21 n22 n23 n24 n25 n26 n27 n29 n30 n31 n32 n33 n34 : Int) : List T3 :=
  [(ls, 1, 64, ()), (lp, 1, 16, ()), (lt, 0, if n21 < 64 then n21 else 64, ()), (n18, 1, 65535, ()), (n19, n18, 65535, ()), (n20, 1, 4096, ()), (n21, 1, 4096, ()), (n22, 1, 4096, ()), (n23, 0, 4096, ()),
    (n24, 0, 67108864, ()), (n25, 1280, 65535, ()), (n26, 1280, 65535, ()), (n27, 1, 255, ()), (n29, 0, 2, ()), (n30, 120, 1048576, ()), (n31, 7440, 1048576, ()), (n32, 240, 1048576, ()), (n33, 60, 1048576, ()), (n34, 1, 1048576, ())]

theorem e3_len (x : T3) : (e3 x).length = 3 := rfl
def okB (b : T3) : Prop := b.2.1 ≤ b.1 ∧ b.1 ≤ b.2.2.1
instance (b : T3) : Decidable (okB b) := inferInstanceAs (Decidable (_ ∧ _))

theorem bounds_ok {p0 p1 p2 p3 p4 p5 p6 p7 p8 p9 p10 p11 p12 p13 p14 p15 : Int} {sw po : SliceV} {n18 n19 n20 n21 n22 n23 n24 n25 n26 n27 n28 n29 n30 n31 n32 n33 n34 : Int} {st : SliceV} (w : World) : c_config_bounds p0 p1 p2 p3 p4 p5 p6 p7 p8 p9 p10 p11 p12 p13 p14 p15 sw po n18 n19 n20 n21 n22 n23 n24 n25 n26 n27 n28 n29 n30 n31 n32 n33 n34 st w fun r w' => Ext w w' ∧ r.len = 19 ∧ SlN 3 e3 w' r (bnds sw.len po.len st.len n18 n19 n20 n21 n22 n23 n24 n25 n26 n27 n29 n30 n31 n32 n33 n34) := by
  apply ok_config_bounds
  unfold s_config_bounds
  refine Al_e fun a w1 ra ea z1 f1 => ?_
  simp only [Ld_eq, List.getElem?_cons_zero, List.getElem?_cons_succ, LdV_some, dec_slice, dec_int, add_mk, Nat.zero_add, ra.cell]
  refine Al_e fun b w2 rb eb z2 f2 => ?_
  have hb := BufN.row (n := 3) (f := e3) (xs := bnds sw.len po.len st.len n18 n19 n20 n21 n22 n23 n24 n25 n26 n27 n29 n30 n31 n32 n33 n34) (w := w2) (b := b) rb
  exact ⟨f1.trans f2, by trivial, hb.sl e3_len (by omega)⟩

/-- Settings that may be, but for doubled entries. -/
structure OkP (p : T16) (ls lp lt n18 n19 n20 n21 n22 n23 n24 n25 n26 n27 n28 n29 n30 n31 n32 n33 n34 : Int) (n : Nat) (sl : List T16) (pl : List Int) (tl : List T7) : Prop where
  nums : ∀ b ∈ bnds ls lp lt n18 n19 n20 n21 n22 n23 n24 n25 n26 n27 n29 n30 n31 n32 n33 n34, okB b
  mss : mssP n28
  parts : partsB p n sl pl tl = true

theorem told_sw {n : Nat} {pl : List Int} {x : T7} (h : toldP n pl x) : 0 ≤ sw7 x ∧ sw7 x < (n : Int) := by
  obtain ⟨q0, q1, q2, q3, q4, q5, q6, ⟨⟩⟩ := x
  have : (0 ≤ q0 ∧ q0 ≤ (n : Int) - 1) := h.2.2.2
  show 0 ≤ q0 ∧ q0 < (n : Int)
  omega

theorem parts_told {p : T16} {n : Nat} {sl : List T16} {pl : List Int} {tl : List T7} (h : partsB p n sl pl tl = true) : ∀ x ∈ tl, toldP n pl x := by
  intro x hx
  unfold partsB at h
  simp only [Bool.and_eq_true, Bool.not_eq_true', List.any_eq_false] at h
  have := h.2.2.2 x hx
  simpa using this

theorem check_ok {w : World} {p0 p1 p2 p3 p4 p5 p6 p7 p8 p9 p10 p11 p12 p13 p14 p15 : Int} {sw po : SliceV} {n18 n19 n20 n21 n22 n23 n24 n25 n26 n27 n28 n29 n30 n31 n32 n33 n34 : Int} {st : SliceV} {sl : List T16} {pl : List Int} {tl : List T7} (hsw : SlN 16 e16 w sw sl) (hpo : SlN 1 eI w po pl) (hst : SlN 7 e7 w st tl) (lsw : sw.len ≤ 2 ^ 40) (lpo : po.len ≤ 2 ^ 40) (lst : st.len ≤ 2 ^ 40) :
    c_config_Check p0 p1 p2 p3 p4 p5 p6 p7 p8 p9 p10 p11 p12 p13 p14 p15 sw po n18 n19 n20 n21 n22 n23 n24 n25 n26 n27 n28 n29 n30 n31 n32 n33 n34 st w fun r w' => ((¬ OkP (p0, p1, p2, p3, p4, p5, p6, p7, p8, p9, p10, p11, p12, p13, p14, p15, ()) sw.len po.len st.len n18 n19 n20 n21 n22 n23 n24 n25 n26 n27 n28 n29 n30 n31 n32 n33 n34 sw.len sl pl tl ∧ r = 1) ∨
      (OkP (p0, p1, p2, p3, p4, p5, p6, p7, p8, p9, p10, p11, p12, p13, p14, p15, ()) sw.len po.len st.len n18 n19 n20 n21 n22 n23 n24 n25 n26 n27 n28 n29 n30 n31 n32 n33 n34 sw.len sl pl tl ∧ ((¬ fineP (p0, p1, p2, p3, p4, p5, p6, p7, p8, p9, p10, p11, p12, p13, p14, p15, ()) sl pl tl sw.len n20 ∧ r = 9) ∨ (fineP (p0, p1, p2, p3, p4, p5, p6, p7, p8, p9, p10, p11, p12, p13, p14, p15, ()) sl pl tl sw.len n20 ∧ r = 0)))) ∧ Ext w w' := by
  apply ok_config_Check
  unfold s_config_Check
  refine Al_e fun a w1 ra ea z1 f1 => ?_
  simp -zeta only [Ld_eq, List.getElem?_cons_zero, List.getElem?_cons_succ, LdV_some, dec_slice, dec_int, add_mk, Nat.zero_add, Nat.add_zero, ra.cell]
  refine cm_config_bounds (bounds_ok w1) ?_
  rintro bs w2 ⟨f2, hl19, hbs⟩
  generalize hbe : bnds sw.len po.len st.len n18 n19 n20 n21 n22 n23 n24 n25 n26 n27 n29 n30 n31 n32 n33 n34 = bl at hbs
  have hlb : bs.len = bl.length := hbs.len
  refine LoopP_inv (fun st' W => ∃ j : Nat, j ≤ 19 ∧ st'.1 = (j : Int) ∧ Ext w2 W ∧ ∀ b ∈ bl.take j, okB b) (fun st' _ => (19 - st'.1).toNat) ⟨0, by omega, rfl, Ext.refl _, by simp⟩ ?_
  rintro ⟨i, ⟨⟩⟩ W ⟨j, hj, hi, hx, hall⟩ next hnext
  simp only at hi
  subst hi
  have e12 := f1.trans f2
  have raW := (ra.ext f2).ext hx
  by_cases hlt : (j : Int) < (bs.len : Int)
  · simp -zeta only [hlt, decide_true, cond_true]
    have hxj := List.getElem?_eq_getElem (show j < bl.length by omega)
    have hmem := List.getElem_mem (show j < bl.length by omega)
    generalize bl[j] = x at hxj hmem
    have htk := Gp.Cfg.take_snoc hxj
    refine SlN_ix e3_len (by omega) (hbs.ext hx) (by omega) (by rw [Int.toNat_natCast]; exact hxj) fun a' hc => ?_
    obtain ⟨x0, x1, x2, ⟨⟩⟩ := x
    have c0 : W.cell? (a'.add 0) = some (.int .i64 x0) := hc 0 _ rfl; have c1 : W.cell? (a'.add 1) = some (.int .i64 x1) := hc 1 _ rfl; have c2 : W.cell? (a'.add 2) = some (.int .i64 x2) := hc 2 _ rfl
    simp -zeta only [LdV_some, dec_int, c0, c1, c2]
    refine Al_f rfl rfl fun t w3 rt et zt f3 => ?_
    simp -zeta only [List.getElem?_cons_zero, List.getElem?_cons_succ, LdV_some, dec_int, add_mk, Nat.zero_add, Nat.add_zero, rt.cell]
    refine cm_config_bound_ok (bound_ok_ok _ _ _ _) ?_
    rintro _ w4 ⟨rfl, f4⟩
    by_cases hok : x1 ≤ x0 ∧ x0 ≤ x2
    · simp -zeta only [hok, and_self, decide_true, Bool.not_true, cond_false]
      rw [wrap_i64 (by omega) (by omega)]
      refine hnext _ _ ⟨j + 1, by omega, by simp, (hx.trans f3).trans f4, ?_⟩ (by simp only; omega)
      rw [htk]
      intro b hb
      rcases List.mem_append.1 hb with hb | hb
      · exact hall b hb
      · rw [List.mem_singleton.1 hb]; exact hok
    · simp -zeta only [hok, decide_false, Bool.not_false, cond_true]
      exact ⟨.inl ⟨fun h => hok (h.nums (x0, x1, x2, ()) (by rw [hbe]; exact hmem)), by trivial⟩, ((e12.trans hx).trans f3).trans f4⟩
  · simp -zeta only [hlt, decide_false, cond_false]
    rw [List.take_of_length_le (by omega)] at hall
    intro J57
    have hJ : ∀ c W', Ext W W' → (c = false ↔ mssP n28 ∧ partsB (p0, p1, p2, p3, p4, p5, p6, p7, p8, p9, p10, p11, p12, p13, p14, p15, ()) sw.len sl pl tl = true) → J57 c W' := by
      intro c W' hx' hc
      have raW := raW.ext hx'
      have xx := (e12.trans hx).trans hx'
      simp only [J57]
      cases c
      · obtain ⟨h1, h2⟩ := hc.1 rfl
        have hok : OkP (p0, p1, p2, p3, p4, p5, p6, p7, p8, p9, p10, p11, p12, p13, p14, p15, ()) sw.len po.len st.len n18 n19 n20 n21 n22 n23 n24 n25 n26 n27 n28 n29 n30 n31 n32 n33 n34 sw.len sl pl tl := ⟨by rw [hbe]; exact hall, h1, h2⟩
        simp only [cond_false, cond_false, List.getElem?_cons_zero, List.getElem?_cons_succ, LdV_some, dec_slice, dec_int, raW.cell]
        refine cm_config_doubled (doubled_ok (hsw.ext xx) (hpo.ext xx) (hst.ext xx) lsw lpo lst fun x hx => told_sw (parts_told h2 x hx)) ?_
        rintro r w5 ⟨h5, f5⟩
        cases r
        · have hfine : fineP (p0, p1, p2, p3, p4, p5, p6, p7, p8, p9, p10, p11, p12, p13, p14, p15, ()) sl pl tl sw.len n20 := by
            by_cases h : fineP (p0, p1, p2, p3, p4, p5, p6, p7, p8, p9, p10, p11, p12, p13, p14, p15, ()) sl pl tl sw.len n20
            · exact h
            · exact absurd (h5.2 h) (by simp)
          exact ⟨.inr ⟨hok, .inr ⟨hfine, by trivial⟩⟩, xx.trans f5⟩
        · exact ⟨.inr ⟨hok, .inl ⟨h5.1 rfl, by trivial⟩⟩, xx.trans f5⟩
      · simp only [cond_true]
        refine ⟨.inl ⟨fun h => ?_, by trivial⟩, xx⟩
        have := hc.2 ⟨h.mss, h.parts⟩
        cases this
    clear_value J57
    simp -zeta only [List.getElem?_cons_zero, List.getElem?_cons_succ, LdV_some, dec_int, raW.cell]
    refine cm_config_sizes (sizes_ok _ _) ?_
    rintro _ w3 ⟨rfl, f3⟩
    by_cases hm : mssP n28
    · have raW := raW.ext f3
      rw [decide_eq_true hm, Bool.not_true, cond_false]
      simp -zeta only [List.getElem?_cons_zero, List.getElem?_cons_succ, LdV_some, dec_slice, dec_int, raW.cell]
      have xx := (e12.trans hx).trans f3
      refine cm_config_parts (parts_ok (hsw.ext xx) (hpo.ext xx) (hst.ext xx) (Nat.le_trans lsw (by omega)) (Nat.le_trans lpo (by omega)) (Nat.le_trans lst (by omega))) ?_
      rintro _ w4 ⟨rfl, f4⟩
      exact hJ _ _ (f3.trans f4) (by cases partsB (p0, p1, p2, p3, p4, p5, p6, p7, p8, p9, p10, p11, p12, p13, p14, p15, ()) sw.len sl pl tl <;> simp [hm])
    · rw [decide_eq_false hm, Bool.not_false, cond_true]
      exact hJ _ _ f3 (by simp [hm])

end Go.Proofs

/- Settings: the document's answer. -/
namespace Go.Proofs
open Gp
set_option maxRecDepth 100000

theorem in_step {n lo hi : Int} {w : World} {K : Bool → World → Prop} (h : lo ≤ n ∧ n ≤ hi → K true w) (h' : ¬ (lo ≤ n ∧ n ≤ hi) → K false w) : c_ref20_in n lo hi w K := by
  refine cm_ref20_in (in_ok n lo hi w) ?_
  rintro r w' ⟨hr, hw⟩
  subst hw
  by_cases hb : lo ≤ n ∧ n ≤ hi
  · rw [decide_eq_true hb] at hr; subst hr; exact h hb
  · rw [decide_eq_false hb] at hr; subst hr; exact h' hb

def roomsP (n20 n21 n22 n23 n24 : Int) : Prop := (1 ≤ n20 ∧ n20 ≤ 4096) ∧ (1 ≤ n21 ∧ n21 ≤ 4096) ∧ (1 ≤ n22 ∧ n22 ≤ 4096) ∧ (0 ≤ n23 ∧ n23 ≤ 4096) ∧ (0 ≤ n24 ∧ n24 ≤ 67108864)
def waysP (n25 n26 n27 n28 n29 : Int) : Prop := (1280 ≤ n25 ∧ n25 ≤ 65535) ∧ (1280 ≤ n26 ∧ n26 ≤ 65535) ∧ (1 ≤ n27 ∧ n27 ≤ 255) ∧ (n28 = 0 ∨ (536 ≤ n28 ∧ n28 ≤ 65535)) ∧ (0 ≤ n29 ∧ n29 ≤ 2)
def waitsP (n30 n31 n32 n33 n34 : Int) : Prop := (120 ≤ n30 ∧ n30 ≤ 1048576) ∧ (7440 ≤ n31 ∧ n31 ≤ 1048576) ∧ (240 ≤ n32 ∧ n32 ≤ 1048576) ∧ (60 ≤ n33 ∧ n33 ≤ 1048576) ∧ (1 ≤ n34 ∧ n34 ≤ 1048576)
def portsP (n18 n19 : Int) : Prop := (1 ≤ n18 ∧ n18 ≤ 65535) ∧ (n18 ≤ n19 ∧ n19 ≤ 65535)
/-- The numbers may be. -/
structure numsP (n18 n19 n20 n21 n22 n23 n24 n25 n26 n27 n28 n29 n30 n31 n32 n33 n34 : Int) : Prop where
  rooms : roomsP n20 n21 n22 n23 n24
  ways : waysP n25 n26 n27 n28 n29
  waits : waitsP n30 n31 n32 n33 n34
  ports : portsP n18 n19

theorem numbers_ok {p0 p1 p2 p3 p4 p5 p6 p7 p8 p9 p10 p11 p12 p13 p14 p15 : Int} {sw po : SliceV} {n18 n19 n20 n21 n22 n23 n24 n25 n26 n27 n28 n29 n30 n31 n32 n33 n34 : Int} {st : SliceV} (w : World) : c_ref20_numbers p0 p1 p2 p3 p4 p5 p6 p7 p8 p9 p10 p11 p12 p13 p14 p15 sw po n18 n19 n20 n21 n22 n23 n24 n25 n26 n27 n28 n29 n30 n31 n32 n33 n34 st w fun r w' => (r = true ↔ numsP n18 n19 n20 n21 n22 n23 n24 n25 n26 n27 n28 n29 n30 n31 n32 n33 n34) ∧ Ext w w' := by
  apply ok_ref20_numbers
  unfold s_ref20_numbers
  refine Al_e fun a w1 ra ea z1 f1 => ?_
  simp -zeta only [Ld_eq, List.getElem?_cons_zero, List.getElem?_cons_succ, LdV_some, dec_int, add_mk, Nat.zero_add, ra.cell]
  intro J4
  have hJ4 : ∀ j5, (j5 = true ↔ roomsP n20 n21 n22 n23 n24) → J4 j5 w1 := by
    intro j5 h5
    simp -zeta only [J4]
    simp -zeta only [List.getElem?_cons_zero, List.getElem?_cons_succ, LdV_some, dec_int, ra.cell]
    intro J7
    have hJ7 : ∀ j8, (j8 = true ↔ waysP n25 n26 n27 n28 n29) → J7 j8 w1 := by
      intro j8 h8
      simp -zeta only [J7]
      simp -zeta only [List.getElem?_cons_zero, List.getElem?_cons_succ, LdV_some, dec_int, ra.cell]
      intro J10
      have hJ10 : ∀ j11, (j11 = true ↔ waitsP n30 n31 n32 n33 n34) → J10 j11 w1 := by
        intro j11 h11
        simp -zeta only [J10]
        intro J13
        have hJ13 : ∀ j14, (j14 = true ↔ (j5 = true ∧ j8 = true ∧ j11 = true ∧ portsP n18 n19)) → J13 j14 w1 := by
          intro j14 h14
          simp -zeta only [J13]
          refine ⟨h14.trans ?_, f1⟩
          rw [h5, h8, h11]
          exact ⟨fun h => ⟨h.1, h.2.1, h.2.2.1, h.2.2.2⟩, fun h => ⟨h.rooms, h.ways, h.waits, h.ports⟩⟩
        clear_value J13
        cases j5
        · rw [cond_false]; exact hJ13 _ ⟨fun h => (by cases h), fun h => (by cases h.1)⟩
        cases j8
        · rw [cond_true, cond_false]; exact hJ13 _ ⟨fun h => (by cases h), fun h => (by cases h.2.1)⟩
        cases j11
        · rw [cond_true, cond_true, cond_false]; exact hJ13 _ ⟨fun h => (by cases h), fun h => (by cases h.2.2.1)⟩
        rw [cond_true, cond_true, cond_true]
        have hJ : ∀ j14, (j14 = true ↔ portsP n18 n19) → J13 j14 w1 := fun j h => hJ13 j ⟨fun e => ⟨rfl, rfl, rfl, h.1 e⟩, fun e => h.2 e.2.2.2⟩
        clear hJ13
        simp -zeta only [List.getElem?_cons_zero, List.getElem?_cons_succ, LdV_some, dec_int, ra.cell]
        refine in_step (fun h0 => ?_) (fun hn => ?_)
        rotate_left
        · rw [cond_false]
          exact hJ _ ⟨fun h => (by cases h), fun h => absurd (by unfold portsP at h; omega) hn⟩
        rw [cond_true]
        try simp -zeta only [List.getElem?_cons_zero, List.getElem?_cons_succ, LdV_some, dec_int, ra.cell]
        refine in_step (fun h1 => ?_) (fun hn => ?_)
        rotate_left
        exact hJ _ ⟨fun h => (by cases h), fun h => absurd (by unfold portsP at h; omega) hn⟩
        exact hJ _ ⟨fun _ => (by unfold portsP; omega), fun _ => rfl⟩
      clear_value J10
      refine in_step (fun h0 => ?_) (fun hn => ?_)
      rotate_left
      · rw [cond_false]
        exact hJ10 _ ⟨fun h => (by cases h), fun h => absurd (by unfold waitsP at h; omega) hn⟩
      rw [cond_true]
      try simp -zeta only [List.getElem?_cons_zero, List.getElem?_cons_succ, LdV_some, dec_int, ra.cell]
      refine in_step (fun h1 => ?_) (fun hn => ?_)
      rotate_left
      · rw [cond_false]
        exact hJ10 _ ⟨fun h => (by cases h), fun h => absurd (by unfold waitsP at h; omega) hn⟩
      rw [cond_true]
      try simp -zeta only [List.getElem?_cons_zero, List.getElem?_cons_succ, LdV_some, dec_int, ra.cell]
      refine in_step (fun h2 => ?_) (fun hn => ?_)
      rotate_left
      · rw [cond_false]
        exact hJ10 _ ⟨fun h => (by cases h), fun h => absurd (by unfold waitsP at h; omega) hn⟩
      rw [cond_true]
      try simp -zeta only [List.getElem?_cons_zero, List.getElem?_cons_succ, LdV_some, dec_int, ra.cell]
      refine in_step (fun h3 => ?_) (fun hn => ?_)
      rotate_left
      · rw [cond_false]
        exact hJ10 _ ⟨fun h => (by cases h), fun h => absurd (by unfold waitsP at h; omega) hn⟩
      rw [cond_true]
      try simp -zeta only [List.getElem?_cons_zero, List.getElem?_cons_succ, LdV_some, dec_int, ra.cell]
      refine in_step (fun h4 => ?_) (fun hn => ?_)
      rotate_left
      exact hJ10 _ ⟨fun h => (by cases h), fun h => absurd (by unfold waitsP at h; omega) hn⟩
      exact hJ10 _ ⟨fun _ => (by unfold waitsP; omega), fun _ => rfl⟩
    clear_value J7
    refine in_step (fun h0 => ?_) (fun hn => ?_)
    rotate_left
    · rw [cond_false]
      exact hJ7 _ ⟨fun h => (by cases h), fun h => absurd (by unfold waysP at h; omega) hn⟩
    rw [cond_true]
    try simp -zeta only [List.getElem?_cons_zero, List.getElem?_cons_succ, LdV_some, dec_int, ra.cell]
    refine in_step (fun h1 => ?_) (fun hn => ?_)
    rotate_left
    · rw [cond_false]
      exact hJ7 _ ⟨fun h => (by cases h), fun h => absurd (by unfold waysP at h; omega) hn⟩
    rw [cond_true]
    try simp -zeta only [List.getElem?_cons_zero, List.getElem?_cons_succ, LdV_some, dec_int, ra.cell]
    refine in_step (fun h2 => ?_) (fun hn => ?_)
    rotate_left
    · rw [cond_false]
      exact hJ7 _ ⟨fun h => (by cases h), fun h => absurd (by unfold waysP at h; omega) hn⟩
    rw [cond_true]
    try simp -zeta only [List.getElem?_cons_zero, List.getElem?_cons_succ, LdV_some, dec_int, ra.cell]
    by_cases hm : n28 = 0
    · rw [show (n28 == 0) = true by simpa using hm, cond_true]
      try simp -zeta only [StN_nil, Option.isNone_some, Option.isNone_none, cond_false, cond_true, ex_some, Ld_eq, List.getElem?_cons_zero, List.getElem?_cons_succ, LdV_some, dec_slice, dec_int, dec_bool, dec_ptr, dec_str, dec_map, dec_any, AtIx_some, add_mk, Nat.zero_add, Nat.add_zero, ra.cell]
      refine in_step (fun h3 => ?_) (fun hn => ?_)
      rotate_left
      exact hJ7 _ ⟨fun h => (by cases h), fun h => absurd (by unfold waysP at h; omega) hn⟩
      exact hJ7 _ ⟨fun _ => (by unfold waysP; omega), fun _ => rfl⟩
    rw [show (n28 == 0) = false by simpa using hm, cond_false]
    try simp -zeta only [StN_nil, Option.isNone_some, Option.isNone_none, cond_false, cond_true, ex_some, Ld_eq, List.getElem?_cons_zero, List.getElem?_cons_succ, LdV_some, dec_slice, dec_int, dec_bool, dec_ptr, dec_str, dec_map, dec_any, AtIx_some, add_mk, Nat.zero_add, Nat.add_zero, ra.cell]
    refine in_step (fun h4 => ?_) (fun hn => ?_)
    rotate_left
    · rw [cond_false]
      exact hJ7 _ ⟨fun h => (by cases h), fun h => absurd (by unfold waysP at h; omega) hn⟩
    rw [cond_true]
    try simp -zeta only [List.getElem?_cons_zero, List.getElem?_cons_succ, LdV_some, dec_int, ra.cell]
    refine in_step (fun h5 => ?_) (fun hn => ?_)
    rotate_left
    exact hJ7 _ ⟨fun h => (by cases h), fun h => absurd (by unfold waysP at h; omega) hn⟩
    exact hJ7 _ ⟨fun _ => (by unfold waysP; omega), fun _ => rfl⟩
  clear_value J4
  refine in_step (fun h0 => ?_) (fun hn => ?_)
  rotate_left
  · rw [cond_false]
    exact hJ4 _ ⟨fun h => (by cases h), fun h => absurd (by unfold roomsP at h; omega) hn⟩
  rw [cond_true]
  try simp -zeta only [List.getElem?_cons_zero, List.getElem?_cons_succ, LdV_some, dec_int, ra.cell]
  refine in_step (fun h1 => ?_) (fun hn => ?_)
  rotate_left
  · rw [cond_false]
    exact hJ4 _ ⟨fun h => (by cases h), fun h => absurd (by unfold roomsP at h; omega) hn⟩
  rw [cond_true]
  try simp -zeta only [List.getElem?_cons_zero, List.getElem?_cons_succ, LdV_some, dec_int, ra.cell]
  refine in_step (fun h2 => ?_) (fun hn => ?_)
  rotate_left
  · rw [cond_false]
    exact hJ4 _ ⟨fun h => (by cases h), fun h => absurd (by unfold roomsP at h; omega) hn⟩
  rw [cond_true]
  try simp -zeta only [List.getElem?_cons_zero, List.getElem?_cons_succ, LdV_some, dec_int, ra.cell]
  refine in_step (fun h3 => ?_) (fun hn => ?_)
  rotate_left
  · rw [cond_false]
    exact hJ4 _ ⟨fun h => (by cases h), fun h => absurd (by unfold roomsP at h; omega) hn⟩
  rw [cond_true]
  try simp -zeta only [List.getElem?_cons_zero, List.getElem?_cons_succ, LdV_some, dec_int, ra.cell]
  refine in_step (fun h4 => ?_) (fun hn => ?_)
  rotate_left
  exact hJ4 _ ⟨fun h => (by cases h), fun h => absurd (by unfold roomsP at h; omega) hn⟩
  exact hJ4 _ ⟨fun _ => (by unfold roomsP; omega), fun _ => rfl⟩

theorem refpool_ok {w : World} {p0 p1 p2 p3 p4 p5 p6 p7 p8 p9 p10 p11 p12 p13 p14 p15 : Int} {sw po : SliceV} {n18 n19 n20 n21 n22 n23 n24 n25 n26 n27 n28 n29 n30 n31 n32 n33 n34 : Int} {st : SliceV} (x : Int) {pl : List Int} (hpo : SlN 1 eI w po pl) (hl : po.len ≤ 2 ^ 62) :
    c_ref20_pool p0 p1 p2 p3 p4 p5 p6 p7 p8 p9 p10 p11 p12 p13 p14 p15 sw po n18 n19 n20 n21 n22 n23 n24 n25 n26 n27 n28 n29 n30 n31 n32 n33 n34 st x w fun r w' => r = decide (x ∈ pl) ∧ Ext w w' := by
  apply ok_ref20_pool
  unfold s_ref20_pool
  refine Al_e fun a w1 ra ea z1 f1 => ?_
  have hpo := hpo.ext f1
  have hlen := hpo.len
  refine LoopP_inv (fun st' W => ∃ j : Nat, j ≤ pl.length ∧ st'.1 = (j : Int) ∧ W = w1 ∧ x ∉ pl.take j) (fun st' _ => (po.len - st'.1).toNat) ⟨0, by omega, rfl, rfl, by simp⟩ ?_
  rintro ⟨i, ⟨⟩⟩ W ⟨j, hj, hi, hw, hm⟩ next hnext
  simp only at hi
  subst hi; subst hw
  simp only [Ld_eq, List.getElem?_cons_zero, List.getElem?_cons_succ, LdV_some, dec_slice, add_mk, Nat.zero_add, ra.cell]
  by_cases hlt : (j : Int) < (po.len : Int)
  · simp only [hlt, decide_true, cond_true]
    have hx := List.getElem?_eq_getElem (show j < pl.length by omega)
    refine SlN_ix eI_len (by omega) hpo (by omega) (by rw [Int.toNat_natCast]; exact hx) fun a hc => ?_
    have c0 := hc 0 _ rfl
    rw [show a.add 0 = a from rfl] at c0
    simp only [LdV_some, dec_int, c0]
    by_cases he : pl[j] = x
    · rw [show (pl[j] == x) = true by simpa using he, cond_true]
      exact ⟨(decide_eq_true (by rw [← he]; exact List.getElem_mem _)).symm, f1⟩
    · rw [show (pl[j] == x) = false by simpa using he, cond_false]
      rw [wrap_i64 (by omega) (by omega)]
      refine hnext _ _ ⟨j + 1, by omega, by simp, rfl, ?_⟩ (by simp only; omega)
      rw [Gp.Cfg.take_snoc hx, List.mem_append, List.mem_singleton]
      exact fun h => h.elim hm fun e => he e.symm
  · simp only [hlt, decide_false, cond_false]
    rw [List.take_of_length_le (by omega)] at hm
    exact ⟨(decide_eq_false hm).symm, f1⟩

theorem static_ok {w : World} {p0 p1 p2 p3 p4 p5 p6 p7 p8 p9 p10 p11 p12 p13 p14 p15 : Int} {sw po : SliceV} {n18 n19 n20 n21 n22 n23 n24 n25 n26 n27 n28 n29 n30 n31 n32 n33 n34 : Int} {st : SliceV} {q0 q1 q2 q3 q4 q5 q6 : Int} {pl : List Int} (hsl : sw.len ≤ 2 ^ 62) (hpo : SlN 1 eI w po pl) (hpl : po.len ≤ 2 ^ 62) :
    c_ref20_static p0 p1 p2 p3 p4 p5 p6 p7 p8 p9 p10 p11 p12 p13 p14 p15 sw po n18 n19 n20 n21 n22 n23 n24 n25 n26 n27 n28 n29 n30 n31 n32 n33 n34 st q0 q1 q2 q3 q4 q5 q6 w fun r w' => (r = true ↔ toldP sw.len pl (q0, q1, q2, q3, q4, q5, q6, ())) ∧ Ext w w' := by
  apply ok_ref20_static
  unfold s_ref20_static
  refine Al_e fun a w1 ra ea z1 f1 => Al_e fun b w2 rb eb z2 f2 => ?_
  have ra := ra.ext f2
  have x2 := f1.trans f2
  clear f1 f2
  simp -zeta only [Ld_eq, List.getElem?_cons_zero, List.getElem?_cons_succ, LdV_some, dec_int, add_mk, Nat.zero_add, Nat.add_zero, rb.cell]
  intro J7
  have hJ7 : ∀ j8, (j8 = true ↔ (q1 = 1 ∨ q1 = 6 ∨ q1 = 17)) → J7 j8 := by
    intro j8 h8
    simp -zeta only [J7]
    try simp -zeta only [StN_nil, Option.isNone_some, Option.isNone_none, cond_false, cond_true, ex_some, Ld_eq, List.getElem?_cons_zero, List.getElem?_cons_succ, LdV_some, dec_slice, dec_int, dec_bool, dec_ptr, dec_str, dec_map, dec_any, AtIx_some, add_mk, Nat.zero_add, Nat.add_zero, rb.cell]
    intro J9
    have hJ9 : ∀ j10, (j10 = true ↔ ((0 ≤ q3 ∧ q3 ≤ 65535) ∧ (0 ≤ q6 ∧ q6 ≤ 65535))) → J9 j10 w2 := by
      intro j10 h10
      simp -zeta only [J9]
      intro J12
      have hJ12 : ∀ j13 W, Ext w2 W → (j13 = true ↔ (j8 = true ∧ j10 = true ∧ q4 = q1 ∧ (0 ≤ q0 ∧ q0 ≤ (sw.len : Int) - 1) ∧ hostF q2 ∧ q5 ∈ pl)) → J12 j13 W := by
        intro j13 W hx h13
        simp -zeta only [J12]
        refine ⟨h13.trans ?_, x2.trans hx⟩
        rw [h8, h10]
        exact ⟨fun ⟨h1, h2, h3, h4, h5, h6⟩ => ⟨h2, ⟨h5, h6⟩, ⟨h1, h3.symm⟩, h4⟩, fun ⟨h2, h56, h13', h4⟩ => ⟨h13'.1, h2, h13'.2.symm, h4, h56.1, h56.2⟩⟩
      clear_value J12
      cases j8
      · rw [cond_false]; exact hJ12 _ _ (Ext.refl _) ⟨fun h => (by cases h), fun h => (by cases h.1)⟩
      cases j10
      · rw [cond_true, cond_false]; exact hJ12 _ _ (Ext.refl _) ⟨fun h => (by cases h), fun h => (by cases h.2.1)⟩
      rw [cond_true, cond_true]
      try simp -zeta only [List.getElem?_cons_zero, List.getElem?_cons_succ, LdV_some, dec_int, rb.cell]
      by_cases he : q4 = q1
      rotate_left
      · rw [show (q4 == q1) = false by simpa using he, cond_false]
        exact hJ12 _ _ (Ext.refl _) ⟨fun h => (by cases h), fun h => absurd h.2.2.1 he⟩
      rw [show (q4 == q1) = true by simpa using he, cond_true]
      have rb0 : w2.cell? ⟨b, 0, none⟩ = some (.int .i64 q0) := rb.cell 0
      simp -zeta only [List.getElem?_cons_zero, List.getElem?_cons_succ, LdV_some, dec_slice, ra.cell]
      rw [wrap_i64 (by omega) (by omega)]
      refine in_step (fun h4 => ?_) (fun hn => ?_)
      rotate_left
      · rw [cond_false]
        exact hJ12 _ _ (Ext.refl _) ⟨fun h => (by cases h), fun h => absurd h.2.2.2.1 hn⟩
      rw [cond_true]
      try simp -zeta only [List.getElem?_cons_zero, List.getElem?_cons_succ, LdV_some, dec_int, rb.cell]
      refine cm_ref03_Host (ref_host_ok _ _) ?_
      rintro _ w' ⟨rfl, hw⟩
      subst hw
      by_cases h5 : hostF q2
      rotate_left
      · rw [decide_eq_false h5, cond_false]
        exact hJ12 _ _ (Ext.refl _) ⟨fun h => (by cases h), fun h => absurd h.2.2.2.2.1 h5⟩
      rw [decide_eq_true h5, cond_true]
      simp -zeta only [List.getElem?_cons_zero, List.getElem?_cons_succ, LdV_some, dec_slice, dec_int, ra.cell, rb.cell]
      refine cm_ref20_pool (refpool_ok _ (hpo.ext x2) hpl) ?_
      rintro _ w' ⟨rfl, hf⟩
      exact hJ12 _ _ hf ⟨fun h => ⟨rfl, rfl, he, h4, h5, of_decide_eq_true h⟩, fun h => decide_eq_true h.2.2.2.2.2⟩
    clear_value J9
    refine in_step (fun h1 => ?_) (fun hn => ?_)
    rotate_left
    · rw [cond_false]; exact hJ9 _ ⟨fun h => (by cases h), fun h => absurd h.1 hn⟩
    rw [cond_true]
    try simp -zeta only [List.getElem?_cons_zero, List.getElem?_cons_succ, LdV_some, dec_int, rb.cell]
    refine in_step (fun h2 => ?_) (fun hn => ?_)
    · exact hJ9 _ ⟨fun _ => ⟨h1, h2⟩, fun _ => rfl⟩
    · exact hJ9 _ ⟨fun h => (by cases h), fun h => absurd h.2 hn⟩
  clear_value J7
  by_cases h1 : q1 = 1
  · rw [show (q1 == 1) = true by simpa using h1, cond_true]
    exact hJ7 _ ⟨fun _ => .inl h1, fun _ => rfl⟩
  rw [show (q1 == 1) = false by simpa using h1, cond_false]
  try simp -zeta only [StN_nil, Option.isNone_some, Option.isNone_none, cond_false, cond_true, ex_some, Ld_eq, List.getElem?_cons_zero, List.getElem?_cons_succ, LdV_some, dec_slice, dec_int, dec_bool, dec_ptr, dec_str, dec_map, dec_any, AtIx_some, add_mk, Nat.zero_add, Nat.add_zero, rb.cell]
  by_cases h6 : q1 = 6
  · rw [show (q1 == 6) = true by simpa using h6, cond_true]
    exact hJ7 _ ⟨fun _ => .inr (.inl h6), fun _ => rfl⟩
  rw [show (q1 == 6) = false by simpa using h6, cond_false]
  try simp -zeta only [StN_nil, Option.isNone_some, Option.isNone_none, cond_false, cond_true, ex_some, Ld_eq, List.getElem?_cons_zero, List.getElem?_cons_succ, LdV_some, dec_slice, dec_int, dec_bool, dec_ptr, dec_str, dec_map, dec_any, AtIx_some, add_mk, Nat.zero_add, Nat.add_zero, rb.cell]
  exact hJ7 _ ⟨fun h => .inr (.inr (by simpa using h)), fun h => by rcases h with h | h | h; exact absurd h h1; exact absurd h h6; simpa using h⟩

end Go.Proofs

/- Settings: the document's answer about lists. -/
namespace Go.Proofs
open Gp
set_option maxRecDepth 100000

/-- The lists may be. -/
structure listsP (p : T16) (ls lp lt n21 : Int) (n : Nat) (sl : List T16) (pl : List Int) (tl : List T7) : Prop where
  own : hostS p = true
  nsw : 1 ≤ ls ∧ ls ≤ 64
  npo : 1 ≤ lp ∧ lp ≤ 16
  nst : lt ≤ 64
  nbi : lt ≤ n21
  sws : ∀ x ∈ sl, hostS x = true
  pos : ∀ x ∈ pl, hostF x
  sts : ∀ x ∈ tl, toldP n pl x

theorem all_snoc {α : Type} {P : α → Prop} {l : List α} {j : Nat} {x : α} (hx : l[j]? = some x) (h : ∀ y ∈ l.take j, P y) (hp : P x) : ∀ y ∈ l.take (j + 1), P y := by
  rw [Gp.Cfg.take_snoc hx]
  intro y hy
  rcases List.mem_append.1 hy with hy | hy
  · exact h y hy
  · rw [List.mem_singleton.1 hy]; exact hp

theorem lists_ok {w : World} {p0 p1 p2 p3 p4 p5 p6 p7 p8 p9 p10 p11 p12 p13 p14 p15 : Int} {sw po : SliceV} {n18 n19 n20 n21 n22 n23 n24 n25 n26 n27 n28 n29 n30 n31 n32 n33 n34 : Int} {st : SliceV} {sl : List T16} {pl : List Int} {tl : List T7} (hsw : SlN 16 e16 w sw sl) (hpo : SlN 1 eI w po pl) (hst : SlN 7 e7 w st tl) (lsw : sw.len ≤ 2 ^ 40) (lpo : po.len ≤ 2 ^ 40) (lst : st.len ≤ 2 ^ 40) :
    c_ref20_lists p0 p1 p2 p3 p4 p5 p6 p7 p8 p9 p10 p11 p12 p13 p14 p15 sw po n18 n19 n20 n21 n22 n23 n24 n25 n26 n27 n28 n29 n30 n31 n32 n33 n34 st w fun r w' => (r = true ↔ listsP (p0, p1, p2, p3, p4, p5, p6, p7, p8, p9, p10, p11, p12, p13, p14, p15, ()) sw.len po.len st.len n21 sw.len sl pl tl) ∧ Ext w w' := by
  apply ok_ref20_lists
  unfold s_ref20_lists
  refine Al_e fun a w1 ra ea z1 f1 => ?_
  simp -zeta only [Ld_eq, List.getElem?_cons_zero, List.getElem?_cons_succ, LdV_some, dec_int, add_mk, Nat.zero_add, Nat.add_zero, ra.cell]
  have hlsw := hsw.len
  have hlpo := hpo.len
  have hlst := hst.len
  intro J4
  have hJ4 : ∀ j5 W0, Ext w1 W0 → (j5 = false ↔ hostS (p0, p1, p2, p3, p4, p5, p6, p7, p8, p9, p10, p11, p12, p13, p14, p15, ()) = true ∧ (1 ≤ (sw.len : Int) ∧ (sw.len : Int) ≤ 64) ∧ (1 ≤ (po.len : Int) ∧ (po.len : Int) ≤ 16) ∧ (st.len : Int) ≤ 64 ∧ (st.len : Int) ≤ n21) → J4 j5 W0 := by
    intro j5 W0 x0 h5
    simp -zeta only [J4]
    have x0 := f1.trans x0
    cases j5
    rotate_left
    · rw [cond_true]
      exact ⟨⟨fun h => (by cases h), fun h => (by cases h5.2 ⟨h.own, h.nsw, h.npo, h.nst, h.nbi⟩)⟩, x0⟩
    rw [cond_false]
    obtain ⟨g1, g2, g3, g4, g5⟩ := h5.1 rfl
    clear h5
    refine LoopP_inv (fun st' W => ∃ j : Nat, j ≤ sl.length ∧ st'.1 = (j : Int) ∧ Ext W0 W ∧ ∀ x ∈ sl.take j, hostS x = true) (fun st' _ => (sl.length - st'.1).toNat) ⟨0, by omega, rfl, Ext.refl _, by simp⟩ ?_
    rintro ⟨i, ⟨⟩⟩ W ⟨j, hj, hi, hx, hall⟩ next hnext
    simp only at hi
    subst hi
    have xW := x0.trans hx
    have raW := (ra.ext (by assumption)).ext hx
    simp -zeta only [List.getElem?_cons_zero, List.getElem?_cons_succ, LdV_some, dec_slice, raW.cell]
    by_cases hlt : (j : Int) < (sw.len : Int)
    · rw [decide_eq_true hlt, cond_true]
      have hxj := List.getElem?_eq_getElem (show j < sl.length by omega)
      have hmem := List.getElem_mem (show j < sl.length by omega)
      generalize sl[j] = x at hxj hmem
      have hsn := all_snoc hxj hall
      refine SlN_ix e16_len (by omega) (hsw.ext xW) (by omega) (by rw [Int.toNat_natCast]; exact hxj) fun a' hc => ?_
      obtain ⟨x0, x1, x2, x3, x4, x5, x6, x7, x8, x9, x10, x11, x12, x13, x14, x15, ⟨⟩⟩ := x
      have c0 : W.cell? (a'.add 0) = some (.int .u8 x0) := hc 0 _ rfl; have c1 : W.cell? (a'.add 1) = some (.int .u8 x1) := hc 1 _ rfl; have c2 : W.cell? (a'.add 2) = some (.int .u8 x2) := hc 2 _ rfl; have c3 : W.cell? (a'.add 3) = some (.int .u8 x3) := hc 3 _ rfl; have c4 : W.cell? (a'.add 4) = some (.int .u8 x4) := hc 4 _ rfl; have c5 : W.cell? (a'.add 5) = some (.int .u8 x5) := hc 5 _ rfl; have c6 : W.cell? (a'.add 6) = some (.int .u8 x6) := hc 6 _ rfl; have c7 : W.cell? (a'.add 7) = some (.int .u8 x7) := hc 7 _ rfl; have c8 : W.cell? (a'.add 8) = some (.int .u8 x8) := hc 8 _ rfl; have c9 : W.cell? (a'.add 9) = some (.int .u8 x9) := hc 9 _ rfl; have c10 : W.cell? (a'.add 10) = some (.int .u8 x10) := hc 10 _ rfl; have c11 : W.cell? (a'.add 11) = some (.int .u8 x11) := hc 11 _ rfl; have c12 : W.cell? (a'.add 12) = some (.int .u8 x12) := hc 12 _ rfl; have c13 : W.cell? (a'.add 13) = some (.int .u8 x13) := hc 13 _ rfl; have c14 : W.cell? (a'.add 14) = some (.int .u8 x14) := hc 14 _ rfl; have c15 : W.cell? (a'.add 15) = some (.int .u8 x15) := hc 15 _ rfl
      simp -zeta only [LdV_some, dec_int, c0, c1, c2, c3, c4, c5, c6, c7, c8, c9, c10, c11, c12, c13, c14, c15]
      refine cm_ref04_Host (ref_six_ok _) ?_
      rintro r w3 ⟨hr, f3⟩
      cases hh : hostS (x0, x1, x2, x3, x4, x5, x6, x7, x8, x9, x10, x11, x12, x13, x14, x15, ())
      · rw [hh] at hr
        subst hr
        rw [Bool.not_false, cond_true]
        exact ⟨⟨fun h => (by cases h), fun h => (by have := h.sws _ hmem; rw [hh] at this; cases this)⟩, xW.trans f3⟩
      · rw [hh] at hr
        subst hr
        rw [Bool.not_true, cond_false, wrap_i64 (by omega) (by omega)]
        exact hnext _ _ ⟨j + 1, by omega, by simp, hx.trans f3, hsn hh⟩ (by simp only; omega)
    rw [decide_eq_false hlt, cond_false]
    rw [List.take_of_length_le (by omega)] at hall
    clear hnext
    refine LoopP_inv (fun st' V => ∃ j : Nat, j ≤ pl.length ∧ st'.1 = (j : Int) ∧ Ext W V ∧ ∀ x ∈ pl.take j, hostF x) (fun st' _ => (pl.length - st'.1).toNat) ⟨0, by omega, rfl, Ext.refl _, by simp⟩ ?_
    rintro ⟨i, ⟨⟩⟩ V ⟨k, hk, hi, hv, hall2⟩ next hnext
    simp only at hi
    subst hi
    have xV := xW.trans hv
    have raV := raW.ext hv
    simp -zeta only [List.getElem?_cons_zero, List.getElem?_cons_succ, LdV_some, dec_slice, raV.cell]
    by_cases hlt2 : (k : Int) < (po.len : Int)
    · rw [decide_eq_true hlt2, cond_true]
      have hxj := List.getElem?_eq_getElem (show k < pl.length by omega)
      have hmem := List.getElem_mem (show k < pl.length by omega)
      generalize pl[k] = x at hxj hmem
      have hsn := all_snoc hxj hall2
      refine SlN_ix eI_len (by omega) (hpo.ext xV) (by omega) (by rw [Int.toNat_natCast]; exact hxj) fun a' hc => ?_
      have c0 := hc 0 _ rfl
      rw [show a'.add 0 = a' from rfl] at c0
      simp -zeta only [LdV_some, dec_int, c0]
      refine cm_ref03_Host (ref_host_ok _ _) ?_
      rintro r w3 ⟨hr, hw⟩
      subst hw
      by_cases hh : hostF x
      · rw [decide_eq_true hh] at hr
        subst hr
        rw [Bool.not_true, cond_false, wrap_i64 (by omega) (by omega)]
        exact hnext _ _ ⟨k + 1, by omega, by simp, hv, hsn hh⟩ (by simp only; omega)
      · rw [decide_eq_false hh] at hr
        subst hr
        rw [Bool.not_false, cond_true]
        exact ⟨⟨fun h => (by cases h), fun h => absurd (h.pos _ hmem) hh⟩, xV⟩
    rw [decide_eq_false hlt2, cond_false]
    rw [List.take_of_length_le (by omega)] at hall2
    clear hnext
    refine LoopP_inv (fun st' U => ∃ j : Nat, j ≤ tl.length ∧ st'.1 = (j : Int) ∧ Ext V U ∧ ∀ x ∈ tl.take j, toldP sw.len pl x) (fun st' _ => (tl.length - st'.1).toNat) ⟨0, by omega, rfl, Ext.refl _, by simp⟩ ?_
    rintro ⟨i, ⟨⟩⟩ U ⟨m, hm, hi, hu, hall3⟩ next hnext
    simp only at hi
    subst hi
    have xU := xV.trans hu
    have raU := raV.ext hu
    have rdU := raU.drew
    have dU := xU.trans (Ext.drew U)
    simp -zeta only [List.getElem?_cons_zero, List.getElem?_cons_succ, LdV_some, dec_slice, raU.cell]
    by_cases hlt3 : (m : Int) < (st.len : Int)
    · rw [decide_eq_true hlt3, cond_true]
      have hxj := List.getElem?_eq_getElem (show m < tl.length by omega)
      have hmem := List.getElem_mem (show m < tl.length by omega)
      generalize tl[m] = x at hxj hmem
      have hsn := all_snoc hxj hall3
      simp -zeta only [List.getElem?_cons_zero, List.getElem?_cons_succ, LdV_some, dec_slice, dec_int, rdU.cell]
      refine SlN_ix e7_len (by omega) (hst.ext dU) (by omega) (by rw [Int.toNat_natCast]; exact hxj) fun a' hc => ?_
      obtain ⟨x0, x1, x2, x3, x4, x5, x6, ⟨⟩⟩ := x
      have c0 : U.drew.cell? (a'.add 0) = some (.int .i64 x0) := hc 0 _ rfl; have c1 : U.drew.cell? (a'.add 1) = some (.int .i64 x1) := hc 1 _ rfl; have c2 : U.drew.cell? (a'.add 2) = some (.int .i64 x2) := hc 2 _ rfl; have c3 : U.drew.cell? (a'.add 3) = some (.int .i64 x3) := hc 3 _ rfl; have c4 : U.drew.cell? (a'.add 4) = some (.int .i64 x4) := hc 4 _ rfl; have c5 : U.drew.cell? (a'.add 5) = some (.int .i64 x5) := hc 5 _ rfl; have c6 : U.drew.cell? (a'.add 6) = some (.int .i64 x6) := hc 6 _ rfl
      simp -zeta only [LdV_some, dec_int, c0, c1, c2, c3, c4, c5, c6]
      refine cm_ref20_static (static_ok (Nat.le_trans lsw (by omega)) (hpo.ext dU) (Nat.le_trans lpo (by omega))) ?_
      rintro r w3 ⟨hr, f3⟩
      cases r
      · rw [Bool.not_false, cond_true]
        exact ⟨⟨fun h => (by cases h), fun h => (by cases hr.2 (h.sts _ hmem))⟩, dU.trans f3⟩
      · rw [Bool.not_true, cond_false, wrap_i64 (by omega) (by omega)]
        exact hnext _ _ ⟨m + 1, by omega, by simp, (hu.trans (Ext.drew U)).trans f3, hsn (hr.1 rfl)⟩ (by simp only; omega)
    rw [decide_eq_false hlt3, cond_false]
    rw [List.take_of_length_le (by omega)] at hall3
    exact ⟨⟨fun _ => ⟨g1, g2, g3, g4, g5, hall, hall2, hall3⟩, fun _ => by trivial⟩, xU⟩
  clear_value J4
  refine cm_ref04_Host (ref_six_ok _) ?_
  rintro r w3 ⟨hr, f3⟩
  cases hh : hostS (p0, p1, p2, p3, p4, p5, p6, p7, p8, p9, p10, p11, p12, p13, p14, p15, ())
  · rw [hh] at hr
    subst hr
    rw [Bool.not_false, cond_true]
    exact hJ4 _ _ f3 ⟨fun h => (by cases h), fun h => (by rw [hh] at h; cases h.1)⟩
  rw [hh] at hr
  subst hr
  rw [Bool.not_true, cond_false]
  have ra3 := ra.ext f3
  simp -zeta only [List.getElem?_cons_zero, List.getElem?_cons_succ, LdV_some, dec_slice, ra3.cell]
  refine in_step (fun h2 => ?_) (fun hn => ?_)
  rotate_left
  · rw [Bool.not_false, cond_true]
    exact hJ4 _ _ f3 ⟨fun h => (by cases h), fun h => absurd h.2.1 hn⟩
  rw [Bool.not_true, cond_false]
  try simp -zeta only [List.getElem?_cons_zero, List.getElem?_cons_succ, LdV_some, dec_slice, ra3.cell]
  refine in_step (fun h3 => ?_) (fun hn => ?_)
  rotate_left
  · rw [Bool.not_false, cond_true]
    exact hJ4 _ _ f3 ⟨fun h => (by cases h), fun h => absurd h.2.2.1 hn⟩
  rw [Bool.not_true, cond_false]
  try simp -zeta only [List.getElem?_cons_zero, List.getElem?_cons_succ, LdV_some, dec_slice, dec_int, ra3.cell]
  by_cases h4 : (st.len : Int) > 64
  · rw [decide_eq_true h4, cond_true]
    exact hJ4 _ _ f3 ⟨fun h => (by cases h), fun h => by have := h.2.2.2.1; omega⟩
  rw [decide_eq_false h4, cond_false]
  try simp -zeta only [StN_nil, Option.isNone_some, Option.isNone_none, cond_false, cond_true, ex_some, Ld_eq, List.getElem?_cons_zero, List.getElem?_cons_succ, LdV_some, dec_slice, dec_int, dec_bool, dec_ptr, dec_str, dec_map, dec_any, AtIx_some, add_mk, Nat.zero_add, Nat.add_zero, ra3.cell]
  by_cases h5 : (st.len : Int) > n21
  · rw [decide_eq_true h5]
    exact hJ4 _ _ f3 ⟨fun h => (by cases h), fun h => by have := h.2.2.2.2; omega⟩
  · rw [decide_eq_false h5]
    exact hJ4 _ _ f3 ⟨fun _ => ⟨hh, h2, h3, by omega, by omega⟩, fun _ => by trivial⟩

end Go.Proofs

/- Settings: the document's answer about what is there twice. -/
namespace Go.Proofs
open Gp
set_option maxRecDepth 100000

theorem eqb16 {a0 a1 a2 a3 a4 a5 a6 a7 a8 a9 a10 a11 a12 a13 a14 a15 : Int} {b0 b1 b2 b3 b4 b5 b6 b7 b8 b9 b10 b11 b12 b13 b14 b15 : Int} (c : Bool) (hc : c = ((a0 == b0) && ((a1 == b1) && ((a2 == b2) && ((a3 == b3) && ((a4 == b4) && ((a5 == b5) && ((a6 == b6) && ((a7 == b7) && ((a8 == b8) && ((a9 == b9) && ((a10 == b10) && ((a11 == b11) && ((a12 == b12) && ((a13 == b13) && ((a14 == b14) && ((a15 == b15) && true))))))))))))))))) : c = decide (((a0, a1, a2, a3, a4, a5, a6, a7, a8, a9, a10, a11, a12, a13, a14, a15, ()) : T16) = (b0, b1, b2, b3, b4, b5, b6, b7, b8, b9, b10, b11, b12, b13, b14, b15, ())) := by
  subst hc
  simp [ibeq, Bool.decide_and]
theorem eqb4 {a0 a1 a2 a3 : Int} {b0 b1 b2 b3 : Int} (c : Bool) (hc : c = ((a0 == b0) && ((a1 == b1) && ((a2 == b2) && ((a3 == b3) && true))))) : c = decide (((a0, a1, a2, a3, ()) : T4) = (b0, b1, b2, b3, ())) := by
  subst hc
  simp [ibeq, Bool.decide_and]
theorem eqb3 {a0 a1 a2 : Int} {b0 b1 b2 : Int} (c : Bool) (hc : c = ((a0 == b0) && ((a1 == b1) && ((a2 == b2) && true)))) : c = decide (((a0, a1, a2, ()) : T3) = (b0, b1, b2, ())) := by
  subst hc
  simp [ibeq, Bool.decide_and]

/-- Nothing is there twice, as the document asks. -/
structure docFine (p : T16) (sl : List T16) (pl : List Int) (tl : List T7) (q : Int) : Prop where
  sws : ∀ (i : Nat) x, sl[i]? = some x → x ∉ sl.take i ∧ x ≠ p
  pos : ∀ (i : Nat) x, pl[i]? = some x → x ∉ pl.take i
  sts : ∀ (i : Nat) x, tl[i]? = some x → Gp.Cfg.Fine inner7 outer7 sw7 q tl i x

theorem lt_snoc {α : Type} {P : Nat → α → Prop} {l : List α} {j : Nat} {x : α} (hx : l[j]? = some x) (h : ∀ (i : Nat) y, i < j → l[i]? = some y → P i y) (hp : P j x) : ∀ (i : Nat) y, i < j + 1 → l[i]? = some y → P i y := by
  intro i y hi hy
  by_cases he : i = j
  · subst he
    rw [hx] at hy
    cases hy
    exact hp
  · exact h i y (by omega) hy

theorem lt_all {α : Type} {P : Nat → α → Prop} {l : List α} {j : Nat} (hj : l.length ≤ j) (h : ∀ (i : Nat) y, i < j → l[i]? = some y → P i y) : ∀ (i : Nat) y, l[i]? = some y → P i y :=
  fun i y hy => h i y (by have := (List.getElem?_eq_some_iff.1 hy).1; omega) hy

theorem mem_take_lt {α : Type} {l : List α} {k j : Nat} {x : α} (hx : l[k]? = some x) (h : k < j) : x ∈ l.take j := by
  obtain ⟨h1, rfl⟩ := List.getElem?_eq_some_iff.1 hx
  exact List.mem_take_iff_getElem.2 ⟨k, by omega, rfl⟩

theorem reftwice_ok {w : World} {p0 p1 p2 p3 p4 p5 p6 p7 p8 p9 p10 p11 p12 p13 p14 p15 : Int} {sw po : SliceV} {n18 n19 n20 n21 n22 n23 n24 n25 n26 n27 n28 n29 n30 n31 n32 n33 n34 : Int} {st : SliceV} {sl : List T16} {pl : List Int} {tl : List T7} (hsw : SlN 16 e16 w sw sl) (hpo : SlN 1 eI w po pl) (hst : SlN 7 e7 w st tl) (lsw : sw.len ≤ 2 ^ 40) (lpo : po.len ≤ 2 ^ 40) (lst : st.len ≤ 2 ^ 40) :
    c_ref20_twice p0 p1 p2 p3 p4 p5 p6 p7 p8 p9 p10 p11 p12 p13 p14 p15 sw po n18 n19 n20 n21 n22 n23 n24 n25 n26 n27 n28 n29 n30 n31 n32 n33 n34 st w fun r w' => (r = true ↔ ¬ docFine (p0, p1, p2, p3, p4, p5, p6, p7, p8, p9, p10, p11, p12, p13, p14, p15, ()) sl pl tl n20) ∧ Ext w w' := by
  apply ok_ref20_twice
  unfold s_ref20_twice
  refine Al_e fun a w1 ra ea z1 f1 => ?_
  have hlsw := hsw.len
  have hlpo := hpo.len
  have hlst := hst.len
  refine LoopP_inv (fun st' W => ∃ j : Nat, j ≤ sl.length ∧ st'.1 = (j : Int) ∧ Ext w1 W ∧ ∀ (i : Nat) x, i < j → sl[i]? = some x → x ∉ sl.take i ∧ x ≠ (p0, p1, p2, p3, p4, p5, p6, p7, p8, p9, p10, p11, p12, p13, p14, p15, ())) (fun st' _ => (sl.length - st'.1).toNat) ⟨0, by omega, rfl, Ext.refl _, by omega⟩ ?_
  rintro ⟨i, ⟨⟩⟩ W ⟨j, hj, hi, hx, hall⟩ next hnext
  simp only at hi
  subst hi
  have xW := f1.trans hx
  have raW := ra.ext hx
  simp -zeta only [Ld_eq, List.getElem?_cons_zero, List.getElem?_cons_succ, LdV_some, dec_slice, add_mk, Nat.zero_add, Nat.add_zero, raW.cell]
  by_cases hlt : (j : Int) < (sw.len : Int)
  · rw [decide_eq_true hlt, cond_true]
    have hxj := List.getElem?_eq_getElem (show j < sl.length by omega)
    generalize sl[j] = x at hxj
    refine LoopP_inv (fun st' V => ∃ k : Nat, k ≤ j ∧ st'.1 = (k : Int) ∧ Ext W V ∧ x ∉ sl.take k) (fun st' _ => (j - st'.1).toNat) ⟨0, by omega, rfl, Ext.refl _, by simp⟩ ?_
    rintro ⟨i, ⟨⟩⟩ V ⟨k, hk, hi, hv, hno⟩ next2 hnext2
    simp only at hi
    subst hi
    have dV := hv.trans (Ext.drew V)
    have xV := xW.trans dV
    have raV := raW.ext dV
    have hswV := hsw.ext xV
    by_cases hlt2 : (k : Int) < (j : Int)
    · rw [decide_eq_true hlt2, cond_true]
      simp -zeta only [List.getElem?_cons_zero, List.getElem?_cons_succ, LdV_some, dec_slice, raV.cell]
      have hyk := List.getElem?_eq_getElem (show k < sl.length by omega)
      generalize sl[k] = y at hyk
      refine SlN_ix e16_len (by omega) hswV (by omega) (by rw [Int.toNat_natCast]; exact hyk) fun a' hc => ?_
      obtain ⟨y0, y1, y2, y3, y4, y5, y6, y7, y8, y9, y10, y11, y12, y13, y14, y15, ⟨⟩⟩ := y
      have c0 : V.drew.cell? (a'.add 0) = some (.int .u8 y0) := hc 0 _ rfl; have c1 : V.drew.cell? (a'.add 1) = some (.int .u8 y1) := hc 1 _ rfl; have c2 : V.drew.cell? (a'.add 2) = some (.int .u8 y2) := hc 2 _ rfl; have c3 : V.drew.cell? (a'.add 3) = some (.int .u8 y3) := hc 3 _ rfl; have c4 : V.drew.cell? (a'.add 4) = some (.int .u8 y4) := hc 4 _ rfl; have c5 : V.drew.cell? (a'.add 5) = some (.int .u8 y5) := hc 5 _ rfl; have c6 : V.drew.cell? (a'.add 6) = some (.int .u8 y6) := hc 6 _ rfl; have c7 : V.drew.cell? (a'.add 7) = some (.int .u8 y7) := hc 7 _ rfl; have c8 : V.drew.cell? (a'.add 8) = some (.int .u8 y8) := hc 8 _ rfl; have c9 : V.drew.cell? (a'.add 9) = some (.int .u8 y9) := hc 9 _ rfl; have c10 : V.drew.cell? (a'.add 10) = some (.int .u8 y10) := hc 10 _ rfl; have c11 : V.drew.cell? (a'.add 11) = some (.int .u8 y11) := hc 11 _ rfl; have c12 : V.drew.cell? (a'.add 12) = some (.int .u8 y12) := hc 12 _ rfl; have c13 : V.drew.cell? (a'.add 13) = some (.int .u8 y13) := hc 13 _ rfl; have c14 : V.drew.cell? (a'.add 14) = some (.int .u8 y14) := hc 14 _ rfl; have c15 : V.drew.cell? (a'.add 15) = some (.int .u8 y15) := hc 15 _ rfl
      simp -zeta only [LdV_some, dec_int, c0, c1, c2, c3, c4, c5, c6, c7, c8, c9, c10, c11, c12, c13, c14, c15]
      refine SlN_ix e16_len (by omega) hswV (by omega) (by rw [Int.toNat_natCast]; exact hxj) fun a'' hd => ?_
      obtain ⟨x0, x1, x2, x3, x4, x5, x6, x7, x8, x9, x10, x11, x12, x13, x14, x15, ⟨⟩⟩ := x
      have d0 : V.drew.cell? (a''.add 0) = some (.int .u8 x0) := hd 0 _ rfl; have d1 : V.drew.cell? (a''.add 1) = some (.int .u8 x1) := hd 1 _ rfl; have d2 : V.drew.cell? (a''.add 2) = some (.int .u8 x2) := hd 2 _ rfl; have d3 : V.drew.cell? (a''.add 3) = some (.int .u8 x3) := hd 3 _ rfl; have d4 : V.drew.cell? (a''.add 4) = some (.int .u8 x4) := hd 4 _ rfl; have d5 : V.drew.cell? (a''.add 5) = some (.int .u8 x5) := hd 5 _ rfl; have d6 : V.drew.cell? (a''.add 6) = some (.int .u8 x6) := hd 6 _ rfl; have d7 : V.drew.cell? (a''.add 7) = some (.int .u8 x7) := hd 7 _ rfl; have d8 : V.drew.cell? (a''.add 8) = some (.int .u8 x8) := hd 8 _ rfl; have d9 : V.drew.cell? (a''.add 9) = some (.int .u8 x9) := hd 9 _ rfl; have d10 : V.drew.cell? (a''.add 10) = some (.int .u8 x10) := hd 10 _ rfl; have d11 : V.drew.cell? (a''.add 11) = some (.int .u8 x11) := hd 11 _ rfl; have d12 : V.drew.cell? (a''.add 12) = some (.int .u8 x12) := hd 12 _ rfl; have d13 : V.drew.cell? (a''.add 13) = some (.int .u8 x13) := hd 13 _ rfl; have d14 : V.drew.cell? (a''.add 14) = some (.int .u8 x14) := hd 14 _ rfl; have d15 : V.drew.cell? (a''.add 15) = some (.int .u8 x15) := hd 15 _ rfl
      simp -zeta only [LdV_some, dec_int, d0, d1, d2, d3, d4, d5, d6, d7, d8, d9, d10, d11, d12, d13, d14, d15]
      rw [eqb16 _ rfl]
      by_cases he : ((y0, y1, y2, y3, y4, y5, y6, y7, y8, y9, y10, y11, y12, y13, y14, y15, ()) : T16) = (x0, x1, x2, x3, x4, x5, x6, x7, x8, x9, x10, x11, x12, x13, x14, x15, ())
      · rw [decide_eq_true he, cond_true]
        refine ⟨⟨fun _ h => ?_, fun _ => by trivial⟩, xV⟩
        exact (h.sws j _ hxj).1 (he ▸ mem_take_lt hyk (by omega))
      · rw [decide_eq_false he, cond_false, wrap_i64 (by omega) (by omega)]
        refine hnext2 _ _ ⟨k + 1, by omega, by simp, dV, ?_⟩ (by simp only; omega)
        rw [Gp.Cfg.take_snoc hyk]
        intro hm
        rcases List.mem_append.1 hm with hm | hm
        · exact hno hm
        · exact he (List.mem_singleton.1 hm).symm
    · have hkj : k = j := by omega
      subst hkj
      rw [decide_eq_false hlt2, cond_false]
      simp -zeta only [List.getElem?_cons_zero, List.getElem?_cons_succ, LdV_some, dec_slice, dec_int, raV.cell]
      refine SlN_ix e16_len (by omega) hswV (by omega) (by rw [Int.toNat_natCast]; exact hxj) fun a'' hd => ?_
      obtain ⟨x0, x1, x2, x3, x4, x5, x6, x7, x8, x9, x10, x11, x12, x13, x14, x15, ⟨⟩⟩ := x
      have d0 : V.drew.cell? (a''.add 0) = some (.int .u8 x0) := hd 0 _ rfl; have d1 : V.drew.cell? (a''.add 1) = some (.int .u8 x1) := hd 1 _ rfl; have d2 : V.drew.cell? (a''.add 2) = some (.int .u8 x2) := hd 2 _ rfl; have d3 : V.drew.cell? (a''.add 3) = some (.int .u8 x3) := hd 3 _ rfl; have d4 : V.drew.cell? (a''.add 4) = some (.int .u8 x4) := hd 4 _ rfl; have d5 : V.drew.cell? (a''.add 5) = some (.int .u8 x5) := hd 5 _ rfl; have d6 : V.drew.cell? (a''.add 6) = some (.int .u8 x6) := hd 6 _ rfl; have d7 : V.drew.cell? (a''.add 7) = some (.int .u8 x7) := hd 7 _ rfl; have d8 : V.drew.cell? (a''.add 8) = some (.int .u8 x8) := hd 8 _ rfl; have d9 : V.drew.cell? (a''.add 9) = some (.int .u8 x9) := hd 9 _ rfl; have d10 : V.drew.cell? (a''.add 10) = some (.int .u8 x10) := hd 10 _ rfl; have d11 : V.drew.cell? (a''.add 11) = some (.int .u8 x11) := hd 11 _ rfl; have d12 : V.drew.cell? (a''.add 12) = some (.int .u8 x12) := hd 12 _ rfl; have d13 : V.drew.cell? (a''.add 13) = some (.int .u8 x13) := hd 13 _ rfl; have d14 : V.drew.cell? (a''.add 14) = some (.int .u8 x14) := hd 14 _ rfl; have d15 : V.drew.cell? (a''.add 15) = some (.int .u8 x15) := hd 15 _ rfl
      simp -zeta only [LdV_some, dec_int, d0, d1, d2, d3, d4, d5, d6, d7, d8, d9, d10, d11, d12, d13, d14, d15]
      rw [eqb16 _ rfl]
      by_cases he : ((x0, x1, x2, x3, x4, x5, x6, x7, x8, x9, x10, x11, x12, x13, x14, x15, ()) : T16) = (p0, p1, p2, p3, p4, p5, p6, p7, p8, p9, p10, p11, p12, p13, p14, p15, ())
      · rw [decide_eq_true he, cond_true]
        exact ⟨⟨fun _ h => (h.sws _ _ hxj).2 he, fun _ => by trivial⟩, xV⟩
      · rw [decide_eq_false he, cond_false, wrap_i64 (by omega) (by omega)]
        exact hnext _ _ ⟨k + 1, by omega, by simp, hx.trans dV, lt_snoc hxj hall ⟨hno, he⟩⟩ (by simp only; omega)
  rw [decide_eq_false hlt, cond_false]
  have hall := lt_all (by omega) hall
  clear hnext
  refine LoopP_inv (fun st' V => ∃ j : Nat, j ≤ pl.length ∧ st'.1 = (j : Int) ∧ Ext W V ∧ ∀ (i : Nat) x, i < j → pl[i]? = some x → x ∉ pl.take i) (fun st' _ => (pl.length - st'.1).toNat) ⟨0, by omega, rfl, Ext.refl _, by omega⟩ ?_
  rintro ⟨i, ⟨⟩⟩ V ⟨j2, hj2, hi, hv, hall2⟩ next hnext
  simp only at hi
  subst hi
  have xV := xW.trans hv
  have raV := raW.ext hv
  simp -zeta only [List.getElem?_cons_zero, List.getElem?_cons_succ, LdV_some, dec_slice, raV.cell]
  by_cases hlt2 : (j2 : Int) < (po.len : Int)
  · rw [decide_eq_true hlt2, cond_true]
    have hxj := List.getElem?_eq_getElem (show j2 < pl.length by omega)
    generalize pl[j2] = x at hxj
    refine LoopP_inv (fun st' U => ∃ k : Nat, k ≤ j2 ∧ st'.1 = (k : Int) ∧ Ext V U ∧ x ∉ pl.take k) (fun st' _ => (j2 - st'.1).toNat) ⟨0, by omega, rfl, Ext.refl _, by simp⟩ ?_
    rintro ⟨i, ⟨⟩⟩ U ⟨k, hk, hi, hu, hno⟩ next2 hnext2
    simp only at hi
    subst hi
    by_cases hlt3 : (k : Int) < (j2 : Int)
    · have dU := hu.trans (Ext.drew U)
      have xU := xV.trans dU
      have raU := raV.ext dU
      have hpoU := hpo.ext xU
      rw [decide_eq_true hlt3, cond_true]
      simp -zeta only [List.getElem?_cons_zero, List.getElem?_cons_succ, LdV_some, dec_slice, raU.cell]
      have hyk := List.getElem?_eq_getElem (show k < pl.length by omega)
      generalize pl[k] = y at hyk
      refine SlN_ix eI_len (by omega) hpoU (by omega) (by rw [Int.toNat_natCast]; exact hyk) fun a' hc => ?_
      have c0 := hc 0 _ rfl
      rw [show a'.add 0 = a' from rfl] at c0
      simp -zeta only [LdV_some, dec_int, c0]
      refine SlN_ix eI_len (by omega) hpoU (by omega) (by rw [Int.toNat_natCast]; exact hxj) fun a'' hd => ?_
      have d0 := hd 0 _ rfl
      rw [show a''.add 0 = a'' from rfl] at d0
      simp -zeta only [LdV_some, dec_int, d0]
      rw [ibeq]
      by_cases he : y = x
      · rw [decide_eq_true he, cond_true]
        refine ⟨⟨fun _ h => ?_, fun _ => by trivial⟩, xU⟩
        exact h.pos j2 _ hxj (he ▸ mem_take_lt hyk (by omega))
      · rw [decide_eq_false he, cond_false, wrap_i64 (by omega) (by omega)]
        refine hnext2 _ _ ⟨k + 1, by omega, by simp, dU, ?_⟩ (by simp only; omega)
        rw [Gp.Cfg.take_snoc hyk]
        intro hm
        rcases List.mem_append.1 hm with hm | hm
        · exact hno hm
        · exact he (List.mem_singleton.1 hm).symm
    · have hkj : k = j2 := by omega
      subst hkj
      rw [decide_eq_false hlt3, cond_false, wrap_i64 (by omega) (by omega)]
      exact hnext _ _ ⟨k + 1, by omega, by simp, hv.trans hu, lt_snoc hxj hall2 hno⟩ (by simp only; omega)
  rw [decide_eq_false hlt2, cond_false]
  have hall2 := lt_all (by omega) hall2
  clear hnext
  refine LoopP_inv (fun st' U => ∃ j : Nat, j ≤ tl.length ∧ st'.1 = (j : Int) ∧ Ext V U ∧ ∀ (i : Nat) x, i < j → tl[i]? = some x → Gp.Cfg.Fine inner7 outer7 sw7 n20 tl i x) (fun st' _ => (tl.length - st'.1).toNat) ⟨0, by omega, rfl, Ext.refl _, by omega⟩ ?_
  rintro ⟨i, ⟨⟩⟩ U ⟨j3, hj3, hi, hu, hall3⟩ next hnext
  simp only at hi
  subst hi
  have xU := xV.trans hu
  have raU := raV.ext hu
  simp -zeta only [List.getElem?_cons_zero, List.getElem?_cons_succ, LdV_some, dec_slice, raU.cell]
  by_cases hlt3 : (j3 : Int) < (st.len : Int)
  · rw [decide_eq_true hlt3, cond_true]
    have hxj := List.getElem?_eq_getElem (show j3 < tl.length by omega)
    generalize tl[j3] = x at hxj
    refine LoopP_inv (fun st' T => ∃ k : Nat, k ≤ j3 ∧ st'.2.1 = (k : Int) ∧ st'.1 = 1 + (((tl.take k).countP fun y => sw7 y == sw7 x : Nat) : Int) ∧ Ext U T ∧ ∀ y ∈ tl.take k, inner7 y ≠ inner7 x ∧ outer7 y ≠ outer7 x) (fun st' _ => (j3 - st'.2.1).toNat) ⟨0, by omega, rfl, by simp, Ext.refl _, by simp⟩ ?_
    rintro ⟨n, i, ⟨⟩⟩ T ⟨k, hk, hi, hn, ht, hone⟩ next2 hnext2
    simp only at hi hn
    subst hi
    by_cases hlt4 : (k : Int) < (j3 : Int)
    · have dT := ht.trans (Ext.drew T)
      have xT := xU.trans dT
      have raT := raU.ext dT
      rw [decide_eq_true hlt4, cond_true]
      have hyk := List.getElem?_eq_getElem (show k < tl.length by omega)
      generalize tl[k] = y at hyk
      have hcl : (tl.take k).countP (fun y => sw7 y == sw7 x) ≤ tl.length := Nat.le_trans (List.countP_le_length) (by simp; omega)
      have hcnt : (tl.take (k + 1)).countP (fun z => sw7 z == sw7 x) = (tl.take k).countP (fun z => sw7 z == sw7 x) + if sw7 y = sw7 x then 1 else 0 := by
        rw [Gp.Cfg.take_snoc hyk, List.countP_append, List.countP_singleton]
        congr 1
        by_cases h : sw7 y = sw7 x <;> simp [h]
      have hsn := all_snoc (P := fun y => inner7 y ≠ inner7 x ∧ outer7 y ≠ outer7 x) hyk hone
      intro J101
      have hJ101 : ∀ n' T', Ext T.drew T' → n' = 1 + (((tl.take (k + 1)).countP fun y => sw7 y == sw7 x : Nat) : Int) → (inner7 y ≠ inner7 x ∧ outer7 y ≠ outer7 x) → J101 n' T' := by
        intro n' T' hT hn' ho
        simp -zeta only [J101]
        rw [wrap_i64 (by omega) (by omega)]
        exact hnext2 _ _ ⟨k + 1, by omega, by simp, hn', dT.trans hT, hsn ho⟩ (by simp only; omega)
      clear_value J101
      intro J104
      have hJ104 : ∀ b T', Ext T.drew T' → (b = true ↔ ¬ (inner7 y ≠ inner7 x ∧ outer7 y ≠ outer7 x)) → J104 b T' := by
        intro b T' hT hb
        simp -zeta only [J104]
        have xT' := xT.trans hT
        cases b
        · have ho : inner7 y ≠ inner7 x ∧ outer7 y ≠ outer7 x := by
            by_cases h : inner7 y ≠ inner7 x ∧ outer7 y ≠ outer7 x
            · exact h
            · exact absurd (hb.2 h) (by simp)
          rw [cond_false]
          have hT2 := hT.trans (Ext.drew T')
          have raT' := raT.ext hT2
          have hstT := hst.ext (xT.trans hT2)
          simp -zeta only [List.getElem?_cons_zero, List.getElem?_cons_succ, LdV_some, dec_slice, raT'.cell]
          refine SlN_ix e7_len (by omega) hstT (by omega) (by rw [Int.toNat_natCast]; exact hyk) fun a' hc => ?_
          have c0 : T'.drew.cell? (a'.add 0) = some (.int .i64 (sw7 y)) := by obtain ⟨y0, y1, y2, y3, y4, y5, y6, ⟨⟩⟩ := y; exact hc 0 _ rfl
          rw [show a'.add 0 = a' from rfl] at c0
          simp -zeta only [LdV_some, dec_int, c0]
          refine SlN_ix e7_len (by omega) hstT (by omega) (by rw [Int.toNat_natCast]; exact hxj) fun a'' hd => ?_
          have d0 : T'.drew.cell? (a''.add 0) = some (.int .i64 (sw7 x)) := by obtain ⟨x0, x1, x2, x3, x4, x5, x6, ⟨⟩⟩ := x; exact hd 0 _ rfl
          rw [show a''.add 0 = a'' from rfl] at d0
          simp -zeta only [LdV_some, dec_int, d0]
          rw [ibeq]
          by_cases he : sw7 y = sw7 x
          · rw [if_pos he] at hcnt
            rw [decide_eq_true he, cond_true, wrap_i64 (by omega) (by omega)]
            exact hJ101 _ _ hT2 (by rw [hcnt, hn]; omega) ho
          · rw [if_neg he] at hcnt
            rw [decide_eq_false he, cond_false]
            exact hJ101 _ _ hT2 (by rw [hcnt, hn]; omega) ho
        · rw [cond_true]
          exact ⟨⟨fun _ h => (hb.1 rfl) ((h.sts j3 _ hxj).one y (mem_take_lt hyk (by omega))), fun _ => by trivial⟩, xT'⟩
      clear_value J104
      have hstT := hst.ext xT
      simp -zeta only [List.getElem?_cons_zero, List.getElem?_cons_succ, LdV_some, dec_slice, raT.cell]
      refine SlN_ix e7_len (by omega) hstT (by omega) (by rw [Int.toNat_natCast]; exact hyk) fun a' hc => ?_
      obtain ⟨y0, y1, y2, y3, y4, y5, y6, ⟨⟩⟩ := y
      have c0 : T.drew.cell? (a'.add 0) = some (.int .i64 y0) := hc 0 _ rfl; have c1 : T.drew.cell? (a'.add 1) = some (.int .i64 y1) := hc 1 _ rfl; have c2 : T.drew.cell? (a'.add 2) = some (.int .i64 y2) := hc 2 _ rfl; have c3 : T.drew.cell? (a'.add 3) = some (.int .i64 y3) := hc 3 _ rfl; have c4 : T.drew.cell? (a'.add 4) = some (.int .i64 y4) := hc 4 _ rfl; have c5 : T.drew.cell? (a'.add 5) = some (.int .i64 y5) := hc 5 _ rfl; have c6 : T.drew.cell? (a'.add 6) = some (.int .i64 y6) := hc 6 _ rfl
      simp -zeta only [LdV_some, dec_int, c0, c1, c2, c3]
      refine SlN_ix e7_len (by omega) hstT (by omega) (by rw [Int.toNat_natCast]; exact hxj) fun a'' hd => ?_
      obtain ⟨x0, x1, x2, x3, x4, x5, x6, ⟨⟩⟩ := x
      have d0 : T.drew.cell? (a''.add 0) = some (.int .i64 x0) := hd 0 _ rfl; have d1 : T.drew.cell? (a''.add 1) = some (.int .i64 x1) := hd 1 _ rfl; have d2 : T.drew.cell? (a''.add 2) = some (.int .i64 x2) := hd 2 _ rfl; have d3 : T.drew.cell? (a''.add 3) = some (.int .i64 x3) := hd 3 _ rfl; have d4 : T.drew.cell? (a''.add 4) = some (.int .i64 x4) := hd 4 _ rfl; have d5 : T.drew.cell? (a''.add 5) = some (.int .i64 x5) := hd 5 _ rfl; have d6 : T.drew.cell? (a''.add 6) = some (.int .i64 x6) := hd 6 _ rfl
      simp -zeta only [LdV_some, dec_int, d0, d1, d2, d3]
      rw [eqb4 _ rfl]
      by_cases he : ((y0, y1, y2, y3, ()) : T4) = (x0, x1, x2, x3, ())
      · rw [decide_eq_true he, cond_true]
        exact hJ104 _ _ (Ext.refl _) ⟨fun _ h => h.1 he, fun _ => rfl⟩
      rw [decide_eq_false he, cond_false]
      try simp -zeta only [StN_nil, Option.isNone_some, Option.isNone_none, cond_false, cond_true, ex_some, Ld_eq, List.getElem?_cons_zero, List.getElem?_cons_succ, LdV_some, dec_slice, dec_int, dec_bool, dec_ptr, dec_str, dec_map, dec_any, AtIx_some, add_mk, Nat.zero_add, Nat.add_zero, raT.cell]
      refine SlN_ix e7_len (by omega) hstT (by omega) (by rw [Int.toNat_natCast]; exact hyk) fun b' hc => ?_
      have c4 : T.drew.cell? ((b'.add 4).add 0) = some (.int .i64 y4) := hc 4 _ rfl
      have c5 : T.drew.cell? ((b'.add 4).add 1) = some (.int .i64 y5) := hc 5 _ rfl
      have c6 : T.drew.cell? ((b'.add 4).add 2) = some (.int .i64 y6) := hc 6 _ rfl
      simp -zeta only [LdV_some, dec_int, c4, c5, c6]
      refine SlN_ix e7_len (by omega) hstT (by omega) (by rw [Int.toNat_natCast]; exact hxj) fun b'' hd => ?_
      have d4 : T.drew.cell? ((b''.add 4).add 0) = some (.int .i64 x4) := hd 4 _ rfl
      have d5 : T.drew.cell? ((b''.add 4).add 1) = some (.int .i64 x5) := hd 5 _ rfl
      have d6 : T.drew.cell? ((b''.add 4).add 2) = some (.int .i64 x6) := hd 6 _ rfl
      simp -zeta only [LdV_some, dec_int, d4, d5, d6]
      rw [eqb3 _ rfl]
      refine hJ104 _ _ (Ext.refl _) ?_
      by_cases ho : ((y4, y5, y6, ()) : T3) = (x4, x5, x6, ())
      · rw [decide_eq_true ho]
        exact ⟨fun _ h => h.2 ho, fun _ => rfl⟩
      · rw [decide_eq_false ho]
        exact ⟨fun h => (by cases h), fun h => absurd ⟨he, ho⟩ h⟩
    · have hkj : k = j3 := by omega
      subst hkj
      have raT := raU.ext ht
      rw [decide_eq_false hlt4, cond_false]
      simp -zeta only [List.getElem?_cons_zero, List.getElem?_cons_succ, LdV_some, dec_int, raT.cell]
      by_cases hq : n > n20
      · rw [decide_eq_true hq, cond_true]
        exact ⟨⟨fun _ h => by have := (h.sts _ _ hxj).few; omega, fun _ => by trivial⟩, xU.trans ht⟩
      · rw [decide_eq_false hq, cond_false, wrap_i64 (by omega) (by omega)]
        exact hnext _ _ ⟨k + 1, by omega, by simp, hu.trans ht, lt_snoc hxj hall3 ⟨hone, by omega⟩⟩ (by simp only; omega)
  rw [decide_eq_false hlt3, cond_false]
  have hall3 := lt_all (by omega) hall3
  exact ⟨⟨fun h => (by cases h), fun h => absurd ⟨hall, hall2, hall3⟩ h⟩, xU⟩

end Go.Proofs

/- Settings: both answers are one. -/
namespace Go.Proofs
open Gp
set_option maxRecDepth 100000

theorem nums_iff {ls lp lt n18 n19 n20 n21 n22 n23 n24 n25 n26 n27 n28 n29 n30 n31 n32 n33 n34 : Int} (h0 : 0 ≤ lt) :
    ((∀ b ∈ bnds ls lp lt n18 n19 n20 n21 n22 n23 n24 n25 n26 n27 n29 n30 n31 n32 n33 n34, okB b) ∧ mssP n28) ↔
      (numsP n18 n19 n20 n21 n22 n23 n24 n25 n26 n27 n28 n29 n30 n31 n32 n33 n34 ∧ (1 ≤ ls ∧ ls ≤ 64) ∧ (1 ≤ lp ∧ lp ≤ 16) ∧ lt ≤ 64 ∧ lt ≤ n21) := by
  unfold bnds
  simp only [List.forall_mem_cons, okB]
  constructor
  · rintro ⟨⟨a1, a2, a3, a4, a5, a6, a7, a8, a9, a10, a11, a12, a13, a14, a15, a16, a17, a18, a19, _⟩, m⟩
    refine ⟨⟨⟨a6, a7, a8, a9, a10⟩, ⟨a11, a12, a13, m, a14⟩, ⟨a15, a16, a17, a18, a19⟩, ⟨a4, a5⟩⟩, a1, a2, ?_⟩
    have h3 := a3.2
    by_cases h : n21 < 64
    · rw [if_pos h] at h3; omega
    · rw [if_neg h] at h3; omega
  · rintro ⟨⟨⟨a6, a7, a8, a9, a10⟩, ⟨a11, a12, a13, m, a14⟩, ⟨a15, a16, a17, a18, a19⟩, ⟨a4, a5⟩⟩, a1, a2, h1, h2⟩
    refine ⟨⟨a1, a2, ⟨h0, ?_⟩, a4, a5, a6, a7, a8, a9, a10, a11, a12, a13, a14, a15, a16, a17, a18, a19, by simp⟩, m⟩
    by_cases h : n21 < 64
    · rw [if_pos h]; omega
    · rw [if_neg h]; omega

theorem parts_iff {p : T16} {n : Nat} {sl : List T16} {pl : List Int} {tl : List T7} :
    partsB p n sl pl tl = true ↔ (hostS p = true ∧ (∀ x ∈ sl, hostS x = true) ∧ (∀ x ∈ pl, hostF x) ∧ (∀ x ∈ tl, toldP n pl x)) := by
  unfold partsB
  simp only [Bool.and_eq_true, Bool.not_eq_true', List.any_eq_false, Bool.not_eq_false, decide_eq_true_eq]

theorem okP_iff {p : T16} {ls lp lt n18 n19 n20 n21 n22 n23 n24 n25 n26 n27 n28 n29 n30 n31 n32 n33 n34 : Int} {n : Nat} {sl : List T16} {pl : List Int} {tl : List T7} (h0 : 0 ≤ lt) :
    OkP p ls lp lt n18 n19 n20 n21 n22 n23 n24 n25 n26 n27 n28 n29 n30 n31 n32 n33 n34 n sl pl tl ↔
      (numsP n18 n19 n20 n21 n22 n23 n24 n25 n26 n27 n28 n29 n30 n31 n32 n33 n34 ∧ listsP p ls lp lt n21 n sl pl tl) := by
  constructor
  · rintro ⟨h1, h2, h3⟩
    obtain ⟨h4, h5, h6, h7, h8⟩ := (nums_iff h0).1 ⟨h1, h2⟩
    obtain ⟨g1, g2, g3, g4⟩ := parts_iff.1 h3
    exact ⟨h4, g1, h5, h6, h7, h8, g2, g3, g4⟩
  · rintro ⟨h4, g1, h5, h6, h7, h8, g2, g3, g4⟩
    obtain ⟨h1, h2⟩ := (nums_iff h0).2 ⟨h4, h5, h6, h7, h8⟩
    exact ⟨h1, h2, parts_iff.2 ⟨g1, g2, g3, g4⟩⟩

theorem docFine_iff {p : T16} {sl : List T16} {pl : List Int} {tl : List T7} {n : Nat} {q : Int} (hq : 1 ≤ q) (hr : ∀ x ∈ tl, 0 ≤ sw7 x ∧ sw7 x < (n : Int)) :
    docFine p sl pl tl q ↔ fineP p sl pl tl n q := by
  unfold fineP
  rw [Gp.Cfg.nodup_snoc]
  constructor
  · rintro ⟨h1, h2, h3⟩
    obtain ⟨g1, g2, g3⟩ := (Gp.Cfg.fine_iff (fi := inner7) (fo := outer7) sw7 hq hr).1 h3
    refine ⟨⟨Gp.Cfg.nodup_take.2 fun i x hx => (h1 i x hx).1, fun hm => ?_⟩, Gp.Cfg.nodup_take.2 h2, g1, g2, g3⟩
    obtain ⟨i, hi, he⟩ := List.mem_iff_getElem.1 hm
    exact (h1 i p (by rw [List.getElem?_eq_getElem hi, he])).2 rfl
  · rintro ⟨⟨h1, h1'⟩, h2, g1, g2, g3⟩
    refine ⟨fun i x hx => ⟨Gp.Cfg.nodup_take.1 h1 i x hx, fun e => h1' (e ▸ List.mem_of_getElem? hx)⟩, Gp.Cfg.nodup_take.1 h2, (Gp.Cfg.fine_iff sw7 hq hr).2 ⟨g1, g2, g3⟩⟩

/-- What is wrong with settings. -/
def chk (p : T16) (ls lp lt n18 n19 n20 n21 n22 n23 n24 n25 n26 n27 n28 n29 n30 n31 n32 n33 n34 : Int) (n : Nat) (sl : List T16) (pl : List Int) (tl : List T7) (r : Int) : Prop :=
  (¬ OkP p ls lp lt n18 n19 n20 n21 n22 n23 n24 n25 n26 n27 n28 n29 n30 n31 n32 n33 n34 n sl pl tl ∧ r = 1) ∨
      (OkP p ls lp lt n18 n19 n20 n21 n22 n23 n24 n25 n26 n27 n28 n29 n30 n31 n32 n33 n34 n sl pl tl ∧ ((¬ fineP p sl pl tl n n20 ∧ r = 9) ∨ (fineP p sl pl tl n n20 ∧ r = 0)))

theorem chk_one {p : T16} {ls lp lt n18 n19 n20 n21 n22 n23 n24 n25 n26 n27 n28 n29 n30 n31 n32 n33 n34 : Int} {n : Nat} {sl : List T16} {pl : List Int} {tl : List T7} {r r' : Int}
    (h : chk p ls lp lt n18 n19 n20 n21 n22 n23 n24 n25 n26 n27 n28 n29 n30 n31 n32 n33 n34 n sl pl tl r) (h' : chk p ls lp lt n18 n19 n20 n21 n22 n23 n24 n25 n26 n27 n28 n29 n30 n31 n32 n33 n34 n sl pl tl r') : r = r' := by
  rcases h with ⟨h1, rfl⟩ | ⟨h1, ⟨h2, rfl⟩ | ⟨h2, rfl⟩⟩ <;> rcases h' with ⟨g1, rfl⟩ | ⟨g1, ⟨g2, rfl⟩ | ⟨g2, rfl⟩⟩ <;> first | rfl | exact absurd g1 h1 | exact absurd h1 g1 | exact absurd h2 g2 | exact absurd g2 h2

theorem refcheck_ok {w : World} {p0 p1 p2 p3 p4 p5 p6 p7 p8 p9 p10 p11 p12 p13 p14 p15 : Int} {sw po : SliceV} {n18 n19 n20 n21 n22 n23 n24 n25 n26 n27 n28 n29 n30 n31 n32 n33 n34 : Int} {st : SliceV} {sl : List T16} {pl : List Int} {tl : List T7} (hsw : SlN 16 e16 w sw sl) (hpo : SlN 1 eI w po pl) (hst : SlN 7 e7 w st tl) (lsw : sw.len ≤ 2 ^ 40) (lpo : po.len ≤ 2 ^ 40) (lst : st.len ≤ 2 ^ 40) :
    c_ref20_Check p0 p1 p2 p3 p4 p5 p6 p7 p8 p9 p10 p11 p12 p13 p14 p15 sw po n18 n19 n20 n21 n22 n23 n24 n25 n26 n27 n28 n29 n30 n31 n32 n33 n34 st w fun r w' => chk (p0, p1, p2, p3, p4, p5, p6, p7, p8, p9, p10, p11, p12, p13, p14, p15, ()) sw.len po.len st.len n18 n19 n20 n21 n22 n23 n24 n25 n26 n27 n28 n29 n30 n31 n32 n33 n34 sw.len sl pl tl r ∧ Ext w w' := by
  apply ok_ref20_Check
  unfold s_ref20_Check
  refine Al_e fun a w1 ra ea z1 f1 => ?_
  simp -zeta only [Ld_eq, List.getElem?_cons_zero, List.getElem?_cons_succ, LdV_some, dec_slice, dec_int, add_mk, Nat.zero_add, Nat.add_zero, ra.cell]
  intro J4
  have hJ4 : ∀ j5 W, Ext w1 W → (j5 = false ↔ OkP (p0, p1, p2, p3, p4, p5, p6, p7, p8, p9, p10, p11, p12, p13, p14, p15, ()) sw.len po.len st.len n18 n19 n20 n21 n22 n23 n24 n25 n26 n27 n28 n29 n30 n31 n32 n33 n34 sw.len sl pl tl) → J4 j5 W := by
    intro j5 W hx h5
    simp -zeta only [J4]
    have xW := f1.trans hx
    cases j5
    · rw [cond_false]
      have hok := h5.1 rfl
      have hl := (okP_iff (by omega)).1 hok
      have hf := docFine_iff (p := (p0, p1, p2, p3, p4, p5, p6, p7, p8, p9, p10, p11, p12, p13, p14, p15, ())) (sl := sl) (pl := pl) (q := n20) hl.1.rooms.1.1 fun x hx => told_sw (hl.2.sts x hx)
      have raW := ra.ext hx
      simp -zeta only [List.getElem?_cons_zero, List.getElem?_cons_succ, LdV_some, dec_slice, dec_int, raW.cell]
      refine cm_ref20_twice (reftwice_ok (hsw.ext xW) (hpo.ext xW) (hst.ext xW) lsw lpo lst) ?_
      rintro r w' ⟨hr, hf'⟩
      rw [hf] at hr
      cases r
      · rw [cond_false]
        refine ⟨.inr ⟨hok, .inr ⟨?_, rfl⟩⟩, xW.trans hf'⟩
        by_cases h : fineP (p0, p1, p2, p3, p4, p5, p6, p7, p8, p9, p10, p11, p12, p13, p14, p15, ()) sl pl tl sw.len n20
        · exact h
        · exact absurd (hr.2 h) (by simp)
      · rw [cond_true]
        exact ⟨.inr ⟨hok, .inl ⟨hr.1 rfl, rfl⟩⟩, xW.trans hf'⟩
    · rw [cond_true]
      exact ⟨.inl ⟨fun h => (by cases h5.2 h), rfl⟩, xW⟩
  clear_value J4
  refine cm_ref20_numbers (numbers_ok _) ?_
  rintro r w2 ⟨hr, f2⟩
  cases r
  · rw [Bool.not_false, cond_true]
    exact hJ4 _ _ f2 ⟨fun h => (by cases h), fun h => (by cases hr.2 ((okP_iff (by omega)).1 h).1)⟩
  rw [Bool.not_true, cond_false]
  have ra2 := ra.ext f2
  have x2 := f1.trans f2
  simp -zeta only [List.getElem?_cons_zero, List.getElem?_cons_succ, LdV_some, dec_slice, dec_int, ra2.cell]
  refine cm_ref20_lists (lists_ok (hsw.ext x2) (hpo.ext x2) (hst.ext x2) lsw lpo lst) ?_
  rintro r w3 ⟨hr3, f3⟩
  refine hJ4 _ _ (f2.trans f3) ?_
  rw [okP_iff (by omega), ← hr, ← hr3]
  cases r <;> simp

end Go.Proofs
