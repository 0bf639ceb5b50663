import Derived.Test.YtfpoefdigpfohaaGreatDoorW9
import Derived.Lib.Bytealg
section
namespace Go.Proofs
open Gp
set_option maxRecDepth 100000
theorem ES (x : lg) : ∀ v ∈ e16 x, bK v = true := by
  obtain ⟨x0, x1, x2, x3, x4, x5, x6, x7, x8, x9, x10, x11, x12, x13, x14, x15, ⟨⟩⟩ := x
  intro v hv
  have : (e16 (x0, x1, x2, x3, x4, x5, x6, x7, x8, x9, x10, x11, x12, x13, x14, x15, ())).all bK = true := rfl
  exact List.all_eq_true.1 this v hv
theorem Kt {w : World} {s : ah} {xs : List lg} (hs : dQ 16 e16 w s xs) (hl : s.len <= 2 ^ 40) :
    aT s w fun r w' => Ext w w' ∧ jB 16 e16 w' r xs ∧ ∀ b, ah.at r b -> w.heap.size <= b := by
  apply kX
  have hlen := hs.len
  cases ha : s.a with
  | none =>
    have hc := hs.cells
    rw [ha] at hc
    have h0 : xs.flatMap e16 = [] := hc
    have hfl := jy e16 16 l7 xs
    rw [h0] at hfl
    have : xs = [] := by
      cases xs with
      | nil => rfl
      | cons _ _ => simp only [List.length_cons, List.length_nil] at hfl; omega
    subst this
    simp only [Option.isNone_none, cond_true]
    exact ⟨Ext.refl _, jB.nil, fun b ⟨o, hb⟩ => by cases hb⟩
  | some a =>
    simp only [Option.isNone_some, cond_false]
    refine aU fun t w1 rt et zt f1 => ?_
    have hb : jB 16 e16 w1 ⟨some ⟨t, 0, none⟩, 0, 0⟩ ([] : List lg) := jB.row (xs := []) rt
    refine vO l7 hb (hs.ext f1) rfl (by omega) ES (by simp only [List.length_nil]; omega) (by simp only [List.length_nil]; omega) fun s' w' h1 h2 h3 => ?_
    refine ⟨f1.new h2 fun b hb ⟨o, he⟩ => by cases he; omega, h1, fun b hb => ?_⟩
    rcases h3 b hb with ⟨o, he⟩ | h
    · cases he; omega
    · omega
def KR (x : T7) : Int := x.1
def cnt (tl : List T7) (k : Nat) : Nat := tl.countP fun y => KR y == (k : Int)
def cnts (n : Nat) (tl : List T7) : List Int := (List.range n).map fun k => (cnt tl k : Int)
theorem qp (n : Nat) (tl : List T7) : (cnts n tl).flatMap eI = (List.range n).map fun k => Value.int .i64 (cnt tl k : Int) := by
  unfold cnts
  generalize List.range n = l
  induction l with
  | nil => rfl
  | cons a l ih => simp only [List.map_cons, List.flatMap_cons, ih]; rfl
theorem SQ {α : Type} {n : Nat} {f : α -> List Value} {w : World} {s : ah} {xs : List α} {a : Addr} (hn : ∀ x, (f x).length = n) (hn0 : 0 < n) (h : dQ n f w s xs) (ha : s.a = some a) (hx : 0 < xs.length) : a.block < w.heap.size := by
  have hc := h.cells
  rw [ha] at hc
  have hfl := jy f n hn xs
  have hp : 0 < xs.length * n := Nat.mul_pos hx hn0
  have h0 := hc.2 0 (by omega)
  rw [List.getElem?_eq_getElem (by omega)] at h0
  exact cell_lt h0
theorem Ol (tl : List T7) (x : T7) (k : Nat) : cnt (tl ++ [x]) k = cnt tl k + if KR x = (k : Int) then 1 else 0 := by
  unfold cnt
  rw [List.countP_append, List.countP_singleton]
  congr 1
  by_cases h : KR x = (k : Int) <;> simp [h]
theorem Om {n : Nat} {tl : List T7} {x : T7} (h0 : 0 <= KR x) :
    ((cnts n tl).flatMap eI).set (KR x).toNat (.int .i64 ((cnt tl (KR x).toNat : Int) + 1)) = (cnts n (tl ++ [x])).flatMap eI := by
  rw [qp, qp]
  refine List.ext_getElem? fun i => ?_
  rw [List.getElem?_set]
  by_cases hi : i < n
  · rw [List.getElem?_map, List.getElem?_map, List.getElem?_range hi]
    simp only [Option.map_some, List.length_map, List.length_range]
    rw [Ol]
    by_cases he : (KR x).toNat = i
    · subst he
      rw [if_pos rfl, if_pos hi, if_pos (by omega)]
      rfl
    · rw [if_neg he, if_neg (by omega)]; rfl
  · rw [List.getElem?_eq_none (by simp; omega), List.getElem?_eq_none (by simp; omega)]
    by_cases he : (KR x).toNat = i
    · rw [if_pos he, if_neg (by simp; omega)]
    · rw [if_neg he]
def C9 (p : lg) (sl : List lg) (pl : List Int) (tl : List T7) (n : Nat) (q : Int) : Prop :=
  (sl ++ [p]).Nodup ∧ pl.Nodup ∧ (tl.map vM).Nodup ∧ (tl.map CP).Nodup ∧ ∀ k : Nat, k < n -> (cnt tl k : Int) <= q
theorem NH {n : Nat} {tl : List T7} {q : Int} : ((cnts n tl).any fun x => decide (x > q)) = true ↔ ¬ ∀ k : Nat, k < n -> (cnt tl k : Int) <= q := by
  rw [List.any_eq_true]
  constructor
  · rintro ⟨x, hx, hq⟩ h
    obtain ⟨k, hk, rfl⟩ := List.mem_map.1 hx
    have := h k (List.mem_range.1 hk)
    simp only [decide_eq_true_eq] at hq
    omega
  · intro h
    by_cases hk : ∃ k : Nat, k < n ∧ q < (cnt tl k : Int)
    · obtain ⟨k, h1, h2⟩ := hk
      exact ⟨_, List.mem_map.2 ⟨k, List.mem_range.2 h1, rfl⟩, by simpa using h2⟩
    · exact absurd (fun k hk' => by
        by_cases hh : (cnt tl k : Int) <= q
        · exact hh
        · exact absurd ⟨k, hk', by omega⟩ hk) h
theorem Jb {w : World} {p0 p1 p2 p3 p4 p5 p6 p7 p8 p9 p10 p11 p12 p13 p14 p15 : Int} {sw po : ah} {n18 n19 n20 n21 n22 n23 n24 n25 n26 n27 n28 n29 n30 n31 n32 n33 n34 : Int} {st : ah} {sl : List lg} {pl : List Int} {tl : List T7} (hsw : dQ 16 e16 w sw sl) (hpo : dQ 1 eI w po pl) (hst : dQ 7 e7 w st tl) (lsw : sw.len <= 2 ^ 40) (lpo : po.len <= 2 ^ 40) (lst : st.len <= 2 ^ 40)
    (hr : ∀ x ∈ tl, 0 <= KR x ∧ KR x < (sw.len : Int)) :
    fP p0 p1 p2 p3 p4 p5 p6 p7 p8 p9 p10 p11 p12 p13 p14 p15 sw po n18 n19 n20 n21 n22 n23 n24 n25 n26 n27 n28 n29 n30 n31 n32 n33 n34 st w fun r w' => (r = true ↔ ¬ C9 (p0, p1, p2, p3, p4, p5, p6, p7, p8, p9, p10, p11, p12, p13, p14, p15, ()) sl pl tl sw.len n20) ∧ Ext w w' := by
  apply xP
  have lens := hsw.len
  refine aU fun a w1 ra ea z1 f1 => ?_
  simp -zeta only [sx, ra.drew.cell]
  intro J4
  have hJ4 : ∀ s W, Ext w1 W -> jB 16 e16 W s (sl ++ [(p0, p1, p2, p3, p4, p5, p6, p7, p8, p9, p10, p11, p12, p13, p14, p15, ())]) -> J4 s W := by
    intro s W hx hb
    have ra := ra.ext hx
    have hpo := (hpo.ext f1).ext hx
    have hst := (hst.ext f1).ext hx
    have xx := f1.trans hx
    simp -zeta only [J4]
    intro J7
    have hJ7 : ∀ c W', Ext W W' -> (c = true ↔ ¬ ((sl ++ [(p0, p1, p2, p3, p4, p5, p6, p7, p8, p9, p10, p11, p12, p13, p14, p15, ())]).Nodup ∧ pl.Nodup ∧ (tl.map vM).Nodup ∧ (tl.map CP).Nodup)) -> J7 c W' := by
      intro c W' hx' hc
      simp only [J7]
      cases c
      · have ra := ra.ext hx'
        have hst := hst.ext hx'
        have hf : (sl ++ [(p0, p1, p2, p3, p4, p5, p6, p7, p8, p9, p10, p11, p12, p13, p14, p15, ())]).Nodup ∧ pl.Nodup ∧ (tl.map vM).Nodup ∧ (tl.map CP).Nodup := by
          by_cases h : (sl ++ [(p0, p1, p2, p3, p4, p5, p6, p7, p8, p9, p10, p11, p12, p13, p14, p15, ())]).Nodup ∧ pl.Nodup ∧ (tl.map vM).Nodup ∧ (tl.map CP).Nodup
          · exact h
          · exact absurd (hc.2 h) (by simp)
        simp only [cond_false, cond_false, List.getElem?_cons_zero, List.getElem?_cons_succ, aF, bY, ra.cell]
        refine Hr (by omega) (by omega) (by omega) (by omega) fun m w2 rm em z2 f2 => ?_
        have f2 : Ext W' w2 := f2
        have la1 := ra.lt
        have hst1 := hst
        have ra := ra.ext f2
        have hst := hst.ext f2
        have hlt := hst.len
        simp only [sx, Int.toNat_natCast, ra.cell]
        have rm0 : Row w2 m ((cnts sw.len (tl.take 0)).flatMap eI) := by
          have e : (cnts sw.len (tl.take 0)).flatMap eI = aB [Value.int .i64 0] ((sw.len : Int)).toNat := by
            rw [qp, Int.toNat_natCast]
            generalize sw.len = n
            rw [List.take_zero]
            have : ∀ l : List Nat, (l.map fun k => Value.int .i64 ((cnt [] k : Nat) : Int)) = aB [Value.int .i64 0] l.length := by
              intro l
              induction l with
              | nil => rfl
              | cons a l ih => simp only [List.map_cons, List.length_cons, aB, ih]; rfl
            rw [this, List.length_range]
          rw [e]; exact rm
        refine bD (fun st' V => ∃ j : Nat, j <= tl.length ∧ st'.1 = (j : Int) ∧ Row V m ((cnts sw.len (tl.take j)).flatMap eI) ∧ bH w2 V (· = m)) (fun st' _ => (tl.length - st'.1).toNat) ⟨0, by omega, rfl, rm0, bH.refl _ _⟩ ?_
        rintro ⟨i, ⟨⟩⟩ V ⟨j, hj, hi, rmV, hfV⟩ next hnext
        simp only at hi
        subst hi
        have lra := ra.lt
        have zW := hx'.size
        have raV := ra.fr hfV (by omega)
        have hstV := hst.fr hfV (fun a' ha' hl' => by
          have := SQ yR (by omega) hst1 ha' hl'
          omega)
        by_cases hlt2 : (j : Int) < (st.len : Int)
        · simp only [hlt2, decide_true, cond_true]
          have hx := List.getElem?_eq_getElem (show j < tl.length by omega)
          have hmem := List.getElem_mem (show j < tl.length by omega)
          generalize tl[j] = x at hx hmem
          have htk := Gp.Cfg.take_snoc hx
          have hrx := hr x hmem
          have hset := Om (n := sw.len) (tl := tl.take j) (x := x) hrx.1
          rw [<- htk] at hset
          have hcl : cnt (tl.take j) (KR x).toNat <= tl.length := Nat.le_trans (List.countP_le_length) (by simp; omega)
          refine fH yR (by omega) hstV (by omega) (by rw [Int.toNat_natCast]; exact hx) fun a' hc => ?_
          obtain ⟨x0, x1, x2, x3, x4, x5, x6, ⟨⟩⟩ := x
          have c0 : V.cell? (a'.add 0) = some (.int .i64 x0) := hc 0 _ rfl; have c1 : V.cell? (a'.add 1) = some (.int .i64 x1) := hc 1 _ rfl; have c2 : V.cell? (a'.add 2) = some (.int .i64 x2) := hc 2 _ rfl; have c3 : V.cell? (a'.add 3) = some (.int .i64 x3) := hc 3 _ rfl; have c4 : V.cell? (a'.add 4) = some (.int .i64 x4) := hc 4 _ rfl; have c5 : V.cell? (a'.add 5) = some (.int .i64 x5) := hc 5 _ rfl; have c6 : V.cell? (a'.add 6) = some (.int .i64 x6) := hc 6 _ rfl
          simp only [aF, bn, c0, c1, c2, c3, c4, c5, c6]
          refine ru rfl rfl fun t w3 rt et zt f3 => ?_
          have rm3 := rmV.ext f3
          have hq0 : 0 <= x0 ∧ x0 < (sw.len : Int) := hrx
          have hg : ((cnts sw.len (tl.take j)).flatMap eI)[x0.toNat]? = some (.int .i64 (cnt (tl.take j) x0.toNat : Int)) := by
            rw [qp, List.getElem?_map, List.getElem?_range (by omega)]; rfl
          have hcl : cnt (tl.take j) x0.toNat <= tl.length := hcl
          have hset : ((cnts sw.len (tl.take j)).flatMap eI).set x0.toNat (.int .i64 ((cnt (tl.take j) x0.toNat : Int) + 1)) = (cnts sw.len (tl.take (j + 1))).flatMap eI := hset
          simp only [List.getElem?_cons_zero, aF, bn, rt.cell, Nat.mul_one, rm3.cell, hg]
          refine ⟨hq0.1, hq0.2, hq0.1, hq0.2, ?_⟩
          rw [wrap_i64 (by omega) (by omega), wrap_i64 (by omega) (by omega)]
          refine dF rm3 rfl (by rw [qp]; simp; omega) fun w4 rm4 f4 z4 => ?_
          rw [hset] at rm4
          exact hnext _ _ ⟨j + 1, by omega, by simp, rm4, (hfV.ext f3).trans (f4 (· = m) rfl) fun _ _ e => e⟩ (by simp only; omega)
        · simp only [hlt2, decide_false, cond_false]
          rw [List.take_of_length_le (by omega)] at rmV
          have hsm : dQ 1 eI V ⟨some ⟨m, 0, none⟩, sw.len, sw.len⟩ (cnts sw.len tl) := by
            have := (jB.row (xs := cnts sw.len tl) (f := eI) (n := 1) rmV).sl yw (by omega)
            simpa [cnts] using this
          refine fQ (Bj hsm (by simp only; omega) P9 fun W hW => raV.ext hW) ?_
          rintro r w5 ⟨rfl, f5⟩
          have e5 : Ext W' V := f2.new hfV fun b hb e => by omega
          refine ⟨?_, ((xx.trans hx').trans e5).trans f5⟩
          rw [NH]
          exact ⟨fun h hh => h hh.2.2.2.2, fun h hh => h ⟨hf.1, hf.2.1, hf.2.2.1, hf.2.2.2, hh⟩⟩
      · simp only [cond_true]
        exact ⟨⟨fun _ h => hc.1 rfl ⟨h.1, h.2.1, h.2.2.1, h.2.2.2.1⟩, fun _ => by trivial⟩, xx.trans hx'⟩
    refine lD (sS (hb.sl l7 (by omega)) ?_ rfl Ir) ?_
    · rw [hb.len]; simp only [List.length_append, List.length_cons, List.length_nil]; omega
    rintro v w2 ⟨f2, C, hi, hC⟩
    rw [List.map_id'] at hi
    refine qI (PD hi hC) ?_
    rintro r w3 ⟨h1, f3⟩
    cases r
    · have f3 := f2.trans f3
      have n1 : (sl ++ [(p0, p1, p2, p3, p4, p5, p6, p7, p8, p9, p10, p11, p12, p13, p14, p15, ())]).Nodup := by
        by_cases h : (sl ++ [(p0, p1, p2, p3, p4, p5, p6, p7, p8, p9, p10, p11, p12, p13, p14, p15, ())]).Nodup
        · exact h
        · exact absurd (h1.2 h) (by simp)
      have ra := ra.ext f3
      have hpo := hpo.ext f3
      have hst := hst.ext f3
      simp -zeta only [cond_false, cond_false, List.getElem?_cons_zero, List.getElem?_cons_succ, aF, bY, ra.cell]
      refine qQ (F6 hpo (by simp only; omega) rfl IU) ?_
      rintro v w4 ⟨f4, C, hi, hC⟩
      rw [List.map_id'] at hi
      refine uK (RN hi hC) ?_
      rintro r w5 ⟨h2, f5⟩
      have f5 := f4.trans f5
      cases r
      · have n2 : pl.Nodup := by
          by_cases h : pl.Nodup
          · exact h
          · exact absurd (h2.2 h) (by simp)
        have ra := ra.ext f5
        have hst := hst.ext f5
        simp -zeta only [cond_false, cond_false, List.getElem?_cons_zero, List.getElem?_cons_succ, aF, bY, ra.cell]
        refine jl (oI hst (by simp only; omega) rfl Nl) ?_
        rintro v w6 ⟨f6, C, hi, hC⟩
        refine oP (Sm hi hC) ?_
        rintro r w7 ⟨h3, f7⟩
        have f7 := f6.trans f7
        cases r
        · have n3 : (tl.map vM).Nodup := by
            by_cases h : (tl.map vM).Nodup
            · exact h
            · exact absurd (h3.2 h) (by simp)
          have ra := ra.ext f7
          have hst := hst.ext f7
          simp -zeta only [cond_false, cond_false, List.getElem?_cons_zero, List.getElem?_cons_succ, aF, bY, ra.cell]
          refine jC (oK hst (by simp only; omega) rfl Ov) ?_
          rintro v w8 ⟨f8, C, hi, hC⟩
          refine oL (RS hi hC) ?_
          rintro r w9 ⟨h4, f9⟩
          refine hJ7 _ _ ((((f3.trans f5).trans f7).trans f8).trans f9) (h4.trans ⟨fun h hh => h hh.2.2.2, fun h hh => h ⟨n1, n2, n3, hh⟩⟩)
        · simp -zeta only [cond_true]
          exact hJ7 _ _ ((f3.trans f5).trans f7) ⟨fun _ h => h3.1 rfl h.2.2.1, fun _ => rfl⟩
      · simp -zeta only [cond_true]
        exact hJ7 _ _ (f3.trans f5) ⟨fun _ h => h2.1 rfl h.2.1, fun _ => rfl⟩
    · simp -zeta only [cond_true]
      exact hJ7 _ _ (f2.trans f3) ⟨fun _ h => h1.1 rfl h.1, fun _ => rfl⟩
  have hd := Ext.drew w1
  refine ⟨?_, ?_⟩
  · refine fE (Kt ((hsw.ext f1).ext hd) lsw) ?_
    rintro r w2 ⟨f2, hb, hb2⟩
    have e2 := hd.trans f2
    have ra2 := ra.ext e2
    simp only [sx, tq, xB, ra2.cell, true_and]
    refine aU fun t w3 rt et zt f3 => ?_
    have ra3 := ra2.ext f3
    simp only [sx, tq, xB, ra3.cell, true_and]
    have ht : dQ 16 e16 w3 ⟨some ⟨t, 0, none⟩, 1, 1⟩ [((p0, p1, p2, p3, p4, p5, p6, p7, p8, p9, p10, p11, p12, p13, p14, p15, ()) : lg)] := (jB.row (xs := [((p0, p1, p2, p3, p4, p5, p6, p7, p8, p9, p10, p11, p12, p13, p14, p15, ()) : lg)]) (f := e16) (n := 16) rt).sl l7 (by omega)
    refine vO l7 (hb.ext f3) ht rfl (by omega) ES (by simp only [List.length_cons, List.length_nil]; omega) (by simp only [List.length_cons, List.length_nil]; omega) fun s' w' h1 h2 h3 => ?_
    have hz : w1.heap.size <= w1.drew.heap.size := hd.size
    exact hJ4 _ _ (((e2.trans f3).fr h2).new fun b hb' hs => by have := hb2 b hs; omega) h1
  · refine aU fun t w2 rt et zt f2 => ?_
    have e2 := hd.trans f2
    have ra2 := ra.ext e2
    simp only [sx, tq, xB, ra2.cell, true_and]
    refine fE (Kt ((hsw.ext f1).ext e2) lsw) ?_
    rintro r w3 ⟨f3, hb, hb2⟩
    have e3 := e2.trans f3
    have ra3 := ra2.ext f3
    simp only [sx, tq, xB, ra3.cell, true_and]
    have ht : dQ 16 e16 w3 ⟨some ⟨t, 0, none⟩, 1, 1⟩ [((p0, p1, p2, p3, p4, p5, p6, p7, p8, p9, p10, p11, p12, p13, p14, p15, ()) : lg)] := ((jB.row (xs := [((p0, p1, p2, p3, p4, p5, p6, p7, p8, p9, p10, p11, p12, p13, p14, p15, ()) : lg)]) (f := e16) (n := 16) rt).sl l7 (by omega)).ext f3
    refine vO l7 hb ht rfl (by omega) ES (by simp only [List.length_cons, List.length_nil]; omega) (by simp only [List.length_cons, List.length_nil]; omega) fun s' w' h1 h2 h3 => ?_
    have hz : w1.heap.size <= w2.heap.size := e2.size
    exact hJ4 _ _ ((e3.fr h2).new fun b hb' hs => by have := hb2 b hs; omega) h1
end Go.Proofs
namespace Go.Proofs
open Gp
set_option maxRecDepth 100000
def Qw (ls lp lt n18 n19 n20 n21 n22 n23 n24 n25 n26 n27 n29 n30 n31 n32 n33 n34 : Int) : List T3 :=
  [(ls, 1, 64, ()), (lp, 1, 16, ()), (lt, 0, if n21 < 64 then n21 else 64, ()), (n18, 1, 65535, ()), (n19, n18, 65535, ()), (n20, 1, 4096, ()), (n21, 1, 4096, ()), (n22, 1, 4096, ()), (n23, 0, 4096, ()),
    (n24, 0, 67108864, ()), (n25, 1280, 65535, ()), (n26, 1280, 65535, ()), (n27, 1, 255, ()), (n29, 0, 2, ()), (n30, 120, 1048576, ()), (n31, 7440, 1048576, ()), (n32, 240, 1048576, ()), (n33, 60, 1048576, ()), (n34, 1, 1048576, ())]
theorem NQ (x : T3) : (e3 x).length = 3 := rfl
def okB (b : T3) : Prop := b.2.1 <= b.1 ∧ b.1 <= b.2.2.1
instance (b : T3) : Decidable (okB b) := inferInstanceAs (Decidable (_ ∧ _))
theorem MB {p0 p1 p2 p3 p4 p5 p6 p7 p8 p9 p10 p11 p12 p13 p14 p15 : Int} {sw po : ah} {n18 n19 n20 n21 n22 n23 n24 n25 n26 n27 n28 n29 n30 n31 n32 n33 n34 : Int} {st : ah} (w : World) : gQ p0 p1 p2 p3 p4 p5 p6 p7 p8 p9 p10 p11 p12 p13 p14 p15 sw po n18 n19 n20 n21 n22 n23 n24 n25 n26 n27 n28 n29 n30 n31 n32 n33 n34 st w fun r w' => Ext w w' ∧ r.len = 19 ∧ dQ 3 e3 w' r (Qw sw.len po.len st.len n18 n19 n20 n21 n22 n23 n24 n25 n26 n27 n29 n30 n31 n32 n33 n34) := by
  apply yj
  refine aU fun a w1 ra ea z1 f1 => ?_
  simp only [sx, ra.cell]
  refine aU fun b w2 rb eb z2 f2 => ?_
  have hb := jB.row (n := 3) (f := e3) (xs := Qw sw.len po.len st.len n18 n19 n20 n21 n22 n23 n24 n25 n26 n27 n29 n30 n31 n32 n33 n34) (w := w2) (b := b) rb
  exact ⟨f1.trans f2, by trivial, hb.sl NQ (by omega)⟩
structure Uu (p : lg) (ls lp lt n18 n19 n20 n21 n22 n23 n24 n25 n26 n27 n28 n29 n30 n31 n32 n33 n34 : Int) (n : Nat) (sl : List lg) (pl : List Int) (tl : List T7) : Prop where
  nums : ∀ b ∈ Qw ls lp lt n18 n19 n20 n21 n22 n23 n24 n25 n26 n27 n29 n30 n31 n32 n33 n34, okB b
  mss : I4 n28
  parts : rM p n sl pl tl = true
theorem PZ {n : Nat} {pl : List Int} {x : T7} (h : xO n pl x) : 0 <= KR x ∧ KR x < (n : Int) := by
  obtain ⟨q0, q1, q2, q3, q4, q5, q6, ⟨⟩⟩ := x
  have : (0 <= q0 ∧ q0 <= (n : Int) - 1) := h.2.2.2
  show 0 <= q0 ∧ q0 < (n : Int)
  omega
theorem IY {p : lg} {n : Nat} {sl : List lg} {pl : List Int} {tl : List T7} (h : rM p n sl pl tl = true) : ∀ x ∈ tl, xO n pl x := by
  intro x hx
  unfold rM at h
  simp only [Bool.and_eq_true, Bool.not_eq_true', List.any_eq_false] at h
  have := h.2.2.2 x hx
  simpa using this
theorem OW {w : World} {p0 p1 p2 p3 p4 p5 p6 p7 p8 p9 p10 p11 p12 p13 p14 p15 : Int} {sw po : ah} {n18 n19 n20 n21 n22 n23 n24 n25 n26 n27 n28 n29 n30 n31 n32 n33 n34 : Int} {st : ah} {sl : List lg} {pl : List Int} {tl : List T7} (hsw : dQ 16 e16 w sw sl) (hpo : dQ 1 eI w po pl) (hst : dQ 7 e7 w st tl) (lsw : sw.len <= 2 ^ 40) (lpo : po.len <= 2 ^ 40) (lst : st.len <= 2 ^ 40) :
    iJ p0 p1 p2 p3 p4 p5 p6 p7 p8 p9 p10 p11 p12 p13 p14 p15 sw po n18 n19 n20 n21 n22 n23 n24 n25 n26 n27 n28 n29 n30 n31 n32 n33 n34 st w fun r w' => ((¬ Uu (p0, p1, p2, p3, p4, p5, p6, p7, p8, p9, p10, p11, p12, p13, p14, p15, ()) sw.len po.len st.len n18 n19 n20 n21 n22 n23 n24 n25 n26 n27 n28 n29 n30 n31 n32 n33 n34 sw.len sl pl tl ∧ r = 1) ∨
      (Uu (p0, p1, p2, p3, p4, p5, p6, p7, p8, p9, p10, p11, p12, p13, p14, p15, ()) sw.len po.len st.len n18 n19 n20 n21 n22 n23 n24 n25 n26 n27 n28 n29 n30 n31 n32 n33 n34 sw.len sl pl tl ∧ ((¬ C9 (p0, p1, p2, p3, p4, p5, p6, p7, p8, p9, p10, p11, p12, p13, p14, p15, ()) sl pl tl sw.len n20 ∧ r = 9) ∨ (C9 (p0, p1, p2, p3, p4, p5, p6, p7, p8, p9, p10, p11, p12, p13, p14, p15, ()) sl pl tl sw.len n20 ∧ r = 0)))) ∧ Ext w w' := by
  apply zV
  refine aU fun a w1 ra ea z1 f1 => ?_
  simp -zeta only [sx, ra.cell]
  refine yX (MB w1) ?_
  rintro bs w2 ⟨f2, hl19, hbs⟩
  generalize hbe : Qw sw.len po.len st.len n18 n19 n20 n21 n22 n23 n24 n25 n26 n27 n29 n30 n31 n32 n33 n34 = bl at hbs
  have hlb : bs.len = bl.length := hbs.len
  refine bD (fun st' W => ∃ j : Nat, j <= 19 ∧ st'.1 = (j : Int) ∧ Ext w2 W ∧ ∀ b ∈ bl.take j, okB b) (fun st' _ => (19 - st'.1).toNat) ⟨0, by omega, rfl, Ext.refl _, by simp⟩ ?_
  rintro ⟨i, ⟨⟩⟩ W ⟨j, hj, hi, hx, hall⟩ next hnext
  simp only at hi
  subst hi
  have e12 := f1.trans f2
  have raW := (ra.ext f2).ext hx
  by_cases hlt : (j : Int) < (bs.len : Int)
  · simp -zeta only [hlt, decide_true, cond_true]
    have hxj := List.getElem?_eq_getElem (show j < bl.length by omega)
    have hmem := List.getElem_mem (show j < bl.length by omega)
    generalize bl[j] = x at hxj hmem
    have htk := Gp.Cfg.take_snoc hxj
    refine fH NQ (by omega) (hbs.ext hx) (by omega) (by rw [Int.toNat_natCast]; exact hxj) fun a' hc => ?_
    obtain ⟨x0, x1, x2, ⟨⟩⟩ := x
    have c0 : W.cell? (a'.add 0) = some (.int .i64 x0) := hc 0 _ rfl; have c1 : W.cell? (a'.add 1) = some (.int .i64 x1) := hc 1 _ rfl; have c2 : W.cell? (a'.add 2) = some (.int .i64 x2) := hc 2 _ rfl
    simp -zeta only [aF, bn, c0, c1, c2]
    refine ru rfl rfl fun t w3 rt et zt f3 => ?_
    simp -zeta only [sx, rt.cell]
    refine dV (mP _ _ _ _) ?_
    rintro _ w4 ⟨rfl, f4⟩
    by_cases hok : x1 <= x0 ∧ x0 <= x2
    · simp -zeta only [hok, and_self, decide_true, Bool.not_true, cond_false]
      rw [wrap_i64 (by omega) (by omega)]
      refine hnext _ _ ⟨j + 1, by omega, by simp, (hx.trans f3).trans f4, ?_⟩ (by simp only; omega)
      rw [htk]
      intro b hb
      rcases List.mem_append.1 hb with hb | hb
      · exact hall b hb
      · rw [List.mem_singleton.1 hb]; exact hok
    · simp -zeta only [hok, decide_false, Bool.not_false, cond_true]
      exact ⟨.inl ⟨fun h => hok (h.nums (x0, x1, x2, ()) (by rw [hbe]; exact hmem)), by trivial⟩, ((e12.trans hx).trans f3).trans f4⟩
  · simp -zeta only [hlt, decide_false, cond_false]
    rw [List.take_of_length_le (by omega)] at hall
    intro J57
    have hJ : ∀ c W', Ext W W' -> (c = false ↔ I4 n28 ∧ rM (p0, p1, p2, p3, p4, p5, p6, p7, p8, p9, p10, p11, p12, p13, p14, p15, ()) sw.len sl pl tl = true) -> J57 c W' := by
      intro c W' hx' hc
      have raW := raW.ext hx'
      have xx := (e12.trans hx).trans hx'
      simp only [J57]
      cases c
      · obtain ⟨h1, h2⟩ := hc.1 rfl
        have hok : Uu (p0, p1, p2, p3, p4, p5, p6, p7, p8, p9, p10, p11, p12, p13, p14, p15, ()) sw.len po.len st.len n18 n19 n20 n21 n22 n23 n24 n25 n26 n27 n28 n29 n30 n31 n32 n33 n34 sw.len sl pl tl := ⟨by rw [hbe]; exact hall, h1, h2⟩
        simp only [cond_false, cond_false, List.getElem?_cons_zero, List.getElem?_cons_succ, aF, bY, bn, raW.cell]
        refine xg (Jb (hsw.ext xx) (hpo.ext xx) (hst.ext xx) lsw lpo lst fun x hx => PZ (IY h2 x hx)) ?_
        rintro r w5 ⟨h5, f5⟩
        cases r
        · have hfine : C9 (p0, p1, p2, p3, p4, p5, p6, p7, p8, p9, p10, p11, p12, p13, p14, p15, ()) sl pl tl sw.len n20 := by
            by_cases h : C9 (p0, p1, p2, p3, p4, p5, p6, p7, p8, p9, p10, p11, p12, p13, p14, p15, ()) sl pl tl sw.len n20
            · exact h
            · exact absurd (h5.2 h) (by simp)
          exact ⟨.inr ⟨hok, .inr ⟨hfine, by trivial⟩⟩, xx.trans f5⟩
        · exact ⟨.inr ⟨hok, .inl ⟨h5.1 rfl, by trivial⟩⟩, xx.trans f5⟩
      · simp only [cond_true]
        refine ⟨.inl ⟨fun h => ?_, by trivial⟩, xx⟩
        have := hc.2 ⟨h.mss, h.parts⟩
        cases this
    clear_value J57
    simp -zeta only [List.getElem?_cons_zero, List.getElem?_cons_succ, aF, bn, raW.cell]
    refine zZ (Oc _ _) ?_
    rintro _ w3 ⟨rfl, f3⟩
    by_cases hm : I4 n28
    · have raW := raW.ext f3
      rw [decide_eq_true hm, Bool.not_true, cond_false]
      simp -zeta only [List.getElem?_cons_zero, List.getElem?_cons_succ, aF, bY, bn, raW.cell]
      have xx := (e12.trans hx).trans f3
      refine zX (O9 (hsw.ext xx) (hpo.ext xx) (hst.ext xx) (Nat.le_trans lsw (by omega)) (Nat.le_trans lpo (by omega)) (Nat.le_trans lst (by omega))) ?_
      rintro _ w4 ⟨rfl, f4⟩
      exact hJ _ _ (f3.trans f4) (by cases rM (p0, p1, p2, p3, p4, p5, p6, p7, p8, p9, p10, p11, p12, p13, p14, p15, ()) sw.len sl pl tl <;> simp [hm])
    · rw [decide_eq_false hm, Bool.not_false, cond_true]
      exact hJ _ _ f3 (by simp [hm])
end Go.Proofs
namespace Go.Proofs
end Go.Proofs
namespace Go.Proofs
end Go.Proofs
namespace Go.Proofs
end Go.Proofs
namespace Go.Proofs
open Gp
set_option maxRecDepth 100000
def chk (p : lg) (ls lp lt n18 n19 n20 n21 n22 n23 n24 n25 n26 n27 n28 n29 n30 n31 n32 n33 n34 : Int) (n : Nat) (sl : List lg) (pl : List Int) (tl : List T7) (r : Int) : Prop :=
  (¬ Uu p ls lp lt n18 n19 n20 n21 n22 n23 n24 n25 n26 n27 n28 n29 n30 n31 n32 n33 n34 n sl pl tl ∧ r = 1) ∨
      (Uu p ls lp lt n18 n19 n20 n21 n22 n23 n24 n25 n26 n27 n28 n29 n30 n31 n32 n33 n34 n sl pl tl ∧ ((¬ C9 p sl pl tl n n20 ∧ r = 9) ∨ (C9 p sl pl tl n n20 ∧ r = 0)))
theorem PW {p : lg} {ls lp lt n18 n19 n20 n21 n22 n23 n24 n25 n26 n27 n28 n29 n30 n31 n32 n33 n34 : Int} {n : Nat} {sl : List lg} {pl : List Int} {tl : List T7} {r r' : Int}
    (h : chk p ls lp lt n18 n19 n20 n21 n22 n23 n24 n25 n26 n27 n28 n29 n30 n31 n32 n33 n34 n sl pl tl r) (h' : chk p ls lp lt n18 n19 n20 n21 n22 n23 n24 n25 n26 n27 n28 n29 n30 n31 n32 n33 n34 n sl pl tl r') : r = r' := by
  rcases h with ⟨h1, rfl⟩ | ⟨h1, ⟨h2, rfl⟩ | ⟨h2, rfl⟩⟩ <;> rcases h' with ⟨g1, rfl⟩ | ⟨g1, ⟨g2, rfl⟩ | ⟨g2, rfl⟩⟩ <;> first | rfl | exact absurd g1 h1 | exact absurd h1 g1 | exact absurd h2 g2 | exact absurd g2 h2
end Go.Proofs
end
section
namespace Go.Proofs
open Gp
set_option maxRecDepth 100000
abbrev K8 : List Kind := [.int .i64, .int .i64, .int .i64, .int .i64, .int .i64, .int .i64, .int .i64, .bool]
abbrev K5 : List Kind := [.int .i64, .int .i64, .int .i64, .int .i64, .int .i64]
abbrev T8 := Int × Int × Int × Int × Int × Int × Int × Bool × Unit
abbrev T5 := Int × Int × Int × Int × Int × Unit
abbrev e8 (x : T8) : List Value := Aa K8 x
abbrev e5 (x : T5) : List Value := Aa K5 x
theorem vw (x : T8) : (e8 x).length = 8 := rfl
theorem Oq (x : T5) : (e5 x).length = 5 := rfl
def TS {α : Type} (xs : List α) (p : α -> Bool) (r : Int) : Prop := (∃ (j : Nat) (x : α), r = (j : Int) ∧ xs[j]? = some x ∧ p x = true ∧ (xs.take j).any p = false) ∨ (r = -1 ∧ xs.any p = false)
theorem P6 {w : World} {s : ah} {xs : List T8} {v : Value} {p : T8 -> Bool} {C : World -> Prop} (hs : dQ 8 e8 w s xs) (hl : s.len <= 2 ^ 62) (hp : tJ v (fun x : T8 => Value.agg ⟨e8 x⟩) [.one .bool] C fun x => .bool (p x)) (hC : ∀ W, Ext w W -> C W) :
    aK s v w fun r w' => TS xs p r ∧ Ext w w' := by
  apply fV
  refine bD (fun st W => ∃ j : Nat, j <= xs.length ∧ st.1 = (j : Int) ∧ Ext w W ∧ (xs.take j).any p = false) (fun st _ => (s.len - st.1).toNat) ⟨0, by omega, rfl, Ext.refl _, by simp⟩ ?_
  rintro ⟨i, ⟨⟩⟩ W ⟨j, hj, hi, hw, hm⟩ next hnext
  simp only at hi
  subst hi
  have hlen := hs.len
  by_cases hlt : (j : Int) < (s.len : Int)
  · simp only [hlt, decide_true, cond_true]
    have hx := List.getElem?_eq_getElem (show j < xs.length by omega)
    have htk := Gp.Cfg.take_snoc hx
    generalize xs[j] = x at hx htk
    refine fH vw (by omega) (hs.ext hw) (by omega) (by rw [Int.toNat_natCast]; exact hx) fun a hc => ?_
    have hp := hp x
    dsimp only at hp
    by_cases he : p x = true
    · rw [he] at hp
      obtain ⟨x0, x1, x2, x3, x4, x5, x6, x7, ⟨⟩⟩ := x
      have c0 := hc 0 _ rfl; have c1 := hc 1 _ rfl; have c2 := hc 2 _ rfl; have c3 := hc 3 _ rfl; have c4 := hc 4 _ rfl; have c5 := hc 5 _ rfl; have c6 := hc 6 _ rfl; have c7 := hc 7 _ rfl
      simp only [sx, c0, c1, c2, c3, c4, c5, c6, c7]
      refine hp W _ (hC W hw) fun W' hf => ⟨true, rfl, ?_⟩
      simp only [cond_true]
      exact ⟨.inl ⟨j, _, rfl, hx, he, hm⟩, hw.trans hf⟩
    · have he : p x = false := by simpa only [Bool.not_eq_true] using he
      rw [he] at hp
      obtain ⟨x0, x1, x2, x3, x4, x5, x6, x7, ⟨⟩⟩ := x
      have c0 := hc 0 _ rfl; have c1 := hc 1 _ rfl; have c2 := hc 2 _ rfl; have c3 := hc 3 _ rfl; have c4 := hc 4 _ rfl; have c5 := hc 5 _ rfl; have c6 := hc 6 _ rfl; have c7 := hc 7 _ rfl
      simp only [sx, c0, c1, c2, c3, c4, c5, c6, c7]
      refine hp W _ (hC W hw) fun W' hf => ⟨false, rfl, ?_⟩
      simp only [cond_false]
      rw [wrap_i64 (by omega) (by omega)]
      refine hnext _ _ ⟨j + 1, by omega, by simp, hw.trans hf, ?_⟩ (by simp only; omega)
      rw [htk, List.any_append, hm, List.any_cons, he, List.any_nil]; rfl
  · simp only [hlt, decide_false, cond_false]
    rw [List.take_of_length_le (by omega)] at hm
    exact ⟨.inr ⟨by trivial, hm⟩, hw⟩
theorem Jz {w : World} {s : ah} {xs : List T8} {v : Value} {p : T8 -> Bool} {C : World -> Prop} (hs : dQ 8 e8 w s xs) (hl : s.len <= 2 ^ 62) (hp : tJ v (fun x : T8 => Value.agg ⟨e8 x⟩) [.one .bool] C fun x => .bool (p x)) (hC : ∀ W, Ext w W -> C W) :
    aG s v w fun r w' => r = xs.any p ∧ Ext w w' := by
  apply fC
  refine fZ (P6 hs hl hp hC) ?_
  rintro r w' ⟨h, hf⟩
  refine ⟨?_, hf⟩
  rcases h with ⟨j, x, rfl, hx, hp, _⟩ | ⟨rfl, h⟩
  · rw [decide_eq_true (by omega)]; exact (List.any_eq_true.2 ⟨x, List.mem_of_getElem? hx, hp⟩).symm
  · rw [h]; exact decide_eq_false (by omega)
theorem Qb {w : World} {s : ah} {xs : List T5} {v : Value} {p : T5 -> Bool} {C : World -> Prop} (hs : dQ 5 e5 w s xs) (hl : s.len <= 2 ^ 62) (hp : tJ v (fun x : T5 => Value.agg ⟨e5 x⟩) [.one .bool] C fun x => .bool (p x)) (hC : ∀ W, Ext w W -> C W) :
    aJ s v w fun r w' => TS xs p r ∧ Ext w w' := by
  apply fU
  refine bD (fun st W => ∃ j : Nat, j <= xs.length ∧ st.1 = (j : Int) ∧ Ext w W ∧ (xs.take j).any p = false) (fun st _ => (s.len - st.1).toNat) ⟨0, by omega, rfl, Ext.refl _, by simp⟩ ?_
  rintro ⟨i, ⟨⟩⟩ W ⟨j, hj, hi, hw, hm⟩ next hnext
  simp only at hi
  subst hi
  have hlen := hs.len
  by_cases hlt : (j : Int) < (s.len : Int)
  · simp only [hlt, decide_true, cond_true]
    have hx := List.getElem?_eq_getElem (show j < xs.length by omega)
    have htk := Gp.Cfg.take_snoc hx
    generalize xs[j] = x at hx htk
    refine fH Oq (by omega) (hs.ext hw) (by omega) (by rw [Int.toNat_natCast]; exact hx) fun a hc => ?_
    have hp := hp x
    dsimp only at hp
    by_cases he : p x = true
    · rw [he] at hp
      obtain ⟨x0, x1, x2, x3, x4, ⟨⟩⟩ := x
      have c0 := hc 0 _ rfl; have c1 := hc 1 _ rfl; have c2 := hc 2 _ rfl; have c3 := hc 3 _ rfl; have c4 := hc 4 _ rfl
      simp only [sx, c0, c1, c2, c3, c4]
      refine hp W _ (hC W hw) fun W' hf => ⟨true, rfl, ?_⟩
      simp only [cond_true]
      exact ⟨.inl ⟨j, _, rfl, hx, he, hm⟩, hw.trans hf⟩
    · have he : p x = false := by simpa only [Bool.not_eq_true] using he
      rw [he] at hp
      obtain ⟨x0, x1, x2, x3, x4, ⟨⟩⟩ := x
      have c0 := hc 0 _ rfl; have c1 := hc 1 _ rfl; have c2 := hc 2 _ rfl; have c3 := hc 3 _ rfl; have c4 := hc 4 _ rfl
      simp only [sx, c0, c1, c2, c3, c4]
      refine hp W _ (hC W hw) fun W' hf => ⟨false, rfl, ?_⟩
      simp only [cond_false]
      rw [wrap_i64 (by omega) (by omega)]
      refine hnext _ _ ⟨j + 1, by omega, by simp, hw.trans hf, ?_⟩ (by simp only; omega)
      rw [htk, List.any_append, hm, List.any_cons, he, List.any_nil]; rfl
  · simp only [hlt, decide_false, cond_false]
    rw [List.take_of_length_le (by omega)] at hm
    exact ⟨.inr ⟨by trivial, hm⟩, hw⟩
theorem Jm {w : World} {s : ah} {xs : List T5} {v : Value} {p : T5 -> Bool} {C : World -> Prop} (hs : dQ 5 e5 w s xs) (hl : s.len <= 2 ^ 62) (hp : tJ v (fun x : T5 => Value.agg ⟨e5 x⟩) [.one .bool] C fun x => .bool (p x)) (hC : ∀ W, Ext w W -> C W) :
    aH s v w fun r w' => r = xs.any p ∧ Ext w w' := by
  apply fA
  refine f_ (Qb hs hl hp hC) ?_
  rintro r w' ⟨h, hf⟩
  refine ⟨?_, hf⟩
  rcases h with ⟨j, x, rfl, hx, hp, _⟩ | ⟨rfl, h⟩
  · rw [decide_eq_true (by omega)]; exact (List.any_eq_true.2 ⟨x, List.mem_of_getElem? hx, hp⟩).symm
  · rw [h]; exact decide_eq_false (by omega)
def MV : T8 -> T4 | (q0, q1, q2, q3, q4, q5, q6, q7, ()) => (q0, q1, q2, q3, ())
def Np : T8 -> T3 | (q0, q1, q2, q3, q4, q5, q6, q7, ()) => (q4, q5, q6, ())
theorem LK {q0 q1 q2 q3 q4 q5 q6 : Int} {q7 : Bool} (w : World) : xH q0 q1 q2 q3 q4 q5 q6 q7 w fun r0 r1 r2 r3 w' => (r0 = q0 ∧ r1 = q1 ∧ r2 = q2 ∧ r3 = q3) ∧ Ext w w' := by
  apply DF
  refine aU fun a w1 ra ea z1 f1 => aU fun b w2 rb eb z2 f2 => ?_
  have ra := ra.ext f2
  simp only [sx, ra.cell]
  refine iP rb rfl rfl fun w3 r3 f3 z3 => ?_
  simp only [List.getElem?_cons_zero, List.getElem?_cons_succ, aF, bn, r3.cell, and_self, true_and]
  exact (f1.trans f2).new (f3 (· = b) rfl) fun x hx e => by omega
theorem LG : tJ (.func (.func EU) #[] #[]) (fun x : T8 => Value.agg ⟨e8 x⟩) [.agg K4] (fun _ => True) (fun x : T8 => Value.agg ⟨e4 (MV x)⟩) := by
  intro x W K _ hK
  obtain ⟨q0, q1, q2, q3, q4, q5, q6, q7, ⟨⟩⟩ := x
  refine gV (by kernel_rfl) ?_
  refine Calls.mono (LK W) ?_
  rintro e W' ⟨r0, r1, r2, r3, he, h, hf⟩
  refine ⟨r0, r1, r2, r3, he, ?_⟩
  have hK := hK W' hf
  simp only [h]
  exact hK
theorem LV {q0 q1 q2 q3 q4 q5 q6 : Int} {q7 : Bool} (w : World) : wY q0 q1 q2 q3 q4 q5 q6 q7 w fun r0 r1 r2 w' => (r0 = q4 ∧ r1 = q5 ∧ r2 = q6) ∧ Ext w w' := by
  apply DJ
  refine aU fun a w1 ra ea z1 f1 => aU fun b w2 rb eb z2 f2 => ?_
  have ra := ra.ext f2
  simp only [sx, ra.cell]
  refine iP rb rfl rfl fun w3 r3 f3 z3 => ?_
  simp only [List.getElem?_cons_zero, List.getElem?_cons_succ, aF, bn, r3.cell, and_self, true_and]
  exact (f1.trans f2).new (f3 (· = b) rfl) fun x hx e => by omega
theorem KA : tJ (.func (.func FW) #[] #[]) (fun x : T8 => Value.agg ⟨e8 x⟩) [.agg K3] (fun _ => True) (fun x : T8 => Value.agg ⟨e3 (Np x)⟩) := by
  intro x W K _ hK
  obtain ⟨q0, q1, q2, q3, q4, q5, q6, q7, ⟨⟩⟩ := x
  refine gV (by kernel_rfl) ?_
  refine Calls.mono (LV W) ?_
  rintro e W' ⟨r0, r1, r2, he, h, hf⟩
  refine ⟨r0, r1, r2, he, ?_⟩
  have hK := hK W' hf
  simp only [h]
  exact hK
theorem kG {f0 f1 : Nat} {s : ah} {xs : List T8} {fv : Value} {k : T8 -> T4} (hl : s.len <= 2 ^ 62) (hk : tJ fv (fun x : T8 => Value.agg ⟨e8 x⟩) [.agg K4] (fun _ => True) (fun x => (fun x : T4 => Value.agg ⟨e4 x⟩) (k x))) :
    dN Tryz.prog [.agg K4] (Value.func (.func jH) #[] #[.pointer (some ⟨f0, 0, none⟩), .pointer (some ⟨f1, 0, none⟩)]) (fun W => Row W f0 [.slice s.a s.len s.cap] ∧ Row W f1 [fv] ∧ dQ 8 e8 W s xs) ((xs.map k).map fun y => (y, ())) := by
  refine ⟨by kernel_rfl, fun l Q D hC hQ hD hy w h0 => ?_⟩
  refine Calls.mono (je (a0 := .func (.yield l) #[] #[]) (f0 := ⟨f0, 0, none⟩) (f1 := ⟨f1, 0, none⟩) (K := fun w' => Q (((xs.map k).map fun y => (y, ())) : List (T4 × Unit)).length w' ∨ D w') ?_) (fun e w' h => h)
  obtain ⟨r0, r1, hs⟩ := hC _ _ h0
  simp only [sx, r0.cell]
  refine bD (fun st W => ∃ j : Nat, j <= xs.length ∧ st.1 = (j : Int) ∧ Q j W) (fun st _ => (s.len - st.1).toNat) ⟨0, by omega, rfl, h0⟩ ?_
  rintro ⟨i, ⟨⟩⟩ W ⟨j, hj, hi, hq⟩ next hnext
  simp only at hi
  subst hi
  obtain ⟨r0, r1, hs⟩ := hC _ _ hq
  have hlen := hs.len
  by_cases hlt : (j : Int) < (s.len : Int)
  · simp only [hlt, decide_true, cond_true]
    have hx := List.getElem?_eq_getElem (show j < xs.length by omega)
    generalize xs[j] = x at hx
    have hyx := tN (k := k) hx
    refine fH vw (by omega) hs (by omega) (by rw [Int.toNat_natCast]; exact hx) fun a hc => ?_
    have hkx := hk x
    dsimp only at hkx
    generalize k x = y at hkx hyx
    obtain ⟨x0, x1, x2, x3, x4, x5, x6, x7, ⟨⟩⟩ := x
    have c0 : W.cell? (a.add 0) = some (.int .i64 x0) := hc 0 _ rfl; have c1 : W.cell? (a.add 1) = some (.int .i64 x1) := hc 1 _ rfl; have c2 : W.cell? (a.add 2) = some (.int .i64 x2) := hc 2 _ rfl; have c3 : W.cell? (a.add 3) = some (.int .i64 x3) := hc 3 _ rfl; have c4 : W.cell? (a.add 4) = some (.int .i64 x4) := hc 4 _ rfl; have c5 : W.cell? (a.add 5) = some (.int .i64 x5) := hc 5 _ rfl; have c6 : W.cell? (a.add 6) = some (.int .i64 x6) := hc 6 _ rfl
    have c7 : W.cell? (a.add 7) = some (.bool x7) := hc 7 _ rfl
    simp only [aF, bn, sU, c0, c1, c2, c3, c4, c5, c6, c7]
    refine ru rfl rfl fun t W1 rt et zt ft => ?_
    have r1 := r1.ext ft
    have hq1 := hQ _ _ _ hq ft
    simp only [sx, r1.cell, rt.cell]
    refine hkx W1 _ trivial fun W2 hf2 => ?_
    have hq2 := hQ _ _ _ hq1 hf2
    obtain ⟨y0, y1, y2, y3, ⟨⟩⟩ := y
    refine ⟨y0, y1, y2, y3, rfl, ?_⟩
    refine jT (hy j _ W2 _ hyx hq2 ?_ ?_)
    · intro W' hq'
      refine ⟨true, rfl, ?_⟩
      simp only [Bool.not_true, cond_false]
      rw [wrap_i64 (by omega) (by omega)]
      exact hnext _ _ ⟨j + 1, by omega, by simp, hq'⟩ (by simp only; omega)
    · intro W' hd
      exact ⟨false, rfl, by simp only [Bool.not_false, cond_true]; exact .inr hd⟩
  · simp only [hlt, decide_false, cond_false]
    have : j = xs.length := by omega
    subst this
    exact .inl (by simpa using hq)
theorem nG {w : World} {s : ah} {xs : List T8} {fv : Value} {k : T8 -> T4} (hs : dQ 8 e8 w s xs) (hl : s.len <= 2 ^ 62) (ho : bK fv = true) (hk : tJ fv (fun x : T8 => Value.agg ⟨e8 x⟩) [.agg K4] (fun _ => True) (fun x => (fun x : T4 => Value.agg ⟨e4 x⟩) (k x))) :
    bf s fv w fun v w' => Ext w w' ∧ ∃ C, dN Tryz.prog [.agg K4] v C ((xs.map k).map fun y => (y, ())) ∧ ∀ W, Ext w' W -> C W := by
  apply jR
  refine ⟨rfl, aU fun a w1 ra ea z1 f1 => ⟨ho, aU fun b w2 rb eb z2 f2 => ?_⟩⟩
  exact ⟨f1.trans f2, _, kG hl hk, fun W hW => ⟨(ra.ext f2).ext hW, rb.ext hW, ((hs.ext f1).ext f2).ext hW⟩⟩
theorem kQ {f0 f1 : Nat} {s : ah} {xs : List T8} {fv : Value} {k : T8 -> T3} (hl : s.len <= 2 ^ 62) (hk : tJ fv (fun x : T8 => Value.agg ⟨e8 x⟩) [.agg K3] (fun _ => True) (fun x => (fun x : T3 => Value.agg ⟨e3 x⟩) (k x))) :
    dN Tryz.prog [.agg K3] (Value.func (.func jA) #[] #[.pointer (some ⟨f0, 0, none⟩), .pointer (some ⟨f1, 0, none⟩)]) (fun W => Row W f0 [.slice s.a s.len s.cap] ∧ Row W f1 [fv] ∧ dQ 8 e8 W s xs) ((xs.map k).map fun y => (y, ())) := by
  refine ⟨by kernel_rfl, fun l Q D hC hQ hD hy w h0 => ?_⟩
  refine Calls.mono (jh (a0 := .func (.yield l) #[] #[]) (f0 := ⟨f0, 0, none⟩) (f1 := ⟨f1, 0, none⟩) (K := fun w' => Q (((xs.map k).map fun y => (y, ())) : List (T3 × Unit)).length w' ∨ D w') ?_) (fun e w' h => h)
  obtain ⟨r0, r1, hs⟩ := hC _ _ h0
  simp only [sx, r0.cell]
  refine bD (fun st W => ∃ j : Nat, j <= xs.length ∧ st.1 = (j : Int) ∧ Q j W) (fun st _ => (s.len - st.1).toNat) ⟨0, by omega, rfl, h0⟩ ?_
  rintro ⟨i, ⟨⟩⟩ W ⟨j, hj, hi, hq⟩ next hnext
  simp only at hi
  subst hi
  obtain ⟨r0, r1, hs⟩ := hC _ _ hq
  have hlen := hs.len
  by_cases hlt : (j : Int) < (s.len : Int)
  · simp only [hlt, decide_true, cond_true]
    have hx := List.getElem?_eq_getElem (show j < xs.length by omega)
    generalize xs[j] = x at hx
    have hyx := tN (k := k) hx
    refine fH vw (by omega) hs (by omega) (by rw [Int.toNat_natCast]; exact hx) fun a hc => ?_
    have hkx := hk x
    dsimp only at hkx
    generalize k x = y at hkx hyx
    obtain ⟨x0, x1, x2, x3, x4, x5, x6, x7, ⟨⟩⟩ := x
    have c0 : W.cell? (a.add 0) = some (.int .i64 x0) := hc 0 _ rfl; have c1 : W.cell? (a.add 1) = some (.int .i64 x1) := hc 1 _ rfl; have c2 : W.cell? (a.add 2) = some (.int .i64 x2) := hc 2 _ rfl; have c3 : W.cell? (a.add 3) = some (.int .i64 x3) := hc 3 _ rfl; have c4 : W.cell? (a.add 4) = some (.int .i64 x4) := hc 4 _ rfl; have c5 : W.cell? (a.add 5) = some (.int .i64 x5) := hc 5 _ rfl; have c6 : W.cell? (a.add 6) = some (.int .i64 x6) := hc 6 _ rfl
    have c7 : W.cell? (a.add 7) = some (.bool x7) := hc 7 _ rfl
    simp only [aF, bn, sU, c0, c1, c2, c3, c4, c5, c6, c7]
    refine ru rfl rfl fun t W1 rt et zt ft => ?_
    have r1 := r1.ext ft
    have hq1 := hQ _ _ _ hq ft
    simp only [sx, r1.cell, rt.cell]
    refine hkx W1 _ trivial fun W2 hf2 => ?_
    have hq2 := hQ _ _ _ hq1 hf2
    obtain ⟨y0, y1, y2, ⟨⟩⟩ := y
    refine ⟨y0, y1, y2, rfl, ?_⟩
    refine jT (hy j _ W2 _ hyx hq2 ?_ ?_)
    · intro W' hq'
      refine ⟨true, rfl, ?_⟩
      simp only [Bool.not_true, cond_false]
      rw [wrap_i64 (by omega) (by omega)]
      exact hnext _ _ ⟨j + 1, by omega, by simp, hq'⟩ (by simp only; omega)
    · intro W' hd
      exact ⟨false, rfl, by simp only [Bool.not_false, cond_true]; exact .inr hd⟩
  · simp only [hlt, decide_false, cond_false]
    have : j = xs.length := by omega
    subst this
    exact .inl (by simpa using hq)
theorem nK {w : World} {s : ah} {xs : List T8} {fv : Value} {k : T8 -> T3} (hs : dQ 8 e8 w s xs) (hl : s.len <= 2 ^ 62) (ho : bK fv = true) (hk : tJ fv (fun x : T8 => Value.agg ⟨e8 x⟩) [.agg K3] (fun _ => True) (fun x => (fun x : T3 => Value.agg ⟨e3 x⟩) (k x))) :
    bg s fv w fun v w' => Ext w w' ∧ ∃ C, dN Tryz.prog [.agg K3] v C ((xs.map k).map fun y => (y, ())) ∧ ∀ W, Ext w' W -> C W := by
  apply jQ
  refine ⟨rfl, aU fun a w1 ra ea z1 f1 => ⟨ho, aU fun b w2 rb eb z2 f2 => ?_⟩⟩
  exact ⟨f1.trans f2, _, kQ hl hk, fun W hW => ⟨(ra.ext f2).ext hW, rb.ext hW, ((hs.ext f1).ext f2).ext hW⟩⟩
theorem UH {w : World} {v : Value} {C : World -> Prop} {ys : List T4} (hv : dN Tryz.prog [.agg K4] v C (ys.map fun y => (y, ()))) (hC : ∀ W, Ext w W -> C W) :
    dH v w fun r w' => (r = true ↔ ys.Nodup) ∧ Ext w w' := by
  apply rE
  refine aU fun a w1 ra ea z1 f1 => vG fun w2 m2 z2 f2 => aU fun b w3 rb eb z3 f3 => ?_
  refine dF rb rfl (by simp) fun w4 rb f4 z4 => ?_
  simp only [List.set_cons_zero] at rb
  have ra4 := ((ra.ext f2).ext f3).fr (f4 (· = b) rfl) (by omega)
  have m4 := ((m2 _ (fun x : T4 => Value.agg ⟨e4 x⟩)).ext f3).fr (f4 (· = b) rfl) (by omega)
  have x4 : Ext w w4 := ((f1.trans f2).trans f3).new (f4 (· = b) rfl) fun x hx e => by omega
  clear f4
  generalize hm : w1.heap.size = m at *
  refine mJ hv (fun i W => Row W a [.bool false] ∧ Row W b [.map (some m)] ∧ nY (fun x : T4 => Value.agg ⟨e4 x⟩) W m (ys.take i) ∧ (ys.take i).Nodup ∧ Ext w W)
    (fun e W => e = .ret ∧ Row W a [.bool false] ∧ ¬ ys.Nodup ∧ Ext w W) (by simp) ?_ ?_ ?_ ?_ ?_ ?_ ?_ ?_ ?_
  · exact fun W hx _ => ⟨ra4.ext hx, rb.ext hx, m4.ext hx, by simp, x4.trans hx⟩
  · rintro i W ⟨_, _, _, _, h⟩
    exact hC W h
  · rintro i W W' ⟨h1, h2, h3, h4, h5⟩ hf
    have lq : oH none w4 = w4.heap.size + 1 := rfl
    rw [lq] at hf
    exact ⟨h1.fr hf (by omega), h2.fr hf (by omega), h3.fr hf (by omega), h4, h5.new hf fun x hx e => by omega⟩
  · rintro e W W' ⟨h1, h2, h3, h4⟩ hf
    have lq : oH none w4 = w4.heap.size + 1 := rfl
    rw [lq] at hf
    exact ⟨h1, h2.fr hf (by omega), h3, h4.new hf fun x hx e => by omega⟩
  · exact fun e W hJ => .inl hJ.1
  · rintro i ⟨y, ⟨⟩⟩ W Kb hx ⟨h1, h2, h3, h4, h5⟩ hlt hn hj
    obtain ⟨y', hy', he⟩ := Option.map_eq_some_iff.1 (by rw [List.getElem?_map] at hx; exact hx)
    have hye : y' = y := congrArg Prod.fst he
    subst hye
    clear he
    have htk := Gp.Cfg.take_snoc hy'
    have lq : oH none w4 = w4.heap.size + 1 := rfl
    rw [lq] at hlt hn hj ⊢
    refine ru rfl rfl fun t W2 rt et zt ft => ?_
    refine ⟨(ft fun _ => False).same _ hlt (by simp), ?_⟩
    have fc : bH (ak W (w4.heap.size + 1)) (ak W2 (w4.heap.size + 1)) (fun _ => False) := lY (ft _) _
    have fc : Ext (ak W (w4.heap.size + 1)) (ak W2 (w4.heap.size + 1)) := fc.new (by simp)
    have fc := fc (· = a)
    have fc2 := lY (ft (· = m)) (w4.heap.size + 1)
    have fb : bH W (ak W2 (w4.heap.size + 1)) (· = w4.heap.size + 1) := ft.fr (bH.ak W2 _)
    have rt3 : Row (ak W2 (w4.heap.size + 1)) t _ := rt.fr (bH.ak W2 _) (by omega)
    generalize ak W2 (w4.heap.size + 1) = W3 at fc fc2 fb rt3 ⊢
    obtain ⟨y0, y1, y2, y3, ⟨⟩⟩ := y'
    have k1 := h1.fr fb (by omega)
    have k2 := h2.fr fb (by omega)
    have k3 := h3.fr fb (by omega)
    have k5 : Ext w W3 := h5.new fb fun x hx e => by omega
    simp only [sx, k2.cell, rt3.cell]
    refine qG k3 UA (y0, y1, y2, y3, ()) (Qe _) ?_
    by_cases hmem : (y0, y1, y2, y3, ()) ∈ ys.take i
    · simp only [hmem, decide_true, cond_true]
      refine dF k1 rfl (by simp) fun W4 q1 g1 z4 => ?_
      simp only [List.set_cons_zero] at q1
      refine hj .ret W4 (· = a) (fc.trans (g1 (· = a) rfl) fun _ _ e => e) (fun x hx1 hx2 e => by omega) ⟨rfl, q1, fun hnd => Gp.Cfg.lQ.1 hnd i _ hy' hmem, k5.new (g1 (· = a) rfl) fun x hx e => by omega⟩
    · simp only [hmem, decide_false, cond_false]
      refine qo k3 UA _ (Qe _) hmem fun W4 q3 g3 z4 => ?_
      refine hn W4 (· = m) (fc2.trans g3 fun _ _ e => e) (fun x hx1 hx2 e => by omega) ⟨k1.fr g3 (by omega), k2.fr g3 (by omega), ?_, ?_, k5.new g3 fun x hx e => by omega⟩
      · rw [htk]; exact q3
      · rw [htk, Gp.Cfg.lN]; exact ⟨h4, hmem⟩
  · rintro W ⟨h1, h2, h3, h4, h5⟩ hm'
    have hm' := hm' rfl
    rw [List.take_of_length_le (by simp)] at h4
    refine dF h1 rfl (by simp) fun W4 q1 g1 z4 => ?_
    simp only [List.set_cons_zero] at q1
    refine ⟨by rw [<- hm']; exact (g1 (· = a) rfl).same _ (by have := (Array.getElem?_eq_some_iff.1 hm').1; omega) (by omega), ?_⟩
    have q2 := q1.fr (bH.bZ W4 w4.heap.size (.deferred none)) (by omega)
    simp only [sx, q2.cell]
    exact ⟨by simp [h4], (h5.new (g1 (· = a) rfl) fun x hx e => by omega).new (bH.bZ W4 w4.heap.size (.deferred none)) fun x hx e => by have := x4.size; omega⟩
  · rintro W ⟨_, h1, h2, h3⟩ hm'
    have hm' := hm' rfl
    refine ⟨hm', ?_⟩
    have q2 := h1.fr (bH.bZ W w4.heap.size (.deferred none)) (by omega)
    simp only [sx, q2.cell]
    exact ⟨by simp [h2], h3.new (bH.bZ W w4.heap.size (.deferred none)) fun x hx e => by have := x4.size; omega⟩
  · rintro id W ⟨h1, _⟩
    cases h1
theorem Ug {w : World} {v : Value} {C : World -> Prop} {ys : List T3} (hv : dN Tryz.prog [.agg K3] v C (ys.map fun y => (y, ()))) (hC : ∀ W, Ext w W -> C W) :
    dG v w fun r w' => (r = true ↔ ys.Nodup) ∧ Ext w w' := by
  apply rQ
  refine aU fun a w1 ra ea z1 f1 => vG fun w2 m2 z2 f2 => aU fun b w3 rb eb z3 f3 => ?_
  refine dF rb rfl (by simp) fun w4 rb f4 z4 => ?_
  simp only [List.set_cons_zero] at rb
  have ra4 := ((ra.ext f2).ext f3).fr (f4 (· = b) rfl) (by omega)
  have m4 := ((m2 _ (fun x : T3 => Value.agg ⟨e3 x⟩)).ext f3).fr (f4 (· = b) rfl) (by omega)
  have x4 : Ext w w4 := ((f1.trans f2).trans f3).new (f4 (· = b) rfl) fun x hx e => by omega
  clear f4
  generalize hm : w1.heap.size = m at *
  refine mJ hv (fun i W => Row W a [.bool false] ∧ Row W b [.map (some m)] ∧ nY (fun x : T3 => Value.agg ⟨e3 x⟩) W m (ys.take i) ∧ (ys.take i).Nodup ∧ Ext w W)
    (fun e W => e = .ret ∧ Row W a [.bool false] ∧ ¬ ys.Nodup ∧ Ext w W) (by simp) ?_ ?_ ?_ ?_ ?_ ?_ ?_ ?_ ?_
  · exact fun W hx _ => ⟨ra4.ext hx, rb.ext hx, m4.ext hx, by simp, x4.trans hx⟩
  · rintro i W ⟨_, _, _, _, h⟩
    exact hC W h
  · rintro i W W' ⟨h1, h2, h3, h4, h5⟩ hf
    have lq : oH none w4 = w4.heap.size + 1 := rfl
    rw [lq] at hf
    exact ⟨h1.fr hf (by omega), h2.fr hf (by omega), h3.fr hf (by omega), h4, h5.new hf fun x hx e => by omega⟩
  · rintro e W W' ⟨h1, h2, h3, h4⟩ hf
    have lq : oH none w4 = w4.heap.size + 1 := rfl
    rw [lq] at hf
    exact ⟨h1, h2.fr hf (by omega), h3, h4.new hf fun x hx e => by omega⟩
  · exact fun e W hJ => .inl hJ.1
  · rintro i ⟨y, ⟨⟩⟩ W Kb hx ⟨h1, h2, h3, h4, h5⟩ hlt hn hj
    obtain ⟨y', hy', he⟩ := Option.map_eq_some_iff.1 (by rw [List.getElem?_map] at hx; exact hx)
    have hye : y' = y := congrArg Prod.fst he
    subst hye
    clear he
    have htk := Gp.Cfg.take_snoc hy'
    have lq : oH none w4 = w4.heap.size + 1 := rfl
    rw [lq] at hlt hn hj ⊢
    refine ru rfl rfl fun t W2 rt et zt ft => ?_
    refine ⟨(ft fun _ => False).same _ hlt (by simp), ?_⟩
    have fc : bH (ak W (w4.heap.size + 1)) (ak W2 (w4.heap.size + 1)) (fun _ => False) := lY (ft _) _
    have fc : Ext (ak W (w4.heap.size + 1)) (ak W2 (w4.heap.size + 1)) := fc.new (by simp)
    have fc := fc (· = a)
    have fc2 := lY (ft (· = m)) (w4.heap.size + 1)
    have fb : bH W (ak W2 (w4.heap.size + 1)) (· = w4.heap.size + 1) := ft.fr (bH.ak W2 _)
    have rt3 : Row (ak W2 (w4.heap.size + 1)) t _ := rt.fr (bH.ak W2 _) (by omega)
    generalize ak W2 (w4.heap.size + 1) = W3 at fc fc2 fb rt3 ⊢
    obtain ⟨y0, y1, y2, ⟨⟩⟩ := y'
    have k1 := h1.fr fb (by omega)
    have k2 := h2.fr fb (by omega)
    have k3 := h3.fr fb (by omega)
    have k5 : Ext w W3 := h5.new fb fun x hx e => by omega
    simp only [sx, k2.cell, rt3.cell]
    refine qG k3 Ub (y0, y1, y2, ()) (Qz _) ?_
    by_cases hmem : (y0, y1, y2, ()) ∈ ys.take i
    · simp only [hmem, decide_true, cond_true]
      refine dF k1 rfl (by simp) fun W4 q1 g1 z4 => ?_
      simp only [List.set_cons_zero] at q1
      refine hj .ret W4 (· = a) (fc.trans (g1 (· = a) rfl) fun _ _ e => e) (fun x hx1 hx2 e => by omega) ⟨rfl, q1, fun hnd => Gp.Cfg.lQ.1 hnd i _ hy' hmem, k5.new (g1 (· = a) rfl) fun x hx e => by omega⟩
    · simp only [hmem, decide_false, cond_false]
      refine qo k3 Ub _ (Qz _) hmem fun W4 q3 g3 z4 => ?_
      refine hn W4 (· = m) (fc2.trans g3 fun _ _ e => e) (fun x hx1 hx2 e => by omega) ⟨k1.fr g3 (by omega), k2.fr g3 (by omega), ?_, ?_, k5.new g3 fun x hx e => by omega⟩
      · rw [htk]; exact q3
      · rw [htk, Gp.Cfg.lN]; exact ⟨h4, hmem⟩
  · rintro W ⟨h1, h2, h3, h4, h5⟩ hm'
    have hm' := hm' rfl
    rw [List.take_of_length_le (by simp)] at h4
    refine dF h1 rfl (by simp) fun W4 q1 g1 z4 => ?_
    simp only [List.set_cons_zero] at q1
    refine ⟨by rw [<- hm']; exact (g1 (· = a) rfl).same _ (by have := (Array.getElem?_eq_some_iff.1 hm').1; omega) (by omega), ?_⟩
    have q2 := q1.fr (bH.bZ W4 w4.heap.size (.deferred none)) (by omega)
    simp only [sx, q2.cell]
    exact ⟨by simp [h4], (h5.new (g1 (· = a) rfl) fun x hx e => by omega).new (bH.bZ W4 w4.heap.size (.deferred none)) fun x hx e => by have := x4.size; omega⟩
  · rintro W ⟨_, h1, h2, h3⟩ hm'
    have hm' := hm' rfl
    refine ⟨hm', ?_⟩
    have q2 := h1.fr (bH.bZ W w4.heap.size (.deferred none)) (by omega)
    simp only [sx, q2.cell]
    exact ⟨by simp [h2], h3.new (bH.bZ W w4.heap.size (.deferred none)) fun x hx e => by have := x4.size; omega⟩
  · rintro id W ⟨h1, _⟩
    cases h1
end Go.Proofs
namespace Go.Proofs
open Gp
set_option maxRecDepth 100000
abbrev Td (bl : List T8) : Prop := (bl.map MV).Nodup ∧ (bl.map Np).Nodup
theorem EY {w : World} {v0 v3 v4 v5 : Int} {vb vs vc : ah} {bl : List T8} (hb : dQ 8 e8 w vb bl) (hl : vb.len <= 2 ^ 62) :
    fG v0 vb vs v3 v4 v5 vc w fun r w' => (r = true ↔ Td bl) ∧ Ext w w' := by
  apply wZ
  refine aU fun a w1 ra ea z1 f1 => ?_
  intro J
  simp -zeta only [sx, ra.cell]
  refine jM (nG (hb.ext f1) hl rfl LG) ?_
  rintro v w2 ⟨f2, C, hv, hC⟩
  refine qY (UH hv hC) ?_
  rintro r w3 ⟨h3, f3⟩
  have ra3 := (ra.ext f2).ext f3
  have x3 := (f1.trans f2).trans f3
  cases r
  · simp only [cond_false, J]
    exact ⟨⟨fun h => (by cases h), fun h => absurd (h3.2 h.1) (by simp)⟩, x3⟩
  · simp -zeta only [cond_true, List.getElem?_cons_zero, List.getElem?_cons_succ, aF, bY, ra3.cell]
    refine jL (nK (hb.ext x3) hl rfl KA) ?_
    rintro v w4 ⟨f4, C, hv, hC⟩
    refine qX (Ug hv hC) ?_
    rintro r w5 ⟨h5, f5⟩
    exact ⟨⟨fun h => ⟨h3.1 rfl, h5.1 h⟩, fun h => h5.2 h.2⟩, (x3.trans f4).trans f5⟩
abbrev uG (l : List (Int × Int)) (x : T8) : List (Int × Int) := TQ l x.1 (IntKind.i64.wrap ((Ls l x.1).getD 0 + 1))
def Iq (q : Int) : List T8 -> List (Int × Int) -> Bool
  | [], _ => false
  | x :: r, l => bif decide ((Ls (uG l x) x.1).getD 0 > q) then true else Iq q r (uG l x)
theorem L_ {w : World} {p0 p1 p2 p3 p4 p5 p6 p7 p8 p9 p10 p11 p12 p13 p14 p15 : Int} {sw po : ah} {n18 n19 n20 n21 n22 n23 n24 n25 n26 n27 n28 n29 n30 n31 n32 n33 n34 : Int} {st : ah} {v0 v3 v4 v5 : Int} {vb vs vc : ah} {bl : List T8} (hb : dQ 8 e8 w vb bl) (hl : vb.len <= 2 ^ 62) :
    jr p0 p1 p2 p3 p4 p5 p6 p7 p8 p9 p10 p11 p12 p13 p14 p15 sw po n18 n19 n20 n21 n22 n23 n24 n25 n26 n27 n28 n29 n30 n31 n32 n33 n34 st v0 vb vs v3 v4 v5 vc w fun r w' => r = Iq n20 bl [] ∧ Ext w w' := by
  apply Cj
  refine aU fun a w1 ra ea z1 f1 => aU fun b w2 rb eb z2 f2 => vG fun w3 m3 z3 f3 => ?_
  have ra := (ra.ext f2).ext f3
  have rb := rb.ext f3
  have x3 := (f1.trans f2).trans f3
  have hlen := hb.len
  have hm3 : qy (fun x : Int => Value.int .i64 x) (fun x : Int => Value.int .i64 x) w3 w2.heap.size ([] : List (Int × Int)) := by
    obtain ⟨es, c, g1, g2⟩ := m3 Int (fun x : Int => Value.int .i64 x)
    have g2 : es = #[] := by simpa using g2
    subst g2
    exact ⟨_, c, g1, rfl, by simp, by simp⟩
  have gt := w2.heap.size
  generalize hm : w2.heap.size = m at *
  simp -zeta only [sx, rb.cell]
  refine bD (fun s' W => ∃ j : Nat, j <= bl.length ∧ s'.1 = (j : Int) ∧ Ext w W ∧ Row W a (.int .u8 p0 :: .int .u8 p1 :: .int .u8 p2 :: .int .u8 p3 :: .int .u8 p4 :: .int .u8 p5 :: .int .u8 p6 :: .int .u8 p7 :: .int .u8 p8 :: .int .u8 p9 :: .int .u8 p10 :: .int .u8 p11 :: .int .u8 p12 :: .int .u8 p13 :: .int .u8 p14 :: .int .u8 p15 :: .slice sw.a sw.len sw.cap :: .slice po.a po.len po.cap :: .int .i64 n18 :: .int .i64 n19 :: .int .i64 n20 :: .int .i64 n21 :: .int .i64 n22 :: .int .i64 n23 :: .int .i64 n24 :: .int .i64 n25 :: .int .i64 n26 :: .int .i64 n27 :: .int .i64 n28 :: .int .i64 n29 :: .int .i64 n30 :: .int .i64 n31 :: .int .i64 n32 :: .int .i64 n33 :: .int .i64 n34 :: .slice st.a st.len st.cap :: []) ∧ ∃ l : List (Int × Int), qy (fun x : Int => Value.int .i64 x) (fun x : Int => Value.int .i64 x) W m l ∧ Iq n20 bl [] = Iq n20 (bl.drop j) l) (fun s' _ => (vb.len - s'.1).toNat) ⟨0, by omega, rfl, x3, ra, _, hm3, rfl⟩ ?_
  rintro ⟨i, ⟨⟩⟩ W ⟨j, hj, hi, hx, ra, l, hml, hgr⟩ next hnext
  simp only at hi
  subst hi
  by_cases hlt : (j : Int) < (vb.len : Int)
  · rw [decide_eq_true hlt, cond_true]
    have hxj := List.getElem?_eq_getElem (show j < bl.length by omega)
    have hdr := List.drop_eq_getElem_cons (show j < bl.length by omega)
    generalize bl[j] = x at hxj hdr
    rw [hdr] at hgr
    refine fH vw (by omega) (hb.ext hx) (by omega) (by rw [Int.toNat_natCast]; exact hxj) fun a' hc => ?_
    obtain ⟨x0, x1, x2, x3, x4, x5, x6, x7, ⟨⟩⟩ := x
    have c0 : W.cell? (a'.add 0) = some (.int .i64 x0) := hc 0 _ rfl; have c1 : W.cell? (a'.add 1) = some (.int .i64 x1) := hc 1 _ rfl; have c2 : W.cell? (a'.add 2) = some (.int .i64 x2) := hc 2 _ rfl; have c3 : W.cell? (a'.add 3) = some (.int .i64 x3) := hc 3 _ rfl; have c4 : W.cell? (a'.add 4) = some (.int .i64 x4) := hc 4 _ rfl; have c5 : W.cell? (a'.add 5) = some (.int .i64 x5) := hc 5 _ rfl; have c6 : W.cell? (a'.add 6) = some (.int .i64 x6) := hc 6 _ rfl
    have c7 : W.cell? (a'.add 7) = some (.bool x7) := hc 7 _ rfl
    simp only [aF, bn, sU, c0, c1, c2, c3, c4, c5, c6, c7]
    refine ru rfl rfl fun t W1 rt et zt ft => ?_
    have hm1 := hml.ext ft
    have ra1 := ra.ext ft
    simp only [List.getElem?_cons_zero, aF, bn, rt.cell]
    have hget : ∀ (W1 : World) (l : List (Int × Int)) (K : Int -> Prop), qy (fun x : Int => Value.int .i64 x) (fun x : Int => Value.int .i64 x) W1 m l -> K ((Ls l x0).getD 0) -> kL Tryz.prog 3 (.int .i64) (some m) (Value.int .i64 x0) (Value.int .i64 0) W1 K := by
      intro W1 l K h hK
      exact Oe (k := .int .i64) h eq1 x0 (key1 _) (fun e => by rw [e] at hK; rw [bn]; exact hK) (fun b e => by rw [e] at hK; rw [bn]; exact hK)
    refine hget W1 l _ hm1 ?_
    refine Oo (enc := fun x : Int => Value.int .i64 x) (ev := fun x : Int => Value.int .i64 x) hm1 eq1 x0 _ (key1 _) fun W2 hm2 g2 z2 => ?_
    have mlt := hml.lt
    have rt2 := rt.fr g2 (by omega)
    have ra2 := ra1.fr g2 (by omega)
    have xw : Ext w W2 := (hx.trans ft).new g2 fun x hx e => by have := f1.size; have := f2.size; omega
    simp only [List.getElem?_cons_zero, List.getElem?_cons_succ, aF, bn, rt2.cell, ra2.cell]
    refine hget W2 _ _ hm2 ?_
    have hgr : Iq n20 bl [] = (bif decide ((Ls (uG l (x0, x1, x2, x3, x4, x5, x6, x7, ())) x0).getD 0 > n20) then true else Iq n20 (bl.drop (j + 1)) (uG l (x0, x1, x2, x3, x4, x5, x6, x7, ()))) := hgr
    have hm2 : qy (fun x : Int => Value.int .i64 x) (fun x : Int => Value.int .i64 x) W2 m (uG l (x0, x1, x2, x3, x4, x5, x6, x7, ())) := hm2
    show (bif decide ((Ls (uG l (x0, x1, x2, x3, x4, x5, x6, x7, ())) x0).getD 0 > n20) then _ else _)
    generalize uG l (x0, x1, x2, x3, x4, x5, x6, x7, ()) = l2 at hm2 hgr ⊢
    by_cases hg : (Ls l2 x0).getD 0 > n20
    · rw [decide_eq_true hg, cond_true]
      rw [decide_eq_true hg, cond_true] at hgr
      exact ⟨hgr.symm, xw⟩
    · rw [decide_eq_false hg, cond_false, wrap_i64 (by omega) (by omega)]
      rw [decide_eq_false hg, cond_false] at hgr
      exact hnext _ _ ⟨j + 1, by omega, by simp, xw, ra2, _, hm2, hgr⟩ (by simp only; omega)
  · rw [decide_eq_false hlt, cond_false]
    rw [List.drop_of_length_le (by omega)] at hgr
    exact ⟨hgr.symm, hx⟩
end Go.Proofs
namespace Go.Proofs
open Gp
set_option maxRecDepth 100000
def C_ (lb ls n21 n22 n23 n24 v3 v4 v5 : Int) : Bool :=
  bif decide (lb > n21) then true else bif decide (ls > n22) then true else bif decide (v4 > IntKind.i64.wrap (2 * n23)) then true else bif decide (v3 > IntKind.i64.wrap (2 * n24)) then true else
    !(bif decide (v5 >= ls) then IntKind.i64.wrap (v5 - ls) == v4 else false)
theorem IZ {w : World} {p0 p1 p2 p3 p4 p5 p6 p7 p8 p9 p10 p11 p12 p13 p14 p15 : Int} {sw po : ah} {n18 n19 n20 n21 n22 n23 n24 n25 n26 n27 n28 n29 n30 n31 n32 n33 n34 : Int} {st : ah} {v0 v3 v4 v5 : Int} {vb vs vc : ah} :
    iI p0 p1 p2 p3 p4 p5 p6 p7 p8 p9 p10 p11 p12 p13 p14 p15 sw po n18 n19 n20 n21 n22 n23 n24 n25 n26 n27 n28 n29 n30 n31 n32 n33 n34 st v0 vb vs v3 v4 v5 vc w fun r w' => r = C_ vb.len vs.len n21 n22 n23 n24 v3 v4 v5 ∧ Ext w w' := by
  apply zY
  refine aU fun a w1 ra ea z1 f1 => aU fun b w2 rb eb z2 f2 => ?_
  have ra := ra.ext f2
  have xx := f1.trans f2
  unfold C_
  simp -zeta only [sx, rb.cell, ra.cell]
  intro J
  have hJ : ∀ j, J j = ((bif decide ((vb.len : Int) > n21) then true else bif decide ((vs.len : Int) > n22) then true else bif decide (v4 > IntKind.i64.wrap (2 * n23)) then true else bif decide (v3 > IntKind.i64.wrap (2 * n24)) then true else !j) =
      (bif decide ((vb.len : Int) > n21) then true else bif decide ((vs.len : Int) > n22) then true else bif decide (v4 > IntKind.i64.wrap (2 * n23)) then true else bif decide (v3 > IntKind.i64.wrap (2 * n24)) then true else
    !(bif decide (v5 >= (vs.len : Int)) then IntKind.i64.wrap (v5 - (vs.len : Int)) == v4 else false)) ∧ Ext w w2) := by
    intro j
    simp only [J]
    generalize decide ((vb.len : Int) > n21) = d1
    generalize decide ((vs.len : Int) > n22) = d2
    generalize decide (v4 > IntKind.i64.wrap (2 * n23)) = d3
    generalize decide (v3 > IntKind.i64.wrap (2 * n24)) = d4
    cases d1 <;> cases d2 <;> cases d3 <;> cases d4 <;> rfl
  clear_value J
  generalize decide (v5 >= (vs.len : Int)) = d5 at hJ ⊢
  cases d5
  · rw [cond_false, hJ]; exact ⟨rfl, xx⟩
  · rw [cond_true, hJ]; exact ⟨rfl, xx⟩
theorem Gx {f0 : Nat} {p0 p1 p2 p3 p4 p5 p6 p7 p8 p9 p10 p11 p12 p13 p14 p15 : Int} {sw po : ah} {n18 n19 n20 n21 n22 n23 n24 n25 n26 n27 n28 n29 n30 n31 n32 n33 n34 : Int} {st : ah} {pl : List Int} (hpl : po.len <= 2 ^ 62) :
    tJ (.func (.func lK) #[] #[.pointer (some ⟨f0, 0, none⟩)]) (fun x : T8 => Value.agg ⟨e8 x⟩) [.one .bool]
      (fun W => Row W f0 (.int .u8 p0 :: .int .u8 p1 :: .int .u8 p2 :: .int .u8 p3 :: .int .u8 p4 :: .int .u8 p5 :: .int .u8 p6 :: .int .u8 p7 :: .int .u8 p8 :: .int .u8 p9 :: .int .u8 p10 :: .int .u8 p11 :: .int .u8 p12 :: .int .u8 p13 :: .int .u8 p14 :: .int .u8 p15 :: .slice sw.a sw.len sw.cap :: .slice po.a po.len po.cap :: .int .i64 n18 :: .int .i64 n19 :: .int .i64 n20 :: .int .i64 n21 :: .int .i64 n22 :: .int .i64 n23 :: .int .i64 n24 :: .int .i64 n25 :: .int .i64 n26 :: .int .i64 n27 :: .int .i64 n28 :: .int .i64 n29 :: .int .i64 n30 :: .int .i64 n31 :: .int .i64 n32 :: .int .i64 n33 :: .int .i64 n34 :: .slice st.a st.len st.cap :: []) ∧ dQ 1 eI W po pl) (fun x : T8 => .bool (!decide (x.2.2.2.2.2.1 ∈ pl) || (!x.2.2.2.2.2.2.2.1 && (decide (x.2.2.2.2.2.2.1 < n18) || decide (x.2.2.2.2.2.2.1 > n19))))) := by
  rintro x W K ⟨hr, hpo⟩ hK
  obtain ⟨q0, q1, q2, q3, q4, q5, q6, q7, ⟨⟩⟩ := x
  refine gV (by kernel_rfl) ?_
  refine Calls.mono (wX (f0 := ⟨f0, 0, none⟩) (w := W) (K := fun r W' => r = (!decide (q5 ∈ pl) || (!q7 && (decide (q6 < n18) || decide (q6 > n19)))) ∧ Ext W W') ?_) ?_
  · refine aU fun a w1 ra ea z1 f1 => ?_
    have hr := hr.ext f1
    simp -zeta only [sx, ra.cell, hr.cell]
    refine dS (su (hpo.ext f1) hpl _) ?_
    rintro _ w' ⟨rfl, hw⟩
    subst hw
    by_cases hm : q5 ∈ pl
    · simp only [hm, decide_true, Bool.not_true, cond_false, cond_false, List.getElem?_cons_zero, List.getElem?_cons_succ, aF, bn, sU, ra.cell, hr.cell, Bool.false_or]
      cases q7
      · simp only [Bool.not_false, cond_true, Bool.true_and]
        by_cases h1 : q6 < n18
        · simp only [h1, decide_true, cond_true, Bool.true_or, true_and]; exact f1
        · simp only [h1, decide_false, cond_false, Bool.false_or, true_and]; exact f1
      · simp only [Bool.not_true, cond_false, Bool.false_and, true_and]; exact f1
    · simp only [hm, decide_false, Bool.not_false, cond_true, Bool.true_or, true_and]; exact f1
  · rintro e W' ⟨r, he, rfl, hf⟩
    exact ⟨_, he, hK W' hf⟩
theorem Qq {f0 : Nat} {v0 v3 v4 v5 : Int} {vb vs vc : ah} :
    tJ (.func (.func zQ) #[] #[.pointer (some ⟨f0, 0, none⟩)]) (fun x : T5 => Value.agg ⟨e5 x⟩) [.one .bool]
      (fun W => Row W f0 [.int .i64 v0, .slice vb.a vb.len vb.cap, .slice vs.a vs.len vs.cap, .int .i64 v3, .int .i64 v4, .int .i64 v5, .slice vc.a vc.len vc.cap]) (fun x : T5 => .bool (decide (x.1 < 0) || decide (x.1 >= (vb.len : Int)))) := by
  rintro x W K hr hK
  obtain ⟨q0, q1, q2, q3, q4, ⟨⟩⟩ := x
  refine gV (by kernel_rfl) ?_
  refine Calls.mono (yC (f0 := ⟨f0, 0, none⟩) (w := W) (K := fun r W' => r = (decide (q0 < 0) || decide (q0 >= (vb.len : Int))) ∧ Ext W W') ?_) ?_
  · refine aU fun a w1 ra ea z1 f1 => ?_
    have hr := hr.ext f1
    simp only [sx, ra.cell, hr.cell]
    by_cases h1 : q0 < 0
    · simp only [h1, decide_true, cond_true, Bool.true_or, true_and]; exact f1
    · simp only [h1, decide_false, cond_false, Bool.false_or, true_and]; exact f1
  · rintro e W' ⟨r, he, rfl, hf⟩
    exact ⟨_, he, hK W' hf⟩
def Uw (pl : List Int) (n18 n19 : Int) (x : T8) : Bool := !decide (x.2.2.2.2.2.1 ∈ pl) || (!x.2.2.2.2.2.2.2.1 && (decide (x.2.2.2.2.2.2.1 < n18) || decide (x.2.2.2.2.2.2.1 > n19)))
def UL (n : Nat) (x : T5) : Bool := decide (x.1 < 0) || decide (x.1 >= (n : Int))
def Aq (rc : Int) (inj : Prop) (gr cr fr lo : Bool) (r : Int) : Prop :=
  (rc ≠ 0 ∧ r = rc) ∨ (rc = 0 ∧ ¬ inj ∧ r = 9) ∨ (rc = 0 ∧ inj ∧ r = bif gr then 10 else bif cr then 7 else bif fr then 12 else bif lo then 1 else 0)
theorem GL {rc : Int} {inj : Prop} {gr cr fr lo : Bool} {r r' : Int} (h : Aq rc inj gr cr fr lo r) (h' : Aq rc inj gr cr fr lo r') : r = r' := by
  rcases h with ⟨a, b⟩ | ⟨a, b, c⟩ | ⟨a, b, c⟩ <;> rcases h' with ⟨a', b'⟩ | ⟨a', b', c'⟩ | ⟨a', b', c'⟩ <;> first
    | exact absurd a' a | exact absurd a a' | exact absurd b' b | exact absurd b b' | rw [b, b'] | rw [c, c']
theorem D_ {w : World} {p0 p1 p2 p3 p4 p5 p6 p7 p8 p9 p10 p11 p12 p13 p14 p15 : Int} {sw po : ah} {n18 n19 n20 n21 n22 n23 n24 n25 n26 n27 n28 n29 n30 n31 n32 n33 n34 : Int} {st : ah} {sl : List lg} {pl : List Int} {tl : List T7} (hsw : dQ 16 e16 w sw sl) (hpo : dQ 1 eI w po pl) (hst : dQ 7 e7 w st tl) (lsw : sw.len <= 2 ^ 40) (lpo : po.len <= 2 ^ 40) (lst : st.len <= 2 ^ 40)
    {v0 v3 v4 v5 : Int} {vb vs vc : ah} {bl : List T8} {el : List T5} (hb : dQ 8 e8 w vb bl) (he : dQ 5 e5 w vs el) (lb : vb.len <= 2 ^ 62) (le : vs.len <= 2 ^ 62) :
    gY p0 p1 p2 p3 p4 p5 p6 p7 p8 p9 p10 p11 p12 p13 p14 p15 sw po n18 n19 n20 n21 n22 n23 n24 n25 n26 n27 n28 n29 n30 n31 n32 n33 n34 st v0 vb vs v3 v4 v5 vc w fun r w' => (∃ rc, chk (p0, p1, p2, p3, p4, p5, p6, p7, p8, p9, p10, p11, p12, p13, p14, p15, ()) sw.len po.len st.len n18 n19 n20 n21 n22 n23 n24 n25 n26 n27 n28 n29 n30 n31 n32 n33 n34 sw.len sl pl tl rc ∧ Aq rc (Td bl) (Iq n20 bl []) (C_ vb.len vs.len n21 n22 n23 n24 v3 v4 v5) (bl.any (Uw pl n18 n19)) (el.any (UL vb.len)) r) ∧ Ext w w' := by
  apply AP
  refine aU fun a w1 ra ea z1 f1 => aU fun b w2 rb eb z2 f2 => ?_
  have ra := ra.ext f2
  have xx := f1.trans f2
  simp -zeta only [sx, ra.cell]
  refine Af (OW (hsw.ext xx) (hpo.ext xx) (hst.ext xx) (by simp only; omega) (by simp only; omega) (by simp only; omega)) ?_
  rintro rc w3 ⟨h3, f3⟩
  have xx := xx.trans f3
  have ra := ra.ext f3
  have rb := rb.ext f3
  by_cases hrc : rc = 0
  case neg =>
    rw [show (rc != 0) = true by simpa using hrc, cond_true]
    exact ⟨⟨rc, h3, .inl ⟨hrc, rfl⟩⟩, xx⟩
  rw [show (rc != 0) = false by simpa using hrc, cond_false]
  simp -zeta only [List.getElem?_cons_zero, List.getElem?_cons_succ, aF, bY, bn, rb.cell]
  refine wH (EY (hb.ext xx) lb) ?_
  rintro r w4 ⟨h4, f4⟩
  have xx := xx.trans f4
  have ra := ra.ext f4
  have rb := rb.ext f4
  cases r
  · simp only [Bool.not_false, cond_true]
    exact ⟨⟨rc, h3, .inr (.inl ⟨hrc, fun h => absurd (h4.2 h) (by simp), rfl⟩)⟩, xx⟩
  have hin := h4.1 rfl
  rw [Bool.not_true, cond_false]
  simp -zeta only [List.getElem?_cons_zero, List.getElem?_cons_succ, aF, bY, bn, ra.cell, rb.cell]
  refine CG (L_ (hb.ext xx) lb) ?_
  rintro r w5 ⟨h5, f5⟩
  have xx := xx.trans f5
  have ra := ra.ext f5
  have rb := rb.ext f5
  cases r
  case true =>
    rw [cond_true, <- h5]
    exact ⟨⟨rc, h3, .inr (.inr ⟨hrc, hin, rfl⟩)⟩, xx⟩
  rw [cond_false]
  simp -zeta only [List.getElem?_cons_zero, List.getElem?_cons_succ, aF, bY, bn, ra.cell, rb.cell]
  refine Ac IZ ?_
  rintro r w6 ⟨rfl, f6⟩
  have xx := xx.trans f6
  have ra := ra.ext f6
  have rb := rb.ext f6
  generalize C_ vb.len vs.len n21 n22 n23 n24 v3 v4 v5 = cb
  cases cb
  case true =>
    rw [cond_true]
    rw [<- h5]
    exact ⟨⟨rc, h3, .inr (.inr ⟨hrc, hin, rfl⟩)⟩, xx⟩
  rw [cond_false]
  have ra := ra.drew
  have rb := rb.drew
  have xx := xx.trans (Ext.drew _)
  simp -zeta only [List.getElem?_cons_zero, List.getElem?_cons_succ, aF, bY, bn, ra.cell, rb.cell]
  refine zO (zS (by
    exact aU fun c w7 rc' ec z7 f7 => (show (∃ c : Nat, Value.func (.func 39) #[] #[.pointer (some ⟨_, 0, none⟩)] = Value.func (.func lK) #[] #[.pointer (some ⟨c, 0, none⟩)] ∧ Row w7 c (.int .u8 p0 :: .int .u8 p1 :: .int .u8 p2 :: .int .u8 p3 :: .int .u8 p4 :: .int .u8 p5 :: .int .u8 p6 :: .int .u8 p7 :: .int .u8 p8 :: .int .u8 p9 :: .int .u8 p10 :: .int .u8 p11 :: .int .u8 p12 :: .int .u8 p13 :: .int .u8 p14 :: .int .u8 p15 :: .slice sw.a sw.len sw.cap :: .slice po.a po.len po.cap :: .int .i64 n18 :: .int .i64 n19 :: .int .i64 n20 :: .int .i64 n21 :: .int .i64 n22 :: .int .i64 n23 :: .int .i64 n24 :: .int .i64 n25 :: .int .i64 n26 :: .int .i64 n27 :: .int .i64 n28 :: .int .i64 n29 :: .int .i64 n30 :: .int .i64 n31 :: .int .i64 n32 :: .int .i64 n33 :: .int .i64 n34 :: .slice st.a st.len st.cap :: [])) ∧ Ext _ w7 from ⟨⟨_, rfl, rc'⟩, f7⟩)) (K := fun v w' => (∃ c : Nat, v = Value.func (.func lK) #[] #[.pointer (some ⟨c, 0, none⟩)] ∧ Row w' c (.int .u8 p0 :: .int .u8 p1 :: .int .u8 p2 :: .int .u8 p3 :: .int .u8 p4 :: .int .u8 p5 :: .int .u8 p6 :: .int .u8 p7 :: .int .u8 p8 :: .int .u8 p9 :: .int .u8 p10 :: .int .u8 p11 :: .int .u8 p12 :: .int .u8 p13 :: .int .u8 p14 :: .int .u8 p15 :: .slice sw.a sw.len sw.cap :: .slice po.a po.len po.cap :: .int .i64 n18 :: .int .i64 n19 :: .int .i64 n20 :: .int .i64 n21 :: .int .i64 n22 :: .int .i64 n23 :: .int .i64 n24 :: .int .i64 n25 :: .int .i64 n26 :: .int .i64 n27 :: .int .i64 n28 :: .int .i64 n29 :: .int .i64 n30 :: .int .i64 n31 :: .int .i64 n32 :: .int .i64 n33 :: .int .i64 n34 :: .slice st.a st.len st.cap :: [])) ∧ Ext w6.drew w')) ?_
  rintro v w7 ⟨⟨c, rfl, rc'⟩, f7⟩
  have xx := xx.trans f7
  have rb := rb.ext f7
  refine ⟨rb.cell 1, ?_⟩
  refine eY (Jz (hb.ext xx) lb (Gx (by omega)) fun W hW => ⟨rc'.ext hW, (hpo.ext xx).ext hW⟩) ?_
  rintro r w8 ⟨h8, f8⟩
  have xx := xx.trans f8
  have rb := rb.ext f8
  cases r
  case true =>
    rw [cond_true, <- h5]
    exact ⟨⟨rc, h3, .inr (.inr ⟨hrc, hin, by rw [show bl.any (Uw pl n18 n19) = true from h8.symm]; rfl⟩)⟩, xx⟩
  rw [cond_false]
  simp -zeta only [List.getElem?_cons_zero, List.getElem?_cons_succ, aF, bY, rb.cell]
  refine eX (Jm (he.ext xx) le Qq fun W hW => rb.ext hW) ?_
  rintro r w9 ⟨h9, f9⟩
  have xx := xx.trans f9
  cases r
  case true =>
    rw [cond_true, <- h5]
    exact ⟨⟨rc, h3, .inr (.inr ⟨hrc, hin, by rw [show bl.any (Uw pl n18 n19) = false from h8.symm, show el.any (UL vb.len) = true from h9.symm]; rfl⟩)⟩, xx⟩
  rw [cond_false]
  rw [<- h5]
  exact ⟨⟨rc, h3, .inr (.inr ⟨hrc, hin, by rw [show bl.any (Uw pl n18 n19) = false from h8.symm, show el.any (UL vb.len) = false from h9.symm]; rfl⟩)⟩, xx⟩
end Go.Proofs
namespace Go.Proofs
end Go.Proofs
end
section
namespace Go.Proofs
open Gp
set_option maxRecDepth 100000
set_option maxHeartbeats 1000000
theorem Hu {P : Program} {f : FuncId} {fn : Func} {g : Array Value -> Sem Value} (hf : P.funcs[f]? = some fn) (hname : (fn.name == "runtime.NumGoroutine") = false) (hb : fn.body.isNone = true)
    (hn : Extern.findNext fn = none) (he : Extern.find fn = some g) {args : List Value} {w : World} {v : Value} (hg : (g ⟨args⟩).run P w = .ok v w) {K : Value -> World -> Prop} (hK : K v w) : KT P f args w K := by
  refine ⟨_, _, ?_, hK⟩
  rw [run_callFunc_extern hf hname hb hn he]
  simp only [hg]
  rfl
theorem indexByte_lt (l : List UInt8) (c : UInt8) : Lib.indexByte l c < l.length := by
  induction l with
  | nil => unfold Lib.indexByte; simp
  | cons b l ih =>
    unfold Lib.indexByte
    simp only [List.length_cons]
    split
    · omega
    · split <;> omega
theorem NG {w : World} (s : ByteArray) (c : UInt8) : gW s (bs [c]) w fun r w' => (∃ n : Nat, n <= s.size ∧ r = (n : Int)) ∧ w' = w := by
  apply yN
  rw [show (((bs [c]).size : Int) == 0) = false from rfl, cond_false, show (((bs [c]).size : Int) == 1) = true from rfl, cond_true]
  refine ⟨c, by decide, rfl, ?_⟩
  refine Hu (fn := Tryz.f99) Tryz.func99 (by kernel_rfl) (by kernel_rfl) (by kernel_rfl) (by kernel_rfl) (Lib.run_countString s (c.toNat : Int) w) ?_
  exact ⟨_, rfl, ⟨_, by
    unfold Lib.countByte
    have := List.count_le_length (a := ((c.toNat : Int).toNat.toUInt8)) (l := s.data.toList)
    rw [Lib.size_eq]
    exact this, rfl⟩, rfl⟩
theorem Dh {a b : ByteArray} (h : strEq a b = true) : a.size = b.size := by
  unfold strEq at h
  rw [Lib.toList_data, Lib.toList_data] at h
  rw [Lib.size_eq, Lib.size_eq, eq_of_beq h]
theorem LY {w : World} (s : ByteArray) (c : UInt8) : dZ s (bs [c]) w fun r w' => r < (s.size : Int) ∧ w' = w := by
  apply yK
  refine mM (K := fun r w' => r < (s.size : Int) ∧ w' = w) ?_ fun _ _ h => h
  apply mG
  intro J
  have h0 : J false := by
    show (bif false then _ else _)
    rw [cond_false, show (((bs [c]).size : Int) == 1) = true from rfl, cond_true]
    refine ⟨c, by decide, rfl, ?_⟩
    refine jY (K := fun r w' => r < (s.size : Int) ∧ w' = w) ?_ fun _ _ h => h
    apply jX
    refine Hu (fn := Tryz.f109) Tryz.func109 (by kernel_rfl) (by kernel_rfl) (by kernel_rfl) (by kernel_rfl) (Lib.run_indexByteString s (c.toNat : Int) w) ?_
    exact ⟨_, rfl, by rw [Lib.size_eq]; exact indexByte_lt _ _, rfl⟩
  rw [show (((bs [c]).size : Int) == 0) = false from rfl, cond_false]
  cases he : strEq (bs [c]) s with
  | false => exact h0
  | true =>
    show (bif true then _ else _)
    rw [cond_true]
    have := Dh he
    refine ⟨?_, rfl⟩
    rw [<- this]
    show (0 : Int) < ((1 : Nat) : Int)
    decide
abbrev eS (x : ByteArray) : List Value := [.string x]
theorem rH (x : ByteArray) : (eS x).length = 1 := rfl
theorem U_ (n : Nat) : aB [Value.string (bs [])] n = (List.replicate n (bs [])).flatMap eS := by
  induction n with
  | zero => rfl
  | succ n ih => rw [List.replicate_succ, List.flatMap_cons, <- ih]; rfl
theorem OX (xs : List ByteArray) (i : Nat) (y : ByteArray) : (xs.flatMap eS).set i (.string y) = (xs.set i y).flatMap eS := by
  induction xs generalizing i with
  | nil => rfl
  | cons x xs ih =>
    cases i with
    | zero => rfl
    | succ i =>
      have := ih i
      simp only [List.flatMap_cons, List.set_cons_succ] at this ⊢
      rw [<- this]; rfl
theorem JG (xs : List ByteArray) : (xs.flatMap eS).length = xs.length := by
  rw [jy eS 1 rH]; omega
theorem split_ok {w : World} (s : ByteArray) (c : UInt8) (hs : s.size <= 2 ^ 40) : dX s (bs [c]) w fun r w' => (∃ xs : List ByteArray, dQ 1 eS w' r xs ∧ 0 < xs.length ∧ xs.length <= s.size + 1 ∧ ∀ x ∈ xs, x.size <= 2 ^ 40) ∧ Ext w w' := by
  apply yQ
  refine uD (K := fun r w' => (∃ xs : List ByteArray, dQ 1 eS w' r xs ∧ 0 < xs.length ∧ xs.length <= s.size + 1 ∧ ∀ x ∈ xs, x.size <= 2 ^ 40) ∧ Ext w w') ?_ fun _ _ h => h
  apply uN
  rw [show ((-1 : Int) == 0) = false from rfl, cond_false, show strEq (bs [c]) (bs []) = false from by
    cases h : strEq (bs [c]) (bs []) with
    | false => rfl
    | true => exact absurd (show (1 : Nat) = 0 from Dh h) (by decide), cond_false]
  intro J
  rw [show (decide ((-1 : Int) < 0)) = true from rfl, cond_true]
  refine yI (NG s c) ?_
  rintro r w1 ⟨⟨n, hn, rfl⟩, rfl⟩
  show J _ _
  simp -zeta only [J]
  rw [wrap_i64 (by omega) (by omega), wrap_i64 (by omega) (by omega), show (if (s.size : Int) + 1 < (n : Int) + 1 then (s.size : Int) + 1 else (n : Int) + 1) = ((n + 1 : Nat) : Int) by rw [if_neg (by omega)]; rfl]
  refine Hr (by omega) (by omega) (by omega) (by omega) fun b w2 r2 e2 z2 f2 => ?_
  rw [Int.toNat_natCast, U_] at r2
  rw [Int.toNat_natCast]
  have f2 : Ext w1 w2 := f2
  intro J12
  have hJ : ∀ (x : ByteArray) (i : Nat) (W : World) (xs : List ByteArray), i < n + 1 -> xs.length = n + 1 -> x.size <= 2 ^ 40 -> (∀ y ∈ xs, y.size <= 2 ^ 40) -> Row W b (xs.flatMap eS) -> Ext w1 W -> J12 x (i : Int) W := by
    intro x i W xs hi hl hxs hys hr hx
    show iD _ _ _ _
    refine sG (o := 0) rfl (by omega) (by simp only; omega) ?_
    rw [Int.toNat_natCast, Nat.zero_add, Nat.mul_one]
    refine dF hr rfl (by rw [JG]; omega) fun W1 r1 f1 z1 => ?_
    rw [OX] at r1
    have hb : jB 1 eS W1 ⟨some ⟨b, 0, none⟩, n + 1, n + 1⟩ (xs.set i x) := by
      have := jB.row (n := 1) r1
      rwa [show (xs.set i x).length = n + 1 by simpa using hl] at this
    rw [wrap_i64 (by omega) (by omega)]
    refine EW rH (hb.sl rH (by omega)) (by omega) (by omega) (by rw [List.length_set]; omega) fun s' hs' => ?_
    refine ⟨⟨_, hs', ?_, ?_, fun y hy => ?_⟩, hx.new (f1 (· = b) rfl) fun y hy e => by omega⟩
    · simp only [List.length_drop, List.length_take, List.length_set]; omega
    · simp only [List.length_drop, List.length_take, List.length_set]; omega
    · rcases List.mem_or_eq_of_mem_set (List.mem_of_mem_take (List.mem_of_mem_drop hy)) with h | rfl
      · exact hys y h
      · exact hxs
  refine bD (fun st W => ∃ i : Nat, i <= n ∧ st.2.1 = (i : Int) ∧ st.1.size <= s.size ∧ (∃ xs : List ByteArray, xs.length = n + 1 ∧ (∀ y ∈ xs, y.size <= 2 ^ 40) ∧ Row W b (xs.flatMap eS)) ∧ Ext w1 W) (fun st _ => (n - st.2.1).toNat)
    ⟨0, by omega, rfl, Nat.le_refl _, ⟨_, by simp, fun y hy => by rw [List.eq_of_mem_replicate hy]; decide, r2⟩, f2⟩ ?_
  rintro ⟨x, i, ⟨⟩⟩ W ⟨j, hj, hi, hsz, ⟨xs, hl, hys, hr⟩, hx⟩ next hnext
  simp only at hi hsz
  subst hi
  simp -zeta only
  rw [wrap_i64 (by omega) (by omega)]
  by_cases hlt : (j : Int) < ((n + 1 : Nat) : Int) - 1
  · rw [decide_eq_true hlt, cond_true]
    refine yE (LY x c) ?_
    rintro r W1 ⟨hr1, rfl⟩
    by_cases h0 : r < 0
    · rw [decide_eq_true h0, cond_true]
      exact hJ x j _ xs (by omega) hl (by omega) hys hr hx
    · rw [decide_eq_false h0, cond_false]
      have e1 : ((bs [c]).size : Int) = 1 := rfl
      rw [e1, Int.add_zero, wrap_i64 (by omega) (by omega), wrap_i64 (by omega) (by omega)]
      refine ⟨by omega, by omega, by omega, ?_⟩
      refine sG (o := 0) rfl (by omega) (by simp only; omega) ?_
      rw [Int.toNat_natCast, Nat.zero_add, Nat.mul_one]
      refine dF hr rfl (by rw [JG]; omega) fun W2 r2 f2 z2 => ?_
      rw [OX] at r2
      refine ⟨by omega, by omega, by omega, ?_⟩
      rw [wrap_i64 (by omega) (by omega)]
      refine hnext _ _ ⟨j + 1, by omega, by simp, ?_, ⟨_, by simpa using hl, fun y hy => ?_, r2⟩, hx.new (f2 (· = b) rfl) fun y hy e => by omega⟩ (by simp only; omega)
      · simp only [ByteArray.size_extract]
        omega
      · rcases List.mem_or_eq_of_mem_set hy with h | rfl
        · exact hys y h
        · simp only [ByteArray.size_extract]; omega
  · rw [decide_eq_false hlt, cond_false]
    exact hJ x j _ xs (by omega) hl (by omega) hys hr hx
end Go.Proofs
end
