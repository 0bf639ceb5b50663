import Derived.Test.YtfpoefdigpfohaaGreatW9
section
namespace Go.Proofs
open Gp Gp.Hol
set_option maxRecDepth 100000
theorem QX {w : World} {s t : ah} {l m : List UInt8} (hs : aS w s l) (ht : aS w t m) : jF s t w fun r w' => r = decide (l = m) ∧ w' = w := by
  apply BQ
  refine iD hs (iD ht ⟨?_, rfl⟩)
  unfold strEq
  rw [ByteArray.toList_eq, ByteArray.toList_eq]
  show (l == m) = decide (l = m)
  by_cases h : l = m
  · simp [h]
  · simp [h]
theorem OZ {w : World} {x : ah} {m : List UInt8} (hx : aS w x m) (hl : m.length <= 2 ^ 46) :
    aC x w fun r w' => Buf w' r (bytesV m) ∧ (r.a = none ↔ x.a = none) ∧ (∀ S, bF w w' S) ∧ ∀ b, ah.at r b -> w.heap.size <= b := by
  apply jC
  cases hxa : x.a with
  | none =>
    simp only [Option.isNone_none, cond_true]
    have : bytesV m = [] := by have := hx.2.1; rw [hxa] at this; exact this
    exact ⟨⟨by simp [this], .inl ⟨rfl, this, rfl⟩⟩, by simp, fun S => bF.refl _ _, fun b ⟨o, h⟩ => by cases h⟩
  | some a =>
    simp only [Option.isNone_some, cond_false]
    refine RN fun b w2 r2 e2 _ f2 => ?_
    have hx2 : aS w2 x m := by
      refine ⟨hx.1, ?_, hx.2.2⟩
      have := hx.2.1
      rw [hxa] at this ⊢
      refine ⟨this.1, fun j hj => ?_⟩
      rw [<- this.2 j hj]
      have hc := this.2 j hj
      rw [List.getElem?_eq_getElem hj] at hc
      have hb : a.block < w.heap.size := by
        unfold World.cell? at hc
        cases hh : w.heap[(a.add j).block]? with
        | none => simp [hh] at hc
        | some o =>
          have := (Array.getElem?_eq_some_iff.1 hh).1
          unfold Addr.add at this
          split at this <;> exact this
      have hs := (f2 fun _ => False).same a.block hb (by simp)
      have hbl : (a.add j).block = a.block := by unfold Addr.add; split <;> rfl
      simp only [World.cell?, hbl, hs]
    refine bC (l := []) ⟨rfl, .inr ⟨b, [], rfl, rfl, by simpa [bytesV] using r2⟩⟩ hx2 (by simpa using hl) fun s' w' h1 h2 h3 h4 => ?_
    refine ⟨by simpa using h1, ⟨fun h => by have := (h4 h).2; simp at this, fun h => by simp at h⟩, fun S => (f2 S).trans h2 fun y hy ⟨o, e⟩ => ?_, fun c hc => ?_⟩
    · cases e; omega
    · rcases h3 c hc with ⟨o, e⟩ | h
      · cases e; omega
      · have := (f2 fun _ => False).size; omega
theorem wM {α : Type} {n : Nat} {f : α -> List Value} {w : World} {s : ah} {xs : List α} (hn : ∀ x, (f x).length = n) (hn0 : 0 < n) (h : xQ n f w s xs) {i : Int} {K : Addr -> Prop} {x : α} (h0 : 0 <= i) (hx : xs[i.toNat]? = some x)
    (hK : ∀ a : Addr, (∀ j v, (f x)[j]? = some v -> w.cell? (a.add j) = some v) -> K a) : dN s n i K := by
  obtain ⟨a, ha, hc⟩ := h.at_ hn hn0 hx
  have hlt := (List.getElem?_eq_some_iff.1 hx).1
  obtain ⟨sa, sl, sc⟩ := s
  simp only at ha
  subst ha
  have hl : sl = xs.length := h.len
  refine (zy ..).2 ⟨h0, by omega, hK _ fun j v hj => ?_⟩
  rw [<- hc j v hj]
  congr 1
  obtain ⟨b, o, t⟩ := a
  unfold Addr.add
  by_cases h1 : i.toNat * n = 0 <;> by_cases h2 : j = 0 <;> simp [h1, h2, Nat.add_assoc]
abbrev KP : List Kind := [.int .i64, .bool, .slice]
abbrev P3 := Int × Bool × ah × Unit
abbrev eP (x : P3) : List Value := Pq KP x
theorem gy (x : P3) : (eP x).length = 3 := rfl
theorem Hq (x : P3) : ∀ v ∈ eP x, dD v = true := by
  obtain ⟨a, b, s, ⟨⟩⟩ := x
  intro v hv
  have : (eP (a, b, s, ())).all dD = true := rfl
  exact List.all_eq_true.1 this v hv
def Vb (w : World) (x : P3) (p : Pc) : Prop := x.1 = p.1 ∧ x.2.1 = p.2.1 ∧ aS w x.2.2.1 p.2.2
structure pI (w : World) (xs : List P3) (l : List Pc) : Prop where
  len : xs.length = l.length
  at_ : ∀ (i : Nat) x p, xs[i]? = some x -> l[i]? = some p -> Vb w x p
theorem pI.get {w : World} {xs : List P3} {l : List Pc} (h : pI w xs l) {i : Nat} {x : P3} (hx : xs[i]? = some x) : ∃ p, l[i]? = some p ∧ Vb w x p := by
  have hi := (List.getElem?_eq_some_iff.1 hx).1
  have hp := List.getElem?_eq_getElem (show i < l.length by rw [<- h.len]; exact hi)
  exact ⟨_, hp, h.at_ i x _ hx hp⟩
theorem pI.ext {w w' : World} {xs : List P3} {l : List Pc} (h : pI w xs l) (hf : Ext w w') : pI w' xs l :=
  ⟨h.len, fun i x p hx hp => ⟨(h.at_ i x p hx hp).1, (h.at_ i x p hx hp).2.1, (h.at_ i x p hx hp).2.2.ext hf⟩⟩
def sH (xs : List P3) (S : Nat -> Prop) : Prop := ∀ x ∈ xs, ∀ a, x.2.2.1.a = some a -> 0 < x.2.2.1.len -> ¬ S a.block
theorem pI.fr {w w' : World} {xs : List P3} {l : List Pc} {S : Nat -> Prop} (h : pI w xs l) (hf : bF w w' S) (hs : sH xs S) : pI w' xs l :=
  ⟨h.len, fun i x p hx hp => ⟨(h.at_ i x p hx hp).1, (h.at_ i x p hx hp).2.1, (h.at_ i x p hx hp).2.2.fr hf fun a ha h0 => hs x (List.mem_of_getElem? hx) a ha (by rw [(h.at_ i x p hx hp).2.2.1]; exact h0)⟩⟩
theorem KN (a : Int) (w : World) : fC a w fun r w' => r = false ∧ w' = w := by
  apply zl
  exact ⟨by simp, rfl⟩
def OU (a b : Int) : Int := if a < b then -1 else if a > b then 1 else 0
theorem Ea (a b : Int) (w : World) : dR a b w fun r w' => r = OU a b ∧ w' = w := by
  apply wQ
  refine qN (KN _ _) ?_
  rintro r w' ⟨rfl, hw⟩
  subst hw
  refine qN (KN _ _) ?_
  rintro r w' ⟨rfl, hw⟩
  subst hw
  simp only [cond_false]
  unfold OU
  by_cases h1 : a < b
  · rw [decide_eq_true h1, cond_true, if_pos h1]; exact ⟨by trivial, by trivial⟩
  · rw [decide_eq_false h1, cond_false, if_neg h1]
    by_cases h2 : a > b
    · rw [decide_eq_true h2, cond_true, if_pos h2]; exact ⟨by trivial, by trivial⟩
    · rw [decide_eq_false h2, cond_false, if_neg h2]; exact ⟨by trivial, by trivial⟩
theorem VI {a b : Int} {w : World} {c : Nat} (hr : Row w c [.int .i64 a, .int .i64 b]) : kP ⟨some ⟨c, 0, none⟩, 2, 2⟩ w fun r w' => r = (if a ≠ 0 then a else b) ∧ w' = w := by
  apply Ey
  refine bn (fun st W => W = w ∧ (st.1 = 0 ∨ (st.1 = 1 ∧ a = 0) ∨ (st.1 = 2 ∧ a = 0 ∧ b = 0))) (fun st _ => (2 - st.1).toNat) ⟨rfl, .inl rfl⟩ ?_
  rintro ⟨i, ⟨⟩⟩ W ⟨hW, h⟩ next hnext
  subst hW
  simp only at h
  rcases h with rfl | ⟨rfl, h1⟩ | ⟨rfl, h1, h2⟩
  · rw [decide_eq_true (by simp only; decide), cond_true]
    simp only [sx]
    refine ⟨by decide, by decide, ?_⟩
    rw [show Int.toNat 0 * 1 = 0 from rfl, hr.cell]
    simp only [List.getElem?_cons_zero, aj, au]
    by_cases h : a = 0
    · rw [show (a != 0) = false by simpa using h, cond_false]
      exact hnext _ _ ⟨rfl, .inr (.inl ⟨rfl, h⟩)⟩ (by decide)
    · rw [show (a != 0) = true by simpa using h, cond_true]
      exact ⟨by rw [if_pos h], by trivial⟩
  · rw [decide_eq_true (by simp only; decide), cond_true]
    simp only [sx]
    refine ⟨by decide, by decide, ?_⟩
    rw [show Int.toNat 1 * 1 = 1 from rfl, hr.cell]
    simp only [List.getElem?_cons_zero, List.getElem?_cons_succ, aj, au]
    by_cases h : b = 0
    · rw [show (b != 0) = false by simpa using h, cond_false]
      exact hnext _ _ ⟨rfl, .inr (.inr ⟨rfl, h1, h⟩)⟩ (by decide)
    · rw [show (b != 0) = true by simpa using h, cond_true]
      exact ⟨by rw [if_neg (by simpa using h1)], by trivial⟩
  · rw [decide_eq_false (by simp only; decide), cond_false]
    exact ⟨by rw [if_neg (by simpa using h1), h2], rfl⟩
def UW (o1 l1 o2 l2 : Int) : Int := if OU o1 o2 ≠ 0 then OU o1 o2 else OU l1 l2
theorem QE {x0 y0 : Int} {x1 y1 : Bool} {x2 y2 : ah} (w : World) : wu x0 x1 x2 y0 y1 y2 w fun r w' => r = UW x0 x2.len y0 y2.len ∧ Ext w w' := by
  apply D7
  refine aK fun a w1 ra ea z1 f1 => aK fun b w2 rb eb z2 f2 => ?_
  have ra := (ra.ext f2).drew
  have rb := rb.drew
  have f := (f1.trans f2).trans (Ext.drew _)
  simp only [sx, ra.cell, rb.cell]
  refine o9 (Ea _ _ _) ?_
  rintro r w' ⟨rfl, hw⟩
  subst hw
  simp only [List.getElem?_cons_zero, List.getElem?_cons_succ, ra.cell, rb.cell, true_and]
  refine o9 (Ea _ _ _) ?_
  rintro r w' ⟨rfl, hw⟩
  subst hw
  refine aK fun c w3 rc ec z3 f3 => ?_
  refine EX (VI rc) ?_
  rintro r w' ⟨rfl, hw⟩
  subst hw
  exact ⟨rfl, f.trans f3⟩
theorem xG {x0 : Int} {x1 : Bool} {x2 : ah} (w : World) : bg x0 x1 x2 w fun r w' => r = IntKind.i64.wrap (x0 + (x2.len : Int)) ∧ Ext w w' := by
  apply wV
  refine aK fun a w1 ra ea z1 f1 => ?_
  simp only [sx, ra.cell]
  exact ⟨by trivial, f1⟩
theorem V5 {x0 y0 : Int} {x1 y1 : Bool} {x2 y2 : ah} {l m : List UInt8} {w : World} (hx : aS w x2 l) (hy : aS w y2 m) : rC x0 x1 x2 y0 y1 y2 w fun r w' => r = decide (((x0, x1, l) : Pc) = (y0, y1, m)) ∧ Ext w w' := by
  apply xY
  refine aK fun a w1 ra ea z1 f1 => aK fun b w2 rb eb z2 f2 => ?_
  have ra := ra.ext f2
  have f := f1.trans f2
  intro J
  simp -zeta only [sx, ra.cell, rb.cell]
  by_cases h1 : x0 = y0
  · rw [show (x0 == y0) = true by simpa using h1, cond_true]
    by_cases h2 : x1 = y1
    · rw [show (x1 == y1) = true by simpa using h2, cond_true]
      refine DV (QX (hx.ext f) (hy.ext f)) ?_
      rintro r w' ⟨rfl, hw⟩
      subst hw
      refine ⟨decide_eq_decide.2 ?_, f⟩
      simp [h1, h2]
    · rw [show (x1 == y1) = false by simpa using h2, cond_false]
      exact ⟨(decide_eq_false fun h => h2 (by simp only [Prod.mk.injEq] at h; exact h.2.1)).symm, f⟩
  · rw [show (x0 == y0) = false by simpa using h1, cond_false]
    exact ⟨(decide_eq_false fun h => h1 (by simp only [Prod.mk.injEq] at h; exact h.1)).symm, f⟩
theorem Vr {w : World} {s : ah} {xs : List P3} {v : Value} {p : Nat -> Bool} (hs : xQ 3 eP w s xs) (hl : s.len <= 2 ^ 62)
    (hp : ∀ (j : Nat) x W (K : Value -> World -> Prop), xs[j]? = some x -> Ext w W -> (∀ W', Ext W W' -> K (.bool (p j)) W') -> iC Tryz.prog [.one .bool] v [.agg ⟨eP x⟩] W K) :
    aW s v w fun r w' => (r >= 0 ↔ ∃ j, j < xs.length ∧ p j = true) ∧ Ext w w' := by
  apply ig
  refine bn (fun st W => ∃ j : Nat, j <= xs.length ∧ st.1 = (j : Int) ∧ Ext w W ∧ ∀ k, k < j -> p k = false) (fun st _ => (s.len - st.1).toNat) ⟨0, by omega, rfl, Ext.refl _, by simp⟩ ?_
  rintro ⟨i, ⟨⟩⟩ W ⟨j, hj, hi, hw, hm⟩ next hnext
  simp only at hi
  subst hi
  have hlen := hs.len
  by_cases hlt : (j : Int) < (s.len : Int)
  · simp only [hlt, decide_true, cond_true]
    have hx := List.getElem?_eq_getElem (show j < xs.length by omega)
    generalize xs[j] = x at hx
    refine wM gy (by omega) (hs.ext hw) (by omega) (by rw [Int.toNat_natCast]; exact hx) fun a hc => ?_
    have hp := hp j x W
    obtain ⟨x0, x1, x2, ⟨⟩⟩ := x
    have c0 : W.cell? (a.add 0) = some (.int .i64 x0) := hc 0 _ rfl
    have c1 : W.cell? (a.add 1) = some (.bool x1) := hc 1 _ rfl
    have c2 : W.cell? (a.add 2) = some (.slice x2.a x2.len x2.cap) := hc 2 _ rfl
    simp only [sx, c0, c1, c2]
    refine hp _ hx hw fun W' hf => ⟨p j, rfl, ?_⟩
    cases he : p j
    · simp only [cond_false]
      rw [wrap_i64 (by omega) (by omega)]
      refine hnext _ _ ⟨j + 1, by omega, by simp, hw.trans hf, fun k hk => ?_⟩ (by simp only; omega)
      rcases Nat.lt_or_ge k j with h | h
      · exact hm k h
      · rw [show k = j by omega]; exact he
    · simp only [cond_true]
      exact ⟨⟨fun _ => ⟨j, by omega, he⟩, fun _ => by omega⟩, hw.trans hf⟩
  · simp only [hlt, decide_false, cond_false]
    refine ⟨⟨fun h => by omega, fun ⟨k, hk, he⟩ => ?_⟩, hw⟩
    rw [hm k (by omega)] at he; cases he
theorem Pg {w : World} {s : ah} {xs : List P3} {v : Value} {p : Nat -> Bool} (hs : xQ 3 eP w s xs) (hl : s.len <= 2 ^ 62)
    (hp : ∀ (j : Nat) x W (K : Value -> World -> Prop), xs[j]? = some x -> Ext w W -> (∀ W', Ext W W' -> K (.bool (p j)) W') -> iC Tryz.prog [.one .bool] v [.agg ⟨eP x⟩] W K) :
    aQ s v w fun r w' => (r = true ↔ ∃ j, j < xs.length ∧ p j = true) ∧ Ext w w' := by
  apply gq
  refine iq (Vr hs hl hp) ?_
  rintro r w' ⟨h, hf⟩
  exact ⟨by rw [decide_eq_true_iff]; exact h, hf⟩
theorem PN {f : FuncId} {fst : Array Value} {sh : List Shape} {args : List Value} {w : World} {K : Value -> World -> Prop} (hb : iF Tryz.prog f = true) (h : wL Tryz.prog sh f (fst.toList ++ args) w K) :
    iC Tryz.prog sh (.func (.func f) fst #[]) args w K := by
  unfold iC
  simp only [hb, cond_true]
  simpa using h
theorem P5 {w : World} {s : ah} {xs : List P3} {y : P3} {vb i : Nat} (hs : gK 3 eP w s xs) (hy : Row w vb (eP y)) (hv : ∀ b, ah.at s b -> b ≠ vb) (hi : i <= xs.length) (hl : xs.length <= 2 ^ 30) :
    aX s (i : Int) ⟨some ⟨vb, 0, none⟩, 1, 1⟩ w fun r w' => gK 3 eP w' r (xs.take i ++ y :: xs.drop i) ∧ bF w w' (ah.at s) ∧ ∀ b, ah.at r b -> ah.at s b ∨ w.heap.size <= b := by
  apply iP
  have hlen := hs.len
  have hsl := hs.sl gy (by omega)
  have hcap := hsl.cap
  have hyl : xQ 3 eP w ⟨some ⟨vb, 0, none⟩, 1, 1⟩ [y] := (gK.row (xs := [y]) (f := eP) (n := 3) (by simpa using hy)).sl gy (by omega)
  refine Un gy hsl (by omega) (by omega) (by omega) fun s4 _ => ?_
  simp only
  rw [show (((1 : Nat) : Int) == 0) = false from rfl, cond_false]
  by_cases he : (i : Int) = (s.len : Int)
  · rw [show ((i : Int) == (s.len : Int)) = true by simpa using he, cond_true]
    refine xC gy hs hyl rfl (by omega) Hq (by simp only [List.length_singleton]; omega) (by simp only [List.length_singleton]; omega) fun s' w' h1 h2 h3 => ?_
    refine ⟨?_, h2, h3⟩
    rw [List.take_of_length_le (by omega), List.drop_of_length_le (by omega)]
    exact h1
  rw [show ((i : Int) == (s.len : Int)) = false by simpa using he, cond_false]
  have hi' : i < xs.length := by omega
  have hx := List.getElem?_eq_getElem hi'
  generalize xs[i] = x at hx
  obtain ⟨b, pad, ha, hc, hr⟩ : ∃ b pad, s.a = some ⟨b, 0, none⟩ ∧ s.cap * 3 = xs.length * 3 + pad.length ∧ Row w b (xs.flatMap eP ++ pad) := by
    rcases hs.mem with ⟨_, h, _⟩ | h
    · rw [h] at hi'; simp at hi'
    · exact h
  have hnb : b ≠ vb := hv b ⟨0, ha⟩
  obtain ⟨sa, sl, sc⟩ := s
  simp only at ha hc hlen hcap he
  subst ha
  subst hlen
  have lt := jh eP 3 gy (xs.take i)
  have ld := jh eP 3 gy (xs.drop i)
  have ld1 := jh eP 3 gy (xs.drop (i + 1))
  rw [List.length_take, Nat.min_eq_left (by omega)] at lt
  rw [List.length_drop] at ld ld1
  have oned : ∀ v ∈ (xs.drop i).flatMap eP, dD v = true := fun v hv => by
    obtain ⟨z, _, hz⟩ := List.mem_flatMap.1 hv
    exact Hq z v hz
  rw [wrap_i64 (n := (xs.length : Int) + ((1 : Nat) : Int)) (by omega) (by omega)]
  by_cases hg : (xs.length : Int) + ((1 : Nat) : Int) > (sc : Int)
  · rw [decide_eq_true hg, cond_true]
    refine ⟨by (try simp only); omega, by (try simp only); omega, by (try simp only); omega, ?_⟩
    rw [wrap_i64 (by omega) (by omega), show ((xs.length : Int) + ((1 : Nat) : Int)) - (i : Int) = ((xs.length + 1 - i : Nat) : Int) by omega]
    simp only [Int.toNat_natCast, Int.toNat_zero, Nat.sub_zero]
    have hsub : kX (some (⟨b, 0, none⟩ : Addr)) sc 0 3 = some ⟨b, 0, none⟩ := by
      unfold kX
      split <;> simp [Addr.add]
    rw [hsub]
    have hold : gB w (some ⟨b, 0, none⟩) (i * 3) ((xs.take i).flatMap eP) := by
      refine zH (A := []) (C := (xs.drop i).flatMap eP ++ pad) ?_ rfl lt
      rw [H9 (i := i), List.append_assoc] at hr
      exact hr
    refine Ej (m := xs.length + 1 - i) (by simp only; omega) (by simp only; omega) (by simp only; omega) hold fun c w1 hc1 r1 f1 z1 => ?_
    simp only at hc1 r1 ⊢
    rw [show i + (xs.length + 1 - i) = xs.length + 1 by omega] at hc1 r1 ⊢
    obtain ⟨k, hk⟩ : ∃ k, xs.length + 1 - i = k + 1 := ⟨xs.length - i, by omega⟩
    rw [hk] at r1
    have hsub2 : ∀ j : Nat, j < c -> kX (some (⟨w.heap.size, 0, none⟩ : Addr)) c j 3 = some ⟨w.heap.size, j * 3, none⟩ := by
      intro j hj
      unfold kX
      rw [if_neg (by omega), Option.map_some, fB, Nat.zero_add]
    refine ⟨by (try simp only); omega, by (try simp only); omega, by (try simp only); omega, ?_⟩
    simp only [Int.toNat_natCast]
    rw [hsub2 i (by omega)]
    have r1' : Row w1 w.heap.size ((xs.take i).flatMap eP ++ ([Value.int .i64 0, .bool false, .slice none 0 0] ++ (aH [Value.int .i64 0, .bool false, .slice none 0 0] k ++ aH [Value.int .i64 0, .bool false, .slice none 0 0] (c - (xs.length + 1))))) := by
      simpa [aH] using r1
    have hyl1 := hyl.ext f1
    refine lD (m := 1) (vs := eP y) (by show min (_ : Nat) _ = _; simp only; omega) (by have := hyl1.cells; simpa using this) r1' (by simp only [List.length_append, List.length_cons, List.length_nil, gy]; omega) (Hq y) fun w2 r2 f2 => ?_
    rw [<- lt, Bo (by rfl)] at r2
    rw [wrap_i64 (n := (i : Int) + ((1 : Nat) : Int)) (by omega) (by omega), show (i : Int) + ((1 : Nat) : Int) = ((i + 1 : Nat) : Int) by omega]
    refine ⟨by (try simp only); omega, by (try simp only); omega, by (try simp only); omega, ?_⟩
    simp only [Int.toNat_natCast]
    rw [hsub2 (i + 1) (by omega)]
    have hr2 := ((hr.ext f1).fr f2 (by have := hr.lt; omega)).drew
    refine ⟨by (try simp only); omega, by (try simp only); omega, by (try simp only); omega, ?_⟩
    simp only [Int.toNat_natCast]
    have hsub3 : kX (some (⟨b, 0, none⟩ : Addr)) sc i 3 = some ⟨b, i * 3, none⟩ := by
      unfold kX
      rw [if_neg (by omega), Option.map_some, fB, Nat.zero_add]
    rw [hsub3]
    have hsrc : gB w2.drew (some ⟨b, i * 3, none⟩) ((xs.length - i) * 3) ((xs.drop i).flatMap eP) := by
      refine zH (A := (xs.take i).flatMap eP) (C := pad) ?_ lt ld
      rw [H9 (i := i), List.append_assoc] at hr2
      exact hr2
    have r2' : Row w2.drew w.heap.size (((xs.take i).flatMap eP ++ eP y) ++ (aH [Value.int .i64 0, .bool false, .slice none 0 0] k ++ aH [Value.int .i64 0, .bool false, .slice none 0 0] (c - (xs.length + 1)))) := by
      rw [List.append_assoc]; exact r2.drew
    have lA : ((xs.take i).flatMap eP ++ eP y).length = (i + 1) * 3 := by rw [List.length_append, lt, gy]; omega
    have lk : (aH [Value.int .i64 0, .bool false, .slice none 0 0] k).length = ((xs.drop i).flatMap eP).length := by rw [jq, ld]; simp only [List.length_cons, List.length_nil]; omega
    refine lD (m := xs.length - i) (vs := (xs.drop i).flatMap eP) (by show min (_ : Nat) _ = _; simp only; omega) hsrc r2' (by rw [List.length_append, lA, List.length_append, lk]; omega) oned fun w3 r3 f3 => ?_
    rw [<- lA, Bo lk] at r3
    have f23 : bF w1 w3 (· = w.heap.size) := (f2.ext (Ext.drew w2)).trans f3 fun _ _ e => e
    refine ⟨⟨by simp; omega, .inr ⟨w.heap.size, aH [Value.int .i64 0, .bool false, .slice none 0 0] (c - (xs.length + 1)), rfl, ?_, ?_⟩⟩, f1.new f23 (by intro x hx e; omega) _, fun b' hb' => ?_⟩
    · rw [jq]; simp only [List.length_append, List.length_take, List.length_cons, List.length_drop, List.length_nil]; omega
    · rw [List.flatMap_append, List.flatMap_cons]
      simpa using r3
    · obtain ⟨o, e⟩ := hb'
      cases e
      exact .inr (Nat.le_refl _)
  · rw [decide_eq_false hg, cond_false]
    obtain ⟨p1, p2, hp, lp1⟩ : ∃ p1 p2, pad = p1 ++ p2 ∧ p1.length = 3 := ⟨pad.take 3, pad.drop 3, (List.take_append_drop 3 pad).symm, by rw [List.length_take]; omega⟩
    subst hp
    refine ⟨by (try simp only); omega, by (try simp only); omega, by (try simp only); omega, ?_⟩
    rw [wrap_i64 (n := (i : Int) + ((1 : Nat) : Int)) (by omega) (by omega), show (i : Int) + ((1 : Nat) : Int) = ((i + 1 : Nat) : Int) by omega]
    have hsub0 : kX (some (⟨b, 0, none⟩ : Addr)) sc 0 3 = some ⟨b, 0, none⟩ := by
      unfold kX
      split <;> simp [Addr.add]
    have hsub2 : ∀ j : Nat, j < sc -> kX (some (⟨b, 0, none⟩ : Addr)) sc j 3 = some ⟨b, j * 3, none⟩ := by
      intro j hj
      unfold kX
      rw [if_neg (by omega), Option.map_some, fB, Nat.zero_add]
    simp only [Int.toNat_zero, Nat.sub_zero, hsub0]
    refine ⟨by (try simp only); omega, by (try simp only); omega, by (try simp only); omega, ?_⟩
    simp only [Int.toNat_natCast]
    rw [hsub2 (i + 1) (by omega)]
    have hfull : xs.flatMap eP = (xs.take i).flatMap eP ++ (eP x ++ (xs.drop (i + 1)).flatMap eP) := L_ hx
    refine EU Tryz.func137 (by kernel_rfl) (by kernel_rfl) (by kernel_rfl) (tS := 180) (tR := 4) (by kernel_rfl) (e := 176) (by kernel_rfl) (by kernel_rfl) hy hr (fun e => hnb e.symm) (by
      intro h
      have := congrArg List.length h
      simp only [List.length_append, List.length_nil] at this
      omega) ?_
    refine ⟨false, rfl, ?_⟩
    rw [Bool.not_false, cond_true]
    refine ⟨by (try simp only); omega, by (try simp only); omega, by (try simp only); omega, ?_⟩
    simp only [Int.toNat_natCast]
    rw [hsub2 (i + 1) (by omega)]
    refine ⟨by (try simp only); omega, by (try simp only); omega, by (try simp only); omega, ?_⟩
    simp only [Int.toNat_natCast]
    rw [hsub2 i (by omega)]
    have hrd := hr.drew
    have hsrc : gB w.drew (some ⟨b, i * 3, none⟩) ((xs.length - i) * 3) ((xs.drop i).flatMap eP) := by
      refine zH (A := (xs.take i).flatMap eP) (C := p1 ++ p2) ?_ lt ld
      rw [H9 (i := i), List.append_assoc] at hrd
      exact hrd
    have r0 : Row w.drew b (((xs.take i).flatMap eP ++ eP x) ++ (((xs.drop (i + 1)).flatMap eP ++ p1) ++ p2)) := by
      rw [hfull] at hrd
      simpa using hrd
    have lA : ((xs.take i).flatMap eP ++ eP x).length = (i + 1) * 3 := by rw [List.length_append, lt, gy]; omega
    have lB : ((xs.drop (i + 1)).flatMap eP ++ p1).length = ((xs.drop i).flatMap eP).length := by rw [List.length_append, ld1, ld, lp1]; omega
    refine lD (m := xs.length - i) (vs := (xs.drop i).flatMap eP) (by show min (_ : Nat) _ = _; simp only; omega) hsrc r0 (by rw [List.length_append, lA, List.length_append, lB]; omega) oned fun w2 r2 f2 => ?_
    rw [<- lA, Bo lB] at r2
    refine ⟨by (try simp only); omega, by (try simp only); omega, by (try simp only); omega, ?_⟩
    simp only [Int.toNat_natCast]
    rw [hsub2 i (by omega)]
    have hy2 : Row w2 vb (eP y) := hy.drew.fr f2 (fun e => hnb e.symm)
    have hyl2 : xQ 3 eP w2 ⟨some ⟨vb, 0, none⟩, 1, 1⟩ [y] := (gK.row (xs := [y]) (f := eP) (n := 3) (by simpa using hy2)).sl gy (by omega)
    have r2' : Row w2 b ((xs.take i).flatMap eP ++ (eP x ++ ((xs.drop i).flatMap eP ++ p2))) := by simpa using r2
    refine lD (m := 1) (vs := eP y) (by show min (_ : Nat) _ = _; simp only; omega) (by have := hyl2.cells; simpa using this) r2' (by simp only [List.length_append, gy]; omega) (Hq y) fun w3 r3 f3 => ?_
    rw [<- lt, Bo (by rfl)] at r3
    have f13 : bF w w3 (· = b) := ((bF.drew w _).trans f2 fun _ _ e => e).trans f3 fun _ _ e => e
    refine ⟨⟨by simp; omega, .inr ⟨b, p2, rfl, ?_, ?_⟩⟩, f13.mono fun c hc => ⟨0, by rw [hc]⟩, fun b' hb' => .inl ?_⟩
    · simp only [List.length_append, List.length_take, List.length_cons, List.length_drop] at hc ⊢; omega
    · rw [List.flatMap_append, List.flatMap_cons]
      simpa using r3
    · obtain ⟨o, e⟩ := hb'
      exact ⟨o, e⟩
structure HAt (w : World) (h : Nat) (s : ah) (xs : List P3) (l : List Pc) (last : Int) : Prop where
  row : Row w h [.slice s.a s.len s.cap, .int .i64 (sum l), .int .i64 last, .bool true]
  buf : gK 3 eP w s xs
  qI : pI w xs l
  apart : ∀ b, ah.at s b -> b ≠ h
  free : sH xs fun b => b = h ∨ ah.at s b
theorem HAt.ext {w w' : World} {h : Nat} {s : ah} {xs : List P3} {l : List Pc} {last : Int} (H : HAt w h s xs l last) (hf : Ext w w') : HAt w' h s xs l last :=
  ⟨H.row.ext hf, H.buf.ext hf, H.qI.ext hf, H.apart, H.free⟩
theorem HAt.fr {w w' : World} {h : Nat} {s : ah} {xs : List P3} {l : List Pc} {last : Int} {S : Nat -> Prop} (H : HAt w h s xs l last) (hf : bF w w' S) (h1 : ¬ S h) (h2 : ∀ b, ah.at s b -> ¬ S b) (h3 : sH xs S) : HAt w' h s xs l last :=
  ⟨H.row.fr hf h1, H.buf.fr hf h2, H.qI.fr hf h3, H.apart, H.free⟩
theorem HAt.sl {w : World} {h : Nat} {s : ah} {xs : List P3} {l : List Pc} {last : Int} (H : HAt w h s xs l last) : xQ 3 eP w s xs := H.buf.sl gy (by omega)
theorem HAt.len {w : World} {h : Nat} {s : ah} {xs : List P3} {l : List Pc} {last : Int} (H : HAt w h s xs l last) : s.len = l.length := H.buf.len.trans H.qI.len
theorem qY {w : World} {h : Nat} {s : ah} {xs : List P3} {l : List Pc} {last : Int} (H : HAt w h s xs l last) : bK (some ⟨h, 0, none⟩) w fun r w' => r = true ∧ w' = w := by
  apply tC
  simp only [sx, Bool.not_false, H.row.cell]
  exact ⟨by trivial, by trivial⟩
theorem Sl {x0 : Int} {x1 : Bool} {x2 : ah} {b : List UInt8} {w : World} (hx : aS w x2 b) (hl : b.length <= 2 ^ 40) : mX x0 x1 x2 w fun r w' => r = may (x0, x1, b) ∧ Ext w w' := by
  apply Hz
  refine aK fun a w1 ra ea z1 f1 => ?_
  have hlen := hx.1
  unfold may
  intro J
  have hT : J true = ((4 : Int) = (if x0 < 0 ∨ (x1 = true ∧ (b.length = 0 ∨ b.length % 8 ≠ 0)) then 4 else if x0 > 65535 - (b.length : Int) then 6 else 0) ∧ Ext w w1) := by
    simp only [J, cond_true]
  have hF : J false ↔ ((if x0 > 65535 - (b.length : Int) then (6 : Int) else 0) = (if x0 < 0 ∨ (x1 = true ∧ (b.length = 0 ∨ b.length % 8 ≠ 0)) then 4 else if x0 > 65535 - (b.length : Int) then 6 else 0) ∧ Ext w w1) := by
    simp only [sx, J, ra.cell]
    rw [wrap_i64 (by (try simp only); omega) (by (try simp only); omega), hlen]
    by_cases h : x0 > 65535 - (b.length : Int)
    · rw [decide_eq_true h, cond_true, if_pos h]
    · rw [decide_eq_false h, cond_false, if_neg h]
  clear_value J
  simp -zeta only [sx, ra.cell]
  by_cases h1 : x0 < 0
  · rw [decide_eq_true h1, cond_true, hT, if_pos (.inl h1)]; exact ⟨rfl, f1⟩
  rw [decide_eq_false h1, cond_false]
  cases x1
  · rw [cond_false, hF, if_neg (c := x0 < 0 ∨ _) (by simp; omega)]; exact ⟨rfl, f1⟩
  rw [cond_true]
  by_cases h2 : b.length = 0
  · rw [show ((x2.len : Int) == 0) = true by rw [hlen, h2]; rfl, cond_true, hT, if_pos (.inr ⟨rfl, .inl h2⟩)]; exact ⟨rfl, f1⟩
  rw [show ((x2.len : Int) == 0) = false by simp; omega, cond_false]
  refine ⟨by decide, ?_⟩
  by_cases h3 : b.length % 8 = 0
  · rw [show (Int.tmod (x2.len : Int) 8 != 0) = false by rw [Int.tmod_eq_emod_of_nonneg (by omega)]; simp; omega, hF, if_neg (c := x0 < 0 ∨ _) (by omega)]; exact ⟨rfl, f1⟩
  · rw [show (Int.tmod (x2.len : Int) 8 != 0) = true by rw [Int.tmod_eq_emod_of_nonneg (by omega)]; simp; omega, hT, if_pos (.inr ⟨rfl, .inr h3⟩)]; exact ⟨rfl, f1⟩
theorem Jk {w : World} {h : Nat} {s : ah} {xs : List P3} {l : List Pc} {last : Int} (H : HAt w h s xs l last) (hl : l.length <= 2 ^ 30) {x0 : Int} {x1 : Bool} {x2 : ah} {b : List UInt8} (hx : aS w x2 b) :
    dH (some ⟨h, 0, none⟩) x0 x1 x2 w fun r w' => r = decide (((x0, x1, b) : Pc) ∈ l) ∧ Ext w w' := by
  apply wP
  refine aK fun a w1 ra ea z1 f1 => ?_
  have ra := ra.drew
  have f := f1.trans (Ext.drew w1)
  have H1 := H.ext f
  have hlen := H.len
  simp only [sx, ra.cell, H1.row.cell]
  refine f_ (Pg (p := fun j => decide (some ((x0, x1, b) : Pc) = l[j]?)) H1.sl (by simp only; omega) ?_) ?_
  · intro j x W K hxj hW hK
    obtain ⟨p, hp, h1, h2, h3⟩ := H1.qI.get hxj
    obtain ⟨y0, y1, y2, ⟨⟩⟩ := x
    obtain ⟨p0, p1, p2⟩ := p
    simp only at h1 h2 h3
    subst h1 h2
    refine PN (by kernel_rfl) ?_
    refine Calls.mono (V5 (w := W) (x0 := x0) (x1 := x1) (y0 := y0) (y1 := y1) ((hx.ext f).ext hW) (h3.ext hW)) ?_
    rintro e W' ⟨r, he, rfl, hf⟩
    refine ⟨_, he, ?_⟩
    have := hK W' hf
    rw [hp] at this
    exact (by simpa using this : K (.bool (decide (((x0, x1, b) : Pc) = (y0, y1, p2)))) W')
  · rintro r w' ⟨hr, hf⟩
    refine ⟨?_, f.trans hf⟩
    have hxl := H1.qI.len
    rw [Bool.eq_iff_iff, hr, decide_eq_true_iff, List.mem_iff_getElem?]
    constructor
    · rintro ⟨j, hj, he⟩
      exact ⟨j, (of_decide_eq_true he).symm⟩
    · rintro ⟨j, hj⟩
      have := (List.getElem?_eq_some_iff.1 hj).1
      exact ⟨j, by omega, decide_eq_true hj.symm⟩
theorem Gl {w : World} {x : ah} {b : List UInt8} (hx : aS w x b) : ((x.len : Int) == 0) = b.isEmpty := by
  rw [hx.1]
  cases b with
  | nil => rfl
  | cons a l => exact beq_eq_false_iff_ne.2 (by simp only [List.length_cons]; omega)
theorem SB {w : World} {h : Nat} {s : ah} {xs : List P3} {l : List Pc} {last : Int} (H : HAt w h s xs l last) (hl : l.length <= 2 ^ 30) (hg : ∀ p ∈ l, 0 <= p.1 ∧ pend p <= 65535) {x0 : Int} {x1 : Bool} {x2 : ah} {b : List UInt8} (hx : aS w x2 b) (h0 : 0 <= x0) (h1 : pend (x0, x1, b) <= 65535) :
    dV (some ⟨h, 0, none⟩) x0 x1 x2 w fun r w' => r = l.any (sh (x0, x1, b)) ∧ Ext w w' := by
  apply tZ
  refine aK fun a w1 ra ea z1 f1 => ?_
  have H1 := H.ext f1
  have hx1 := hx.ext f1
  have hlen := H.len
  have hxl := H.qI.len
  simp -zeta only [sx, H1.row.cell]
  refine bn (fun st W => ∃ j : Nat, j <= l.length ∧ st.1 = (j : Int) ∧ Ext w1 W ∧ (l.take j).any (sh (x0, x1, b)) = false) (fun st _ => (l.length - st.1).toNat) ⟨0, by omega, rfl, Ext.refl _, by simp⟩ ?_
  rintro ⟨i, ⟨⟩⟩ W ⟨j, hj, hi, hw, hm⟩ next hnext
  simp only at hi
  subst hi
  by_cases hlt : (j : Int) < (s.len : Int)
  · rw [decide_eq_true hlt, cond_true]
    have hxj := List.getElem?_eq_getElem (show j < xs.length by omega)
    generalize xs[j] = x at hxj
    obtain ⟨p, hp, e1, e2, e3⟩ := H1.qI.get hxj
    have hpm := List.mem_of_getElem? hp
    have hpg := hg p hpm
    have htk := List.take_add_one (l := l) (i := j)
    rw [hp] at htk
    simp only [Option.toList_some] at htk
    obtain ⟨y0, y1, y2, ⟨⟩⟩ := x
    obtain ⟨p0, p1, p2⟩ := p
    simp only at e1 e2 e3
    subst e1 e2
    intro J
    have hJ : ∀ W', Ext W W' -> sh (x0, x1, b) (y0, y1, p2) = false -> J W' := by
      intro W' hf hs
      simp only [J]
      rw [wrap_i64 (by (try simp only); omega) (by (try simp only); omega)]
      refine hnext _ _ ⟨j + 1, by omega, by simp, hw.trans hf, ?_⟩ (by simp only; omega)
      rw [htk, List.any_append, hm, List.any_cons, hs, List.any_nil]; rfl
    have hT : ∀ W', Ext W W' -> sh (x0, x1, b) (y0, y1, p2) = true -> (true = l.any (sh (x0, x1, b)) ∧ Ext w W') := by
      intro W' hf hs
      exact ⟨(List.any_eq_true.2 ⟨_, hpm, hs⟩).symm, (f1.trans hw).trans hf⟩
    clear_value J
    generalize hA : l.any (sh (x0, x1, b)) = A at hT ⊢
    refine wM gy (by omega) (H1.sl.ext hw) (by omega) (by rw [Int.toNat_natCast]; exact hxj) fun a' hc => ?_
    have c0 : W.cell? (a'.add 0) = some (.int .i64 y0) := hc 0 _ rfl
    have c1 : W.cell? (a'.add 1) = some (.bool y1) := hc 1 _ rfl
    have c2 : W.cell? (a'.add 2) = some (.slice y2.a y2.len y2.cap) := hc 2 _ rfl
    simp -zeta only [aj, aA, au, aJ, c0, c1, c2]
    refine rD rfl rfl fun t W1 rt et zt ft => ?_
    have ra := (ra.ext hw).ext ft
    have e3 := (e3.ext hw).ext ft
    have hx2 := (hx1.ext hw).ext ft
    have n1 := Gl hx2
    have n2 := Gl e3
    have hx2' := hx2.1
    have e3' := e3.1
    unfold pend at h1 hpg
    simp only at h1 hpg
    unfold sh pend at hJ hT
    simp only at hJ hT
    generalize b.isEmpty = eb at n1 hJ hT
    generalize p2.isEmpty = ep at n2 hJ hT
    simp -zeta only [sx, ra.cell, rt.cell, n1, n2]
    have rtd := rt.drew
    have rad := ra.drew
    have main : ∀ (J2 : Bool -> World -> Prop), (J2 = fun j26 w27 => bif j26 then (true = A ∧ Ext w w27) else J w27) -> eb = false -> ep = false ->
        (bg x0 x1 x2 W1.drew fun r32 w33 => w33.cell? ⟨t, 0, none⟩ = some (.int .i64 y0) ∧ (bif decide (y0 < r32) then
          (vO (.int .i64) (w33.cell? ⟨a, 0, none⟩) fun x34 => vO (.int .i64) (w33.cell? ⟨t, 0, none⟩) fun x35 => vO .bool (w33.cell? ⟨t, 1, none⟩) fun x36 => vO .slice (w33.cell? ⟨t, 2, none⟩) fun x37 =>
            bg x35 x36 x37 w33 fun r38 w39 => w39.cell? ⟨a, 0, none⟩ = some (.int .i64 x34) ∧ J2 (decide (x34 < r38)) w39) else J2 false w33)) := by
      intro J2 hJ2 he1 he2
      subst he1 he2
      refine dn (xG _) ?_
      rintro r w3 ⟨rfl, f3⟩
      have ra3 := rad.ext f3
      have rt3 := rtd.ext f3
      refine ⟨rt3.cell 0, ?_⟩
      rw [wrap_i64 (by (try simp only); omega) (by (try simp only); omega), hx2']
      simp only [List.getElem?_cons_zero, List.getElem?_cons_succ, aj, aA, au, aJ, ra3.cell, rt3.cell]
      have hd : Ext W w3 := (ft.trans (Ext.drew _)).trans f3
      by_cases g1 : y0 < x0 + (b.length : Int)
      · rw [decide_eq_true g1, cond_true]
        refine dn (xG _) ?_
        rintro r w4 ⟨rfl, f4⟩
        refine ⟨(ra3.ext f4).cell 0, ?_⟩
        rw [wrap_i64 (by simp only; omega) (by simp only; omega)]
        simp only
        rw [e3', hJ2]
        by_cases g2 : x0 < y0 + (p2.length : Int)
        · rw [decide_eq_true g2]
          exact hT _ (hd.trans f4) (by simp [g1, g2])
        · rw [decide_eq_false g2]
          exact hJ _ (hd.trans f4) (by simp [g1, g2])
      · rw [decide_eq_false g1, cond_false, hJ2]
        exact hJ _ hd (by simp [g1])
    cases eb
    · simp only [cond_false, cond_true]
      cases ep
      · simp only [cond_false]
        simp only [List.getElem?_cons_zero, List.getElem?_cons_succ, aj, aA, au, aJ, rtd.cell, rad.cell]
        exact main _ rfl rfl rfl
      · simp only [cond_true]
        exact hJ _ ft (by simp)
    · cases ep
      · simp only [cond_false, cond_true]
        exact hJ _ ft (by simp)
      · simp only [cond_true]
        by_cases g : x0 = y0
        · rw [show (x0 == y0) = true by simpa using g]
          simp only [cond_true]
          exact hT _ ft (by simp [g])
        · rw [show (x0 == y0) = false by simpa using g]
          simp only [cond_false]
          exact hJ _ ft (by simp [g])
  · rw [decide_eq_false hlt, cond_false]
    rw [List.take_of_length_le (by omega)] at hm
    exact ⟨hm.symm, f1.trans hw⟩
theorem Vd {w : World} {h : Nat} {s : ah} {xs : List P3} {l : List Pc} {last : Int} (H : HAt w h s xs l last) (hl : l.length <= 2 ^ 30) (hg : ∀ p ∈ l, 0 <= p.1 ∧ pend p <= 65535) :
    fG (some ⟨h, 0, none⟩) w fun r w' => r = far l ∧ Ext w w' := by
  apply xK
  have hlen := H.len
  have hxl := H.qI.len
  simp only [sx, H.row.cell]
  refine bn (fun st W => ∃ j : Nat, j <= l.length ∧ st.2.1 = (j : Int) ∧ Ext w W ∧ st.1 = far (l.take j)) (fun st _ => (l.length - st.2.1).toNat) ⟨0, by omega, rfl, Ext.refl _, rfl⟩ ?_
  rintro ⟨m, i, ⟨⟩⟩ W ⟨j, hj, hi, hw, hm⟩ next hnext
  simp only at hi hm
  subst hi hm
  by_cases hlt : (j : Int) < (s.len : Int)
  · rw [decide_eq_true hlt, cond_true]
    have hxj := List.getElem?_eq_getElem (show j < xs.length by omega)
    generalize xs[j] = x at hxj
    obtain ⟨p, hp, e1, e2, e3⟩ := H.qI.get hxj
    have hpg := hg p (List.mem_of_getElem? hp)
    have htk := List.take_add_one (l := l) (i := j)
    rw [hp] at htk
    simp only [Option.toList_some] at htk
    obtain ⟨y0, y1, y2, ⟨⟩⟩ := x
    obtain ⟨p0, p1, p2⟩ := p
    simp only at e1 e2 e3
    subst e1 e2
    refine wM gy (by omega) (H.sl.ext hw) (by simp only; omega) (by simp only; rw [Int.toNat_natCast]; exact hxj) fun a' hc => ?_
    have c0 : W.cell? (a'.add 0) = some (.int .i64 y0) := hc 0 _ rfl
    have c1 : W.cell? (a'.add 1) = some (.bool y1) := hc 1 _ rfl
    have c2 : W.cell? (a'.add 2) = some (.slice y2.a y2.len y2.cap) := hc 2 _ rfl
    simp only [aj, aA, au, aJ, c0, c1, c2]
    refine rD rfl rfl fun t W1 rt et zt ft => ?_
    simp only [sx, rt.cell]
    refine dn (xG _) ?_
    rintro r w3 ⟨rfl, f3⟩
    unfold pend at hpg
    simp only at hpg
    have e3' := e3.1
    rw [wrap_i64 (n := y0 + (y2.len : Int)) (by (try simp only); omega) (by (try simp only); omega), wrap_i64 (by (try simp only); omega) (by (try simp only); omega)]
    refine hnext _ _ ⟨j + 1, by omega, by simp, (hw.trans ft).trans f3, ?_⟩ (by simp only; omega)
    rw [htk]
    unfold far
    rw [List.foldl_append]
    simp only [List.foldl_cons, List.foldl_nil]
    unfold pend
    simp only
    rw [<- e3']
    split <;> omega
  · rw [decide_eq_false hlt, cond_false]
    rw [List.take_of_length_le (by omega)]
    exact ⟨rfl, hw⟩
theorem RX {w : World} {h : Nat} {s : ah} {xs : List P3} {l : List Pc} {last : Int} (H : HAt w h s xs l last) (hl : l.length <= 2 ^ 30) (hg : ∀ p ∈ l, 0 <= p.1 ∧ pend p <= 65535) {x0 : Int} {x1 : Bool} {x2 : ah} {b : List UInt8} (hx : aS w x2 b) (h0 : 0 <= x0) (h1 : pend (x0, x1, b) <= 65535) :
    eG (some ⟨h, 0, none⟩) x0 x1 x2 w fun r w' => r = fits l last (x0, x1, b) ∧ Ext w w' := by
  apply vT
  refine aK fun a w1 ra ea z1 f1 => ?_
  have H1 := H.ext f1
  have Hd := H1.ext (Ext.drew _)
  have rad := ra.drew
  have fd := f1.trans (Ext.drew _)
  have hx2 := hx.1
  unfold pend at h1
  simp only at h1
  unfold fits pend
  simp only
  simp -zeta only [sx, ra.cell, rad.cell, Hd.row.cell]
  cases x1
  · simp only [cond_false, Bool.false_eq_true, if_false]
    by_cases g : last < 0
    · rw [decide_eq_true g, cond_true]
      refine w_ (Vd Hd hl hg) ?_
      rintro r w3 ⟨rfl, f3⟩
      have ra3 := rad.ext f3
      refine ⟨ra3.cell 0, ra3.cell 1, ra3.cell 2, ?_⟩
      refine dn (xG _) ?_
      rintro r w4 ⟨rfl, f4⟩
      rw [wrap_i64 (by (try simp only); omega) (by (try simp only); omega), hx2, Bool.true_and]
      exact ⟨rfl, (fd.trans f3).trans f4⟩
    · rw [decide_eq_false g, cond_false, Bool.false_and]
      exact ⟨rfl, fd⟩
  · simp only [cond_true, if_true]
    by_cases g : last < 0
    · rw [decide_eq_true g, cond_true, Bool.true_or]
      exact ⟨rfl, fd⟩
    · rw [decide_eq_false g, cond_false, Bool.false_or]
      refine dn (xG _) ?_
      rintro r w3 ⟨rfl, f3⟩
      refine ⟨(Hd.ext f3).row.cell 2, ?_⟩
      rw [wrap_i64 (by (try simp only); omega) (by (try simp only); omega), hx2]
      exact ⟨rfl, fd.trans f3⟩
theorem TN {a b : Nat} (h : a + b <= 2 ^ 40) : IntKind.i64.wrap (lu .u64 (IntKind.u64.wrap (IntKind.i64.wrap ((a : Int) + (b : Int)))) 1) = (((a + b) / 2 : Nat) : Int) := by
  rw [wrap_i64 (n := (a : Int) + (b : Int)) (by omega) (by omega)]
  have h1 : IntKind.u64.wrap ((a : Int) + (b : Int)) = ((a + b : Nat) : Int) := by
    simp only [IntKind.wrap, IntKind.bits, IntKind.signed, Bool.false_and, Bool.false_eq_true, if_false]
    omega
  rw [h1]
  have h2 : lu .u64 ((a + b : Nat) : Int) 1 = (((a + b) / 2 : Nat) : Int) := by
    unfold lu
    have : min (1 : Int).toNat IntKind.u64.bits = 1 := rfl
    rw [this]
    rw [Int.fdiv_eq_ediv_of_nonneg _ (by decide)]
    omega
  rw [h2, wrap_i64 (by omega) (by omega)]
theorem Lu {f : FuncId} {sh : List Shape} {args : List Value} {w : World} {K : Value -> World -> Prop} (hb : iF Tryz.prog f = true) (h : wL Tryz.prog sh f args w K) :
    iC Tryz.prog sh (.func (.func f) #[] #[]) args w K := by
  unfold iC
  simp only [hb, cond_true]
  simpa using h
def EY (u : P3) (x0 : Int) (n : Nat) : Int := UW u.1 (u.2.2.1.len : Int) x0 (n : Int)
theorem JG {u : P3} {x0 : Int} {x1 : Bool} {x2 : ah} {W : World} {K : Value -> World -> Prop} (hK : ∀ W', Ext W W' -> K (.int .i64 (EY u x0 x2.len)) W') :
    iC Tryz.prog [.one (.int .i64)] (Value.func (.func 121) #[] #[]) [.agg ⟨[.int .i64 u.1, .bool u.2.1, .slice u.2.2.1.a u.2.2.1.len u.2.2.1.cap]⟩, .agg ⟨[.int .i64 x0, .bool x1, .slice x2.a x2.len x2.cap]⟩] W K := by
  refine Lu (by kernel_rfl) ?_
  refine Calls.mono (QE (x0 := u.1) (x1 := u.2.1) (x2 := u.2.2.1) (y0 := x0) (y1 := x1) (y2 := x2) W) ?_
  rintro e W' ⟨r, he, rfl, hf⟩
  exact ⟨_, he, hK W' hf⟩
theorem VT {w : World} {s : ah} {xs : List P3} (hs : xQ 3 eP w s xs) (hl : xs.length <= 2 ^ 30) {x0 : Int} {x1 : Bool} {x2 : ah}
    (mono : ∀ (i j : Nat) u v, i < j -> xs[i]? = some u -> xs[j]? = some v -> EY v x0 x2.len < 0 -> EY u x0 x2.len < 0) :
    aF s x0 x1 x2 (Value.func (.func 121) #[] #[]) w fun r _ w' =>
      (∃ i : Nat, r = (i : Int) ∧ i <= xs.length ∧ (∀ (k : Nat) u, k < i -> xs[k]? = some u -> EY u x0 x2.len < 0) ∧ ∀ (k : Nat) u, i <= k -> xs[k]? = some u -> ¬ EY u x0 x2.len < 0) ∧ Ext w w' := by
  apply dI
  refine aK fun a w1 ra ea z1 f1 => ?_
  have hlen := hs.len
  refine bn (fun st W => ∃ i j : Nat, i <= j ∧ j <= xs.length ∧ st.1 = (i : Int) ∧ st.2.1 = (j : Int) ∧ Ext w1 W ∧ (∀ (k : Nat) u, k < i -> xs[k]? = some u -> EY u x0 x2.len < 0) ∧ ∀ (k : Nat) u, j <= k -> xs[k]? = some u -> ¬ EY u x0 x2.len < 0)
    (fun st _ => (st.2.1 - st.1).toNat) ⟨0, xs.length, by omega, by omega, rfl, by simp only; omega, Ext.refl _, fun k u h => by omega, fun k u h hx => by
      have := (List.getElem?_eq_some_iff.1 hx).1; omega⟩ ?_
  rintro ⟨i', j', ⟨⟩⟩ W ⟨i, j, hij, hj, hi1, hj1, hw, hb, ha⟩ next hnext
  simp only at hi1 hj1
  subst hi1 hj1
  have Wd := hw.trans (Ext.drew W)
  have raD := ra.ext Wd
  have hsD := hs.ext (f1.trans Wd)
  simp -zeta only [TN (show i + j <= 2 ^ 40 by omega)]
  by_cases hlt : (i : Int) < (j : Int)
  · rw [decide_eq_true hlt, cond_true]
    refine ⟨by decide, ?_⟩
    have hm : (i + j) / 2 < xs.length := by omega
    have hx := List.getElem?_eq_getElem hm
    generalize xs[(i + j) / 2] = u at hx
    refine wM gy (by omega) hsD (by omega) (by rw [Int.toNat_natCast]; exact hx) fun a' hc => ?_
    have c0 : W.drew.cell? (a'.add 0) = some (.int .i64 u.1) := hc 0 _ rfl
    have c1 : W.drew.cell? (a'.add 1) = some (.bool u.2.1) := hc 1 _ rfl
    have c2 : W.drew.cell? (a'.add 2) = some (.slice u.2.2.1.a u.2.2.1.len u.2.2.1.cap) := hc 2 _ rfl
    simp -zeta only [sx, c0, c1, c2, raD.cell]
    refine JG fun W' hf => ⟨_, rfl, ?_⟩
    by_cases hg : EY u x0 x2.len < 0
    · rw [decide_eq_true hg, cond_true, wrap_i64 (by omega) (by omega)]
      refine hnext _ _ ⟨(i + j) / 2 + 1, j, by omega, hj, by simp, rfl, Wd.trans hf, fun k v hk hv => ?_, ha⟩ (by simp only; omega)
      rcases Nat.lt_or_ge k ((i + j) / 2) with h | h
      · exact mono _ _ _ _ h hv hx hg
      · have : k = (i + j) / 2 := by omega
        subst this
        rw [hx] at hv
        cases hv
        exact hg
    · rw [decide_eq_false hg, cond_false]
      refine hnext _ _ ⟨i, (i + j) / 2, by omega, by omega, rfl, rfl, Wd.trans hf, hb, fun k v hk hv hlt' => ?_⟩ (by simp only; omega)
      rcases Nat.lt_or_ge ((i + j) / 2) k with h | h
      · exact hg (mono _ _ _ _ h hx hv hlt')
      · have : k = (i + j) / 2 := by omega
        subst this
        rw [hx] at hv
        cases hv
        exact hg hlt'
  · rw [decide_eq_false hlt, cond_false]
    have : i = j := by omega
    subst this
    intro J
    by_cases hg : (i : Int) < (s.len : Int)
    · rw [decide_eq_true hg, cond_true]
      have hx := List.getElem?_eq_getElem (show i < xs.length by omega)
      generalize xs[i] = u at hx
      refine wM gy (by omega) hsD (by omega) (by rw [Int.toNat_natCast]; exact hx) fun a' hc => ?_
      have c0 : W.drew.cell? (a'.add 0) = some (.int .i64 u.1) := hc 0 _ rfl
      have c1 : W.drew.cell? (a'.add 1) = some (.bool u.2.1) := hc 1 _ rfl
      have c2 : W.drew.cell? (a'.add 2) = some (.slice u.2.2.1.a u.2.2.1.len u.2.2.1.cap) := hc 2 _ rfl
      simp -zeta only [sx, c0, c1, c2, raD.cell]
      refine JG fun W' hf => ⟨_, rfl, ?_⟩
      exact ⟨⟨i, rfl, hj, hb, ha⟩, (f1.trans Wd).trans hf⟩
    · rw [decide_eq_false hg, cond_false]
      exact ⟨⟨i, rfl, hj, hb, ha⟩, f1.trans Wd⟩
theorem Ue {o1 o2 : Int} {n1 n2 : Int} : UW o1 n1 o2 n2 < 0 ↔ o1 < o2 ∨ (o1 = o2 ∧ n1 < n2) := by
  unfold UW OU
  by_cases h1 : o1 < o2
  · simp [h1]
  · by_cases h2 : o2 < o1
    · simp [h1, h2]; omega
    · have : o1 = o2 := by omega
      subst this
      by_cases h3 : n1 < n2
      · simp [h3]
      · by_cases h4 : n2 < n1 <;> simp [h3, h4]
theorem MF {l : List Pc} (h : ∀ p ∈ l, 0 <= p.1 ∧ pend p <= 65535) : sum l <= 65535 * l.length := by
  induction l with
  | nil => simp [sum]
  | cons p l ih =>
    have h1 := h p (by simp)
    have h2 := ih fun q hq => h q (by simp [hq])
    unfold sum pend at *
    simp only [List.map_cons, List.sum_cons, List.length_cons]
    omega
theorem pI.ins {w : World} {xs : List P3} {l : List Pc} (h : pI w xs l) {i : Nat} (hi : i <= xs.length) {x : P3} {p : Pc} (hx : Vb w x p) : pI w (xs.take i ++ x :: xs.drop i) (l.take i ++ p :: l.drop i) := by
  have hlen := h.len
  refine ⟨by simp; omega, fun k y q hy hq => ?_⟩
  rcases Nat.lt_trichotomy k i with hk | hk | hk
  · rw [List.getElem?_append_left (by simp; omega), List.getElem?_take_of_lt hk] at hy hq
    exact h.at_ k y q hy hq
  · subst hk
    rw [List.getElem?_append_right (by simp; omega)] at hy hq
    rw [List.length_take, Nat.min_eq_left (by omega), Nat.sub_self] at hy
    rw [List.length_take, Nat.min_eq_left (by omega), Nat.sub_self] at hq
    cases hy; cases hq
    exact hx
  · rw [List.getElem?_append_right (by simp; omega)] at hy hq
    rw [List.length_take, Nat.min_eq_left (by omega)] at hy
    rw [List.length_take, Nat.min_eq_left (by omega)] at hq
    obtain ⟨m, hm⟩ : ∃ m, k - i = m + 1 := ⟨k - i - 1, by omega⟩
    rw [hm, List.getElem?_cons_succ, List.getElem?_drop] at hy hq
    exact h.at_ _ y q hy hq
theorem NU {l : List Pc} (hs : l.Pairwise le) {p : Pc} {i : Nat} (h1 : ∀ (k : Nat) q, k < i -> l[k]? = some q -> le q p) (h2 : ∀ (k : Nat) q, i <= k -> l[k]? = some q -> le p q) : (l.take i ++ p :: l.drop i).Pairwise le := by
  rw [List.pairwise_append, List.pairwise_cons]
  refine ⟨hs.sublist (List.take_sublist ..), ⟨fun q hq => ?_, hs.sublist (List.drop_sublist ..)⟩, fun q hq r hr => ?_⟩
  · obtain ⟨k, hk⟩ := List.getElem?_of_mem hq
    rw [List.getElem?_drop] at hk
    exact h2 _ q (by omega) hk
  · rcases List.mem_cons.1 hr with rfl | hr
    · obtain ⟨k, hk, he⟩ := List.mem_take_iff_getElem.1 hq
      exact h1 k q (by omega) (by rw [List.getElem?_eq_getElem (by omega), he])
    · have := List.take_append_drop i l ▸ hs
      exact (List.pairwise_append.1 this).2.2 q hq r hr
theorem Uk {w : World} {h : Nat} {s : ah} {xs : List P3} {l : List Pc} (H : HAt w h s xs l (bI l)) (G : Gp.Hol.Good l) (hs : l.Pairwise le) (hl : l.length <= 2 ^ 20) {off : Int} {more : Bool} {x2 : ah} {b : List UInt8} (hx : aS w x2 b) (hb : b.length <= 2 ^ 40) :
    fU (some ⟨h, 0, none⟩) off more x2 w fun r w' => r = (add l (off, more, b)).1 ∧ ∃ s' xs' l', HAt w' h s' xs' l' (bI l') ∧ l'.Perm (add l (off, more, b)).2 ∧ l'.Pairwise le ∧
      bF w w' (fun c => c = h ∨ ah.at s c) ∧ (∀ c, ah.at s' c -> ah.at s c ∨ w.heap.size <= c) ∧ ∀ x ∈ xs', x ∈ xs ∨ ∀ a, x.2.2.1.a = some a -> w.heap.size <= a.block := by
  apply wO
  have hg : ∀ p ∈ l, 0 <= p.1 ∧ pend p <= 65535 := fun p hp => ⟨(G.ok p hp).1, (G.ok p hp).2.1⟩
  have same : ∀ w', Ext w w' -> ∃ s' xs' l', HAt w' h s' xs' l' (bI l') ∧ l'.Perm l ∧ l'.Pairwise le ∧
      bF w w' (fun c => c = h ∨ ah.at s c) ∧ (∀ c, ah.at s' c -> ah.at s c ∨ w.heap.size <= c) ∧ ∀ x ∈ xs', x ∈ xs ∨ ∀ a, x.2.2.1.a = some a -> w.heap.size <= a.block :=
    fun w' hf => ⟨s, xs, l, H.ext hf, List.Perm.refl _, hs, hf _, fun c hc => .inl hc, fun x hx => .inl hx⟩
  refine dQ (qY H) ?_
  rintro r w0 ⟨rfl, hw⟩
  have hw := hw.symm
  subst hw
  rw [Bool.not_true, cond_false]
  refine rD rfl rfl fun a w1 ra ea z1 f1 => ?_
  simp -zeta only [sx, ra.cell]
  refine GI (Sl (hx.ext f1) hb) ?_
  rintro r w2 ⟨rfl, f2⟩
  have e2 := f1.trans f2
  unfold add
  by_cases hm : may (off, more, b) = 0
  case neg =>
    rw [show (may (off, more, b) != 0) = true by simpa using hm, cond_true, if_pos hm]
    exact ⟨rfl, same _ e2⟩
  rw [show (may (off, more, b) != 0) = false by simpa using hm, cond_false, if_neg (by simpa using hm)]
  obtain ⟨o0, o1, o2⟩ := GK hm
  have o0 : 0 <= off := o0
  have ra := ra.ext f2
  simp -zeta only [List.getElem?_cons_zero, List.getElem?_cons_succ, aj, aA, au, aJ, ra.cell]
  refine jV (Jk (H.ext e2) (by omega) (hx.ext e2)) ?_
  rintro r w3 ⟨rfl, f3⟩
  have e3 := e2.trans f3
  by_cases hmem : ((off, more, b) : Pc) ∈ l
  · rw [decide_eq_true hmem, cond_true, if_pos hmem]
    exact ⟨rfl, same _ e3⟩
  rw [decide_eq_false hmem, cond_false, if_neg hmem]
  have ra := ra.ext f3
  simp -zeta only [List.getElem?_cons_zero, List.getElem?_cons_succ, aj, aA, au, aJ, ra.cell]
  refine tJ (SB (H.ext e3) (by omega) hg (hx.ext e3) o0 o1) ?_
  rintro r w4 ⟨rfl, f4⟩
  have e4 := e3.trans f4
  cases hany : l.any (sh (off, more, b))
  case true =>
    rw [cond_true, if_pos rfl]
    exact ⟨rfl, same _ e4⟩
  rw [cond_false, if_neg (by simp)]
  have ra := ra.ext f4
  simp -zeta only [List.getElem?_cons_zero, List.getElem?_cons_succ, aj, aA, au, aJ, ra.cell]
  refine vN (RX (H.ext e4) (by omega) hg (hx.ext e4) o0 o1) ?_
  rintro r w5 ⟨rfl, f5⟩
  have e5 := e4.trans f5
  cases hfit : fits l (bI l) (off, more, b)
  · rw [Bool.not_false, cond_true, if_pos rfl]
    exact ⟨rfl, same _ e5⟩
  rw [Bool.not_true, cond_false, if_neg (by simp)]
  have ra := ra.ext f5
  have H5 := H.ext e5
  have Gn := G.add hm hany hfit
  have hbl := hx.1
  refine aI (OZ (hx.ext e5) (by omega)) ?_
  rintro d w6 ⟨hd, hdn, f6, hdf⟩
  have f6 : Ext w5 w6 := f6
  have ra := ra.ext f6
  have z5 := e5.size
  have z56 := f6.size
  have hra := ra.lt
  have haw : a < w5.heap.size := by have := (f2.trans ((f3.trans f4).trans f5)).size; omega
  have hd0 := aS.aV hd
  refine bM ra rfl (by simp) fun w7 ra f7 z7 => ?_
  simp only [List.set_cons_succ, List.set_cons_zero] at ra
  have e7 : Ext w w7 := (e5.trans f6).new (f7 (· = a) rfl) (by intro x hx e; omega)
  have hd7 : aS w7 d b := hd0.fr (f7 (· = a) rfl) fun a' ha' _ e => by
    have := hdf _ (hd.at_eq ha'); omega
  have e8 := e7.trans (Ext.drew w7)
  have H8 := H.ext e8
  have ra8 := ra.drew
  have hd8 : aS w7.drew d b := hd7.ext (Ext.drew _)
  have hdl : d.len = b.length := hd7.1
  have hxl := H.qI.len
  simp -zeta only [List.getElem?_cons_zero, List.getElem?_cons_succ, aj, aA, au, aJ, ra8.cell, H8.row.cell]
  have hord : ∀ {k : Nat} {u : P3} {q : Pc}, xs[k]? = some u -> l[k]? = some q -> (EY u off d.len < 0 ↔ q.1 < off ∨ (q.1 = off ∧ q.2.2.length < b.length)) := by
    intro k u q hu hq
    obtain ⟨g1, g2, g3⟩ := H.qI.at_ k u q hu hq
    unfold EY
    rw [Ue, g1, hdl]
    have := g3.1
    omega
  refine dG (VT H8.sl (by omega) ?_) ?_
  · intro i j u v hij hu hv hlt
    obtain ⟨p, hp, _⟩ := H.qI.get hu
    obtain ⟨q, hq, _⟩ := H.qI.get hv
    have hle : le p q := by
      have h1 := List.getElem?_eq_some_iff.1 hp
      have h2 := List.getElem?_eq_some_iff.1 hq
      obtain ⟨h1, rfl⟩ := h1
      obtain ⟨h2, rfl⟩ := h2
      exact List.pairwise_iff_getElem.1 hs i j h1 h2 hij
    simp only at hlt ⊢
    rw [hord hv hq] at hlt
    rw [hord hu hp]
    unfold le at hle
    omega
  rintro r _ w9 ⟨⟨i, rfl, hi, hb1, hb2⟩, f9⟩
  simp only at hb1 hb2
  have e10 := (e8.trans f9).trans (Ext.drew w9)
  have H10 := H.ext e10
  have ra10 := (ra8.ext f9).drew
  have hd10 : aS w9.drew d b := (hd8.ext f9).ext (Ext.drew _)
  simp -zeta only [List.getElem?_cons_zero, List.getElem?_cons_succ, aj, aA, au, aJ, ra10.cell, H10.row.cell]
  refine aK fun v w11 rv ev z11 f11 => ?_
  have e11 := e10.trans f11
  have H11 := H.ext e11
  have hd11 := hd10.ext f11
  refine ⟨H11.row.cell 0, ?_⟩
  have hhlt := H.row.lt
  refine iO (P5 (s := s) (y := (off, more, d, ())) H11.buf rv (fun c hc e => ?_) hi (by omega)) ?_
  · have := H.buf.lt hc
    have := e10.size
    omega
  rintro t w12 ⟨hbuf, f12, ht⟩
  have hrow12 := H11.row.fr f12 fun hc => H.apart _ hc rfl
  have hpc11 : pI w11 (xs.take i ++ (off, more, d, ()) :: xs.drop i) (l.take i ++ (off, more, b) :: l.drop i) := H11.qI.ins hi ⟨rfl, rfl, hd11⟩
  have hfree11 : sH (xs.take i ++ (off, more, d, ()) :: xs.drop i) (ah.at s) := by
    intro x hx a' ha' h0 hc
    rcases List.mem_append.1 hx with hx | hx
    · exact H.free x (List.mem_of_mem_take hx) a' ha' h0 (.inr hc)
    rcases List.mem_cons.1 hx with rfl | hx
    · have h1 := hdf _ (hd.at_eq ha')
      have h2 := H.buf.lt hc
      omega
    · exact H.free x (List.mem_of_mem_drop hx) a' ha' h0 (.inr hc)
  have hpc12 := hpc11.fr f12 hfree11
  have hne : ∀ x ∈ xs.take i ++ (off, more, d, ()) :: xs.drop i, ∀ a', x.2.2.1.a = some a' -> 0 < x.2.2.1.len -> a'.block ≠ h ∧ ¬ ah.at t a'.block := by
    intro x hx a' ha' h0
    have hlt : a'.block < w11.heap.size := by
      obtain ⟨k, hk⟩ := List.getElem?_of_mem hx
      obtain ⟨p, hp, g1, g2, g3⟩ := hpc11.get hk
      exact g3.lt ha' (by have := g3.1; omega)
    refine ⟨?_, fun hc => ?_⟩
    · rcases List.mem_append.1 hx with hx | hx
      · exact fun e => H.free x (List.mem_of_mem_take hx) a' ha' h0 (.inl e)
      rcases List.mem_cons.1 hx with rfl | hx
      · have h1 := hdf _ (hd.at_eq ha')
        omega
      · exact fun e => H.free x (List.mem_of_mem_drop hx) a' ha' h0 (.inl e)
    · rcases ht _ hc with hc | hc
      · exact hfree11 x hx a' ha' h0 hc
      · omega
  have hnt : ∀ c, ah.at t c -> c ≠ h := by
    intro c hc e
    rcases ht _ hc with hc | hc
    · exact H.apart _ hc e
    · have := e11.size; omega
  have hperm : (l.take i ++ (off, more, b) :: l.drop i).Perm (l ++ [(off, more, b)]) := by
    refine List.perm_middle.trans ?_
    rw [List.take_append_drop]
    exact (List.perm_append_singleton _ _).symm
  have hGl := Gn.perm hperm.symm
  have hsrt : (l.take i ++ (off, more, b) :: l.drop i).Pairwise le := by
    refine NU hs (fun k q hk hq => ?_) fun k q hk hq => ?_
    · have hu := List.getElem?_eq_getElem (show k < xs.length by have := (List.getElem?_eq_some_iff.1 hq).1; omega)
      have := (hord hu hq).1 (hb1 k _ hk hu)
      unfold le
      simp only
      omega
    · have hu := List.getElem?_eq_getElem (show k < xs.length by have := (List.getElem?_eq_some_iff.1 hq).1; omega)
      have := mt (hord hu hq).2 (hb2 k _ hk hu)
      unfold le
      simp only
      omega
  have hsum : sum (l.take i ++ (off, more, b) :: l.drop i) = sum l + (b.length : Int) := by
    rw [pq hperm]
    simp [sum]
  have hlast : bI (l.take i ++ (off, more, b) :: l.drop i) = if more = false then pend (off, more, b) else bI l := by
    cases hmo : more
    · rw [hmo] at hGl hperm
      rw [if_pos rfl]
      exact dO hGl.one (p := (off, false, b)) (by simp) rfl
    · rw [hmo] at hGl hperm Gn
      rw [if_neg (by simp), wS hGl.one hperm]
      by_cases hex : ∃ p ∈ l, p.2.1 = false
      · obtain ⟨p, hp, hpm⟩ := hex
        rw [dO G.one hp hpm, dO Gn.one (List.mem_append_left _ hp) hpm]
      · have h1 : ∀ p ∈ l, p.2.1 = true := fun p hp => by
          cases hpb : p.2.1
          · exact absurd ⟨p, hp, hpb⟩ hex
          · rfl
        rw [lX h1, lX fun p hp => ?_]
        rcases List.mem_append.1 hp with hp | hp
        · exact h1 p hp
        · rw [List.mem_singleton.1 hp]
  have hsl := MF hg
  have hsn := lW l
  have hsource : ∀ x ∈ xs.take i ++ (off, more, d, ()) :: xs.drop i, x ∈ xs ∨ ∀ a', x.2.2.1.a = some a' -> w.heap.size <= a'.block := by
    intro x hx
    rcases List.mem_append.1 hx with hx | hx
    · exact .inl (List.mem_of_mem_take hx)
    rcases List.mem_cons.1 hx with rfl | hx
    · exact .inr fun a' ha' => by have := hdf _ (hd.at_eq ha'); omega
    · exact .inl (List.mem_of_mem_drop hx)
  have htn : ∀ c, ah.at t c -> ah.at s c ∨ w.heap.size <= c := fun c hc => (ht c hc).imp id fun h => by have := e11.size; omega
  refine bM hrow12 rfl (by simp) fun w13 r13 f13 z13 => ?_
  simp only [List.set_cons_zero] at r13
  simp -zeta only [List.getElem?_cons_zero, List.getElem?_cons_succ, aj, au, r13.cell]
  rw [wrap_i64 (by omega) (by omega)]
  refine bM r13 rfl (by simp) fun w14 r14 f14 z14 => ?_
  simp only [List.set_cons_succ, List.set_cons_zero] at r14
  have f1214 : bF w12 w14 (· = h) := (f13 (· = h) rfl).trans (f14 (· = h) rfl) fun _ _ e => e
  have fin : ∀ (w' : World) (la : Int), Row w' h [.slice t.a t.len t.cap, .int .i64 (sum l + (x2.len : Int)), .int .i64 la, .bool true] -> bF w12 w' (· = h) -> la = bI (l.take i ++ (off, more, b) :: l.drop i) ->
      (0 : Int) = 0 ∧ ∃ s' xs' l', HAt w' h s' xs' l' (bI l') ∧ l'.Perm (l ++ [(off, more, b)]) ∧ l'.Pairwise le ∧
      bF w w' (fun c => c = h ∨ ah.at s c) ∧ (∀ c, ah.at s' c -> ah.at s c ∨ w.heap.size <= c) ∧ ∀ x ∈ xs', x ∈ xs ∨ ∀ a, x.2.2.1.a = some a -> w.heap.size <= a.block := by
    intro w' la hr hf hla
    refine ⟨rfl, t, _, _, ⟨?_, hbuf.fr hf hnt, hpc12.fr hf fun x hx a' ha' h0 e => (hne x hx a' ha' h0).1 e, hnt, fun x hx a' ha' h0 e => e.elim (hne x hx a' ha' h0).1 (hne x hx a' ha' h0).2⟩, hperm, hsrt, ?_, htn, hsource⟩
    · rw [hsum, <- hla, <- hbl]; exact hr
    · exact (e11 _).trans ((f12.mono (S' := fun c => c = h ∨ ah.at s c) fun c hc => .inr hc).trans (hf.mono fun c hc => .inl hc) fun _ _ e => e) fun _ _ e => e
  have hav : a < w9.drew.heap.size := ra10.lt
  have ra14 : Row w14 a _ := ((ra10.ext f11).fr f12 (fun hc => by have := H.buf.lt hc; omega)).fr f1214 (by omega)
  intro J
  cases hmo : more
  · rw [Bool.not_false, cond_true]
    simp -zeta only [List.getElem?_cons_zero, List.getElem?_cons_succ, aj, aA, au, aJ, ra14.cell]
    refine dn (xG _) ?_
    rintro r w15 ⟨rfl, f15⟩
    have r15 := r14.ext f15
    refine bM r15 rfl (by simp) fun w16 r16 f16 Wn => ?_
    simp only [List.set_cons_succ, List.set_cons_zero] at r16
    unfold pend at o1
    simp only at o1
    rw [wrap_i64 (by omega) (by omega)] at r16
    have res := fin w16 _ r16 ((f1214.ext f15).trans (f16 (· = h) rfl) fun _ _ e => e) (by
      rw [hlast, if_pos hmo]
      unfold pend
      simp only
      omega)
    exact ⟨by trivial, res.2⟩
  · rw [Bool.not_true, cond_false]
    have res := fin w14 _ r14 f1214 (by rw [hlast, if_neg (by rw [hmo]; simp)])
    exact ⟨by trivial, res.2⟩
theorem S_ {w : World} {h : Nat} {s : ah} {xs : List P3} {l : List Pc} {last : Int} (H : HAt w h s xs l last) : dW (some ⟨h, 0, none⟩) w fun r w' => r = sum l ∧ w' = w := by
  apply tX
  refine dQ (qY H) ?_
  rintro r w' ⟨rfl, hw⟩
  subst hw
  rw [Bool.not_true, cond_false]
  simp only [sx, H.row.cell]
  exact ⟨by trivial, by trivial⟩
def Oe (l : List Pc) (off : Int) (b : List UInt8) : Int := if ((off, true, b) : Pc) ∈ l ∨ ((off, false, b) : Pc) ∈ l then 0 else b.length
theorem TT {w : World} {h : Nat} {s : ah} {xs : List P3} {l : List Pc} {last : Int} (H : HAt w h s xs l last) (hl : l.length <= 2 ^ 30) {off : Int} {x2 : ah} {b : List UInt8} (hx : aS w x2 b) :
    eX (some ⟨h, 0, none⟩) off x2 w fun r w' => r = Oe l off b ∧ Ext w w' := by
  apply vP
  unfold Oe
  intro J
  refine dQ (qY H) ?_
  rintro r w' ⟨rfl, hw⟩
  subst hw
  rw [Bool.not_true, cond_false]
  refine jV (Jk H hl hx) ?_
  rintro r w2 ⟨rfl, f2⟩
  by_cases h1 : ((off, true, b) : Pc) ∈ l
  · rw [decide_eq_true h1, cond_true]
    simp only [J, cond_true, if_pos (Or.inl h1 : ((off, true, b) : Pc) ∈ l ∨ ((off, false, b) : Pc) ∈ l)]
    exact ⟨by trivial, f2⟩
  rw [decide_eq_false h1, cond_false]
  refine jV (Jk (H.ext f2) hl (hx.ext f2)) ?_
  rintro r w3 ⟨rfl, f3⟩
  by_cases h2 : ((off, false, b) : Pc) ∈ l
  · rw [decide_eq_true h2]
    simp only [J, cond_true, if_pos (Or.inr h2 : ((off, true, b) : Pc) ∈ l ∨ ((off, false, b) : Pc) ∈ l)]
    exact ⟨by trivial, f2.trans f3⟩
  rw [decide_eq_false h2]
  simp only [J, cond_false]
  rw [if_neg (by simp [h1, h2])]
  exact ⟨by rw [hx.1], f2.trans f3⟩
abbrev yG (l : List (Int × Int)) : List (Int × Int × Unit) := l.map fun g => (g.1, g.2, ())
theorem QB {A B : List (Int × Int)} {g : Int × Int} : (yG (A ++ g :: B))[A.length]? = some (g.1, g.2, ()) := by
  unfold yG
  rw [List.getElem?_map, List.getElem?_append_right (Nat.le_refl _), Nat.sub_self]
  rfl
theorem PX (m last : Int) (p : Pc) (l : List Pc) : gaps m (p :: l) last = (if p.1 > m then [(m, p.1)] else []) ++ gaps (max m (pend p)) l last := rfl
theorem Sj (m last : Int) : gaps m [] last = if last > m then [(m, last)] else [] := rfl
theorem P7 {f0 h : Nat} {s : ah} {xs : List P3} {l : List Pc} {last : Int} (hl : l.length <= 2 ^ 30) (hg : ∀ p ∈ l, 0 <= p.1 ∧ pend p <= 65535) :
    Bh Tryz.prog [.one (.int .i64), .one (.int .i64)] (Value.func (.func sG) #[] #[.pointer (some ⟨f0, 0, none⟩)]) (fun W => Row W f0 [.pointer (some ⟨h, 0, none⟩)] ∧ HAt W h s xs l last) (yG (gaps 0 l last)) := by
  refine ⟨by kernel_rfl, fun y w Q D hC hQ hD hy h0 => ?_⟩
  refine Calls.mono (sF (a0 := .func (.yield y) #[] #[]) (f0 := ⟨f0, 0, none⟩) (K := fun w' => Q (yG (gaps 0 l last)).length w' ∨ D w') ?_) (fun e w' h => h)
  obtain ⟨r0, H⟩ := hC _ _ h0
  have hlen := H.len
  have hxl := H.qI.len
  simp -zeta only [sx, r0.cell]
  refine dQ (qY H) ?_
  rintro r w0 ⟨rfl, hw⟩
  have hw := hw.symm
  subst hw
  rw [Bool.not_true, cond_false]
  simp -zeta only [IJ, IJ, List.getElem?_cons_zero, aj, aA, yD, r0.cell, H.row.cell]
  refine bn (fun st W => ∃ j : Nat, j <= l.length ∧ st.2.1 = (j : Int) ∧ 0 <= st.1 ∧ st.1 <= 65535 ∧ w.heap.size <= W.heap.size ∧ ∃ done, gaps 0 l last = done ++ gaps st.1 (l.drop j) last ∧ Q done.length W) (fun st _ => (l.length - st.2.1).toNat)
    ⟨0, by omega, rfl, by simp, by simp, Nat.le_refl _, [], rfl, h0⟩ ?_
  rintro ⟨m, i, ⟨⟩⟩ W ⟨j, hj, hi, hm0, hm1, hz, done, hd, hq⟩ next hnext
  simp only at hi hm0 hm1 hd
  subst hi
  obtain ⟨r0, H⟩ := hC _ _ hq
  by_cases hlt : (j : Int) < (s.len : Int)
  · rw [decide_eq_true hlt, cond_true]
    have hxj := List.getElem?_eq_getElem (show j < xs.length by omega)
    generalize xs[j] = x at hxj
    obtain ⟨p, hp, e1, e2, e3⟩ := H.qI.get hxj
    have hpg := hg p (List.mem_of_getElem? hp)
    have hdrop : l.drop j = p :: l.drop (j + 1) := by
      obtain ⟨h1, rfl⟩ := List.getElem?_eq_some_iff.1 hp
      exact List.drop_eq_getElem_cons h1
    obtain ⟨y0, y1, y2, ⟨⟩⟩ := x
    obtain ⟨p0, p1, p2⟩ := p
    simp only at e1 e2 e3
    subst e1 e2
    refine wM gy (by omega) H.sl (by simp only; omega) (by simp only; rw [Int.toNat_natCast]; exact hxj) fun a' hc => ?_
    have c0 : W.cell? (a'.add 0) = some (.int .i64 y0) := hc 0 _ rfl
    have c1 : W.cell? (a'.add 1) = some (.bool y1) := hc 1 _ rfl
    have c2 : W.cell? (a'.add 2) = some (.slice y2.a y2.len y2.cap) := hc 2 _ rfl
    simp -zeta only [aj, aA, au, aJ, c0, c1, c2]
    refine rD rfl rfl fun t W1 rt et zt ft => ?_
    have hq1 := hQ _ _ _ hq (ft _)
    have e3' := e3.1
    unfold pend at hpg
    simp only at hpg
    intro J
    have hend : ∀ (W' : World) (done' : List (Int × Int)), Row W' t [.int .i64 y0, .bool y1, .slice y2.a y2.len y2.cap] -> w.heap.size <= W'.heap.size -> gaps 0 l last = done' ++ gaps (max m (pend (y0, y1, p2))) (l.drop (j + 1)) last -> Q done'.length W' -> J false W' := by
      intro W' done' rt hz' hd' hq'
      simp only [J, cond_false]
      simp only [sx, rt.cell]
      refine dn (xG _) ?_
      rintro r W'' ⟨rfl, hf⟩
      rw [wrap_i64 (n := y0 + _) (by (try simp only); omega) (by (try simp only); omega), wrap_i64 (by omega) (by omega)]
      have hmx : (if y0 + (y2.len : Int) > m then y0 + (y2.len : Int) else m) = max m (pend (y0, y1, p2)) := by
        unfold pend
        simp only
        rw [<- e3']
        split <;> omega
      simp only
      rw [hmx]
      refine hnext _ _ ⟨j + 1, by omega, by simp, ?_, ?_, Nat.le_trans hz' hf.size, done', hd', hQ _ _ _ hq' (hf _)⟩ (by simp only; omega)
      · simp only; omega
      · unfold pend; simp only; omega
    have hTr : ∀ W', D W' -> J true W' := by
      intro W' hd'
      simp only [J, cond_true]
      exact .inr hd'
    clear_value J
    rw [hdrop] at hd
    simp -zeta only [List.getElem?_cons_zero, aj, au, rt.cell]
    rw [PX] at hd
    simp only at hd
    by_cases hgt : y0 > m
    · rw [if_pos hgt] at hd
      rw [decide_eq_true hgt, cond_true]
      simp only [List.cons_append, List.nil_append] at hd
      refine kD (hy done.length (m, y0, ()) W1 _ (by rw [hd]; exact QB) hq1 ?_ ?_)
      · intro W' hq' hf'
        refine ⟨true, rfl, ?_⟩
        rw [Bool.not_true]
        exact hend W' (done ++ [(m, y0)]) (rt.fr hf' (by omega)) (by have := hf'.size; omega) (by rw [hd]; simp) (by simpa using hq')
      · intro W' hd' hf'
        exact ⟨false, rfl, hTr W' hd'⟩
    · rw [if_neg hgt, List.nil_append] at hd
      rw [decide_eq_false hgt, cond_false]
      exact hend W1 done rt (by have := (ft fun _ => False).size; omega) hd hq1
  · rw [decide_eq_false hlt, cond_false]
    have : j = l.length := by omega
    subst this
    rw [List.drop_length] at hd
    simp only [sx, r0.cell, H.row.cell]
    rw [Sj] at hd
    by_cases hgt : last > m
    · rw [if_pos hgt] at hd
      rw [decide_eq_true hgt, cond_true]
      refine kD (hy done.length (m, last, ()) W _ (by rw [hd]; exact QB) hq ?_ ?_)
      · intro W' hq' hf'
        refine ⟨true, rfl, .inl ?_⟩
        rw [hd]
        simpa using hq'
      · intro W' hd' hf'
        exact ⟨false, rfl, .inr hd'⟩
    · rw [if_neg hgt] at hd
      rw [decide_eq_false hgt, cond_false]
      refine .inl ?_
      rw [hd]
      simpa using hq
theorem UZ {w : World} {h : Nat} {s : ah} {xs : List P3} {l : List Pc} {last : Int} (H : HAt w h s xs l last) (hl : l.length <= 2 ^ 30) (hg : ∀ p ∈ l, 0 <= p.1 ∧ pend p <= 65535) :
    eF (some ⟨h, 0, none⟩) w fun v w' => Ext w w' ∧ ∃ f0, w.heap.size <= f0 ∧ Row w' f0 [.pointer (some ⟨h, 0, none⟩)] ∧
      Bh Tryz.prog [.one (.int .i64), .one (.int .i64)] v (fun W => Row W f0 [.pointer (some ⟨h, 0, none⟩)] ∧ HAt W h s xs l last) (yG (gaps 0 l last)) := by
  apply vH
  refine ⟨rfl, aK fun a w1 ra ea z1 f1 => ?_⟩
  exact ⟨f1, a, by omega, ra, P7 hl hg⟩
theorem UJ {w : World} {h : Nat} {s : ah} {xs : List P3} {l : List Pc} (H : HAt w h s xs l (bI l)) (G : Gp.Hol.Good l) (hl : l.length <= 2 ^ 20) :
    eH (some ⟨h, 0, none⟩) w fun r ok w' => ((ok = true ∧ 0 <= bI l ∧ gaps 0 l (bI l) = [] ∧ aS w' r (cat l) ∧ ∀ a, r.a = some a -> w.heap.size <= a.block) ∨ (ok = false ∧ (bI l < 0 ∨ gaps 0 l (bI l) ≠ []) ∧ aS w' r [])) ∧ Ext w w' := by
  apply vI
  have hg : ∀ p ∈ l, 0 <= p.1 ∧ pend p <= 65535 := fun p hp => ⟨(G.ok p hp).1, (G.ok p hp).2.1⟩
  have hsl := MF hg
  have hsn := lW l
  refine aK fun a w1 ra ea z1 f1 => aK fun b w2 rb eb z2 f2 => ?_
  have ra := ra.ext f2
  have f := f1.trans f2
  have H2 := H.ext f
  intro J
  have hT : bI l < 0 -> J true w2 := by
    intro hneg
    simp only [J, cond_true]
    refine bM ra rfl (by simp) fun w3 ra3 g3 z3 => ?_
    simp only [List.set_cons_zero] at ra3
    have rb3 := rb.fr (g3 (· = a) rfl) (by omega)
    refine bM rb3 rfl (by simp) fun w4 rb4 g4 z4 => ?_
    simp only [List.set_cons_zero] at rb4
    have ra4 := ra3.fr (g4 (· = b) rfl) (by omega)
    simp only [sx, ra4.cell, rb4.cell]
    exact ⟨.inr ⟨by trivial, .inl hneg, aS.nil⟩, f.new (S := fun x => x = a ∨ x = b) ((g3 _ (.inl rfl)).trans (g4 _ (.inr rfl)) fun _ _ e => e) (by intro x hx e; rcases e with rfl | rfl <;> omega)⟩
  have hF : 0 <= bI l -> J false w2 := by
    intro hpos
    simp only [J, cond_false]
    clear hT
    refine vU (UZ H2 (by omega) hg) ?_
    rintro v w3 ⟨f3, f0, hf0, rf, hv⟩
    have ra3 := ra.ext f3
    have rb3 := rb.ext f3
    have e3 := f.trans f3
    have hrf := rf.lt
    have hra := ra.lt
    have hrb := rb.lt
    have z3 := f3.size
    have lq : ji none w3 = w3.heap.size + 1 := rfl
    have hh := H.row.lt
    refine Pn hv (fun i W => i = 0 ∧ Row W a [.slice none 0 0] ∧ Row W b [.bool false] ∧ Row W f0 [.pointer (some ⟨h, 0, none⟩)] ∧ HAt W h s xs l (bI l) ∧ Ext w W)
      (fun e W => e = .ret ∧ gaps 0 l (bI l) ≠ [] ∧ Row W a [.slice none 0 0] ∧ Row W b [.bool false] ∧ Ext w W) (by simp) ?_ ?_ ?_ ?_ ?_ ?_ ?_ ?_ ?_
    · exact fun W hx _ => ⟨rfl, ra3.ext hx, rb3.ext hx, rf.ext hx, (H2.ext f3).ext hx, e3.trans hx⟩
    · exact fun i W hI => ⟨hI.2.2.2.1, hI.2.2.2.2.1⟩
    · rintro i W W' ⟨h1, h2, h3, h4, h5, h6⟩ hf
      rw [lq] at hf
      exact ⟨h1, h2.fr hf (by omega), h3.fr hf (by omega), h4.fr hf (by omega), h5.fr hf (by omega) (fun c hc => by have := H.buf.lt hc; have := e3.size; omega) (fun x hx a' ha' h0 hc => by
        obtain ⟨k, hk⟩ := List.getElem?_of_mem hx
        obtain ⟨p, hp, g1, g2, g3⟩ := H.qI.get hk
        have := g3.lt ha' (by have := g3.1; omega)
        have := e3.size; omega), h6.new hf fun x hx e => by have := e3.size; omega⟩
    · rintro e W W' ⟨h1, h2, h3, h4, h5⟩ hf
      rw [lq] at hf
      exact ⟨h1, h2, h3.fr hf (by omega), h4.fr hf (by omega), h5.new hf fun x hx e => by have := e3.size; omega⟩
    · exact fun e W hJ => .inl hJ.1
    · rintro i x W Kb hx ⟨rfl, h2, h3, h4, h5, h6⟩ hlt hn hj
      rw [lq] at hlt hn hj ⊢
      refine ⟨by trivial, ?_⟩
      have fb := bF.aZ W (w3.heap.size + 1)
      have k2 := h2.fr fb (by omega)
      have k3 := h3.fr fb (by omega)
      have k6 : Ext w (aZ W (w3.heap.size + 1)) := h6.new fb fun x hx e => by have := e3.size; omega
      refine bM k2 rfl (by simp) fun w4 ra4 g4 z4 => ?_
      simp only [List.set_cons_zero] at ra4
      have rb4 := k3.fr (g4 (· = a) rfl) (by omega)
      refine bM rb4 rfl (by simp) fun w5 rb5 g5 z5 => ?_
      simp only [List.set_cons_zero] at rb5
      have ra5 := ra4.fr (g5 (· = b) rfl) (by omega)
      have g45 : bF (aZ W (w3.heap.size + 1)) w5 (fun x => x = a ∨ x = b) := (g4 _ (.inl rfl)).trans (g5 _ (.inr rfl)) fun _ _ e => e
      refine hj .ret w5 (fun x => x = a ∨ x = b) g45 (by intro x e; rcases e with rfl | rfl <;> omega) ⟨rfl, fun he => ?_, ra5, rb5, k6.new g45 (by intro x hx e; rcases e with rfl | rfl <;> omega)⟩
      rw [he] at hx
      cases hx
    · rintro W ⟨hi, h2, h3, h4, h5, h6⟩ hm
      have hm := hm rfl
      have hnil : gaps 0 l (bI l) = [] := by
        have : (gaps 0 l (bI l)).length = 0 := by simpa [yG] using hi
        exact List.length_eq_zero_iff.1 this
      have hmlt := (Array.getElem?_eq_some_iff.1 hm).1
      simp only [sx, h5.row.cell]
      refine KR (by omega) (by omega) (by omega) (by omega) fun c W1 rc ec zc fc => ?_
      have H1 := h5.ext fc
      simp only [List.getElem?_cons_zero, aj, aA, H1.row.cell]
      have hlen := H.len
      have hxl := H.qI.len
      have hb0 : Buf W1 ⟨some ⟨c, 0, none⟩, 0, (sum l).toNat⟩ (bytesV []) := ⟨rfl, .inr ⟨c, aH [Value.int .u8 0] (sum l).toNat, rfl, by simp only [jq, bytesV, List.map_nil, List.length_nil, List.length_cons]; omega, by simpa [bytesV] using rc⟩⟩
      refine bn (fun st W' => ∃ j : Nat, j <= l.length ∧ st.2.1 = (j : Int) ∧ Ext W W' ∧ Buf W' st.1 (bytesV (cat (l.take j))) ∧ ∀ x, ah.at st.1 x -> W.heap.size <= x) (fun st _ => (l.length - st.2.1).toNat)
        ⟨0, by omega, rfl, fc, by simpa [cat] using hb0, fun x hx => by obtain ⟨o, e⟩ := hx; cases e; omega⟩ ?_
      rintro ⟨t, i', ⟨⟩⟩ W2 ⟨j, hj, hi', fW, hbuf, hat⟩ next hnext
      simp only at hi' hbuf hat
      subst hi'
      by_cases hlt : (j : Int) < (s.len : Int)
      · rw [decide_eq_true hlt, cond_true]
        have hxj := List.getElem?_eq_getElem (show j < xs.length by omega)
        generalize xs[j] = x at hxj
        have Hj := h5.ext fW
        obtain ⟨p, hp, e1, e2, e3⟩ := Hj.qI.get hxj
        obtain ⟨y0, y1, y2, ⟨⟩⟩ := x
        obtain ⟨p0, p1, p2⟩ := p
        simp only at e1 e2 e3
        subst e1 e2
        refine wM gy (by omega) Hj.sl (by simp only; omega) (by simp only; rw [Int.toNat_natCast]; exact hxj) fun a' hc => ?_
        have c0 : W2.cell? (a'.add 0) = some (.int .i64 y0) := hc 0 _ rfl
        have c1 : W2.cell? (a'.add 1) = some (.bool y1) := hc 1 _ rfl
        have c2 : W2.cell? (a'.add 2) = some (.slice y2.a y2.len y2.cap) := hc 2 _ rfl
        simp only [aj, aA, au, aJ, c0, c1, c2]
        refine rD rfl rfl fun u W3 ru eu zu fu => ?_
        simp only [sx, ru.cell]
        have htk := Gp.Hol.take_snoc' hp
        have hs1 := MF (l := l.take (j + 1)) fun q hq => hg q (List.mem_of_mem_take hq)
        rw [List.length_take, Nat.min_eq_left (by omega), htk, <- Ia, LU, List.length_append] at hs1
        simp only at hs1
        refine bC (hbuf.ext fu) (e3.ext fu) (by omega) fun s' W4 h1 h2 h3 _ => ?_
        rw [wrap_i64 (by (try simp only); omega) (by (try simp only); omega)]
        refine hnext _ _ ⟨j + 1, by omega, by simp, (fW.trans fu).new h2 fun x hx hc => ?_, ?_, ?_⟩ (by simp only; omega)
        · have := hat x hc; omega
        · rw [htk, LU]; exact h1
        · intro x hx
          rcases h3 x hx with h | h
          · exact hat x h
          · have := (fW.trans fu).size; omega
      · rw [decide_eq_false hlt, cond_false]
        have : j = l.length := by omega
        subst this
        rw [List.take_length] at hbuf
        have r1 := h2.ext fW
        have r2 := h3.ext fW
        refine bM r1 rfl (by simp) fun w4 ra4 g4 z4 => ?_
        simp only [List.set_cons_zero] at ra4
        have rb4 := r2.fr (g4 (· = a) rfl) (by omega)
        refine bM rb4 rfl (by simp) fun w5 rb5 g5 z5 => ?_
        simp only [List.set_cons_zero] at rb5
        have ra5 := ra4.fr (g5 (· = b) rfl) (by omega)
        have g45 : bF W2 w5 (fun x => x = a ∨ x = b) := (g4 _ (.inl rfl)).trans (g5 _ (.inr rfl)) fun _ _ e => e
        have hza := h2.lt
        have hzb := h3.lt
        refine ⟨?_, ?_⟩
        · rw [<- hm, <- (fW fun _ => False).same w3.heap.size hmlt (by simp)]
          exact g45.same _ (by have := fW.size; omega) (by intro e; rcases e with e | e <;> omega)
        · have fp := bF.nT w5 w3.heap.size (.deferred none)
          have q1 := ra5.fr fp (by omega)
          have q2 := rb5.fr fp (by omega)
          simp only [List.getElem?_cons_zero, aj, aA, aJ, q1.cell, q2.cell]
          have hb2 : aS (w5.putObj w3.heap.size (.deferred none)) t (cat l) := by
            refine ((aS.aV hbuf).fr g45 fun a' ha' _ e => ?_).fr fp fun a' ha' _ e => ?_
            · have := hat _ (hbuf.at_eq ha'); rcases e with e | e <;> omega
            · have := hat _ (hbuf.at_eq ha'); omega
          exact ⟨.inl ⟨by trivial, hpos, hnil, hb2, fun a' ha' => by have := hat _ (hbuf.at_eq ha'); have := h6.size; omega⟩, (((h6.trans fW).new g45 (by intro x hx e; rcases e with rfl | rfl <;> omega))).new fp fun x hx e => by have := e3.size; omega⟩
    · rintro W ⟨_, hne, h3, h4, h5⟩ hm
      have hm := hm rfl
      have hmlt := (Array.getElem?_eq_some_iff.1 hm).1
      refine ⟨hm, ?_⟩
      have fp := bF.nT W w3.heap.size (.deferred none)
      have q1 := h3.fr fp (by omega)
      have q2 := h4.fr fp (by omega)
      simp only [sx, q1.cell, q2.cell]
      exact ⟨.inr ⟨by trivial, .inr hne, aS.nil⟩, h5.new fp fun x hx e => by have := e3.size; omega⟩
    · rintro id W ⟨h1, _⟩
      cases h1
  clear_value J
  refine dQ (qY H2) ?_
  rintro r w0 ⟨rfl, hw⟩
  have hw := hw.symm
  subst hw
  rw [Bool.not_true, cond_false]
  simp -zeta only [sx, H2.row.cell]
  by_cases hneg : bI l < 0
  · rw [decide_eq_true hneg]; exact hT hneg
  · rw [decide_eq_false hneg]; exact hF (by omega)
structure Tt (w : World) (x : Nat) (t : ah) (ys : List P3) (L : List Pc) : Prop where
  row : Row w x [.slice t.a t.len t.cap]
  buf : gK 3 eP w t ys
  qI : pI w ys L
  apart : ∀ b, ah.at t b -> b ≠ x
  free : sH ys fun b => b = x
theorem Tt.ext {w w' : World} {x : Nat} {t : ah} {ys : List P3} {L : List Pc} (R : Tt w x t ys L) (hf : Ext w w') : Tt w' x t ys L := ⟨R.row.ext hf, R.buf.ext hf, R.qI.ext hf, R.apart, R.free⟩
theorem Tt.fr {w w' : World} {x : Nat} {t : ah} {ys : List P3} {L : List Pc} {S : Nat -> Prop} (R : Tt w x t ys L) (hf : bF w w' S) (h1 : ¬ S x) (h2 : ∀ b, ah.at t b -> ¬ S b) (h3 : sH ys S) : Tt w' x t ys L :=
  ⟨R.row.fr hf h1, R.buf.fr hf h2, R.qI.fr hf h3, R.apart, R.free⟩
theorem Tt.sl {w : World} {x : Nat} {t : ah} {ys : List P3} {L : List Pc} (R : Tt w x t ys L) : xQ 3 eP w t ys := R.buf.sl gy (by omega)
theorem Tt.len {w : World} {x : Nat} {t : ah} {ys : List P3} {L : List Pc} (R : Tt w x t ys L) : t.len = L.length := R.buf.len.trans R.qI.len
theorem V_ {b : Nat} (h : ah.at ⟨none, 0, 0⟩ b) : False := by obtain ⟨o, h⟩ := h; cases h
theorem Vo (w : World) : pI w [] [] := ⟨rfl, fun i x p hx => by cases hx⟩
theorem Uw (S : Nat -> Prop) : sH [] S := fun x hx => by cases hx
theorem Ut (w : World) : ny w fun v w' => ∃ h, v = some ⟨h, 0, none⟩ ∧ h = w.heap.size ∧ w'.heap.size = h + 1 ∧ HAt w' h ⟨none, 0, 0⟩ [] [] (bI []) ∧ Ext w w' := by
  apply Hy
  refine aK fun a w1 ra ea z1 f1 => ?_
  exact ⟨a, rfl, ea, z1, ⟨ra, gK.nil, Vo _, fun b hb => (V_ hb).elim, Uw _⟩, f1⟩
theorem HAt.old {w w' : World} {h v : Nat} {s : ah} {xs : List P3} {l : List Pc} {last : Int} (H : HAt w h s xs l last) {w1 : World} (hx : Ext w w1) (hv : w.heap.size <= v) (hf : bF w1 w' (· = v)) : HAt w' h s xs l last :=
  (H.ext (hx.new hf fun b hb e => by omega))
structure Both (n0 : Nat) (w : World) (h : Nat) (s : ah) (xs : List P3) (l : List Pc) (x : Nat) (t : ah) (ys : List P3) (L : List Pc) : Prop where
  H : HAt w h s xs l (bI l)
  R : Tt w x t ys L
  G : Gp.Hol.Good l
  srt : l.Pairwise le
  perm : l.Perm L
  n1 : n0 <= h
  n2 : n0 <= x
  n3 : ∀ b, ah.at s b -> n0 <= b
  hx : h ≠ x
  sx : ¬ ah.at s x
  th : ¬ ah.at t h
  st : ∀ b, ah.at s b -> ¬ ah.at t b
  fx : sH xs (· = x)
  fy : sH ys fun b => b = h ∨ ah.at s b
theorem Both.GL {n0 : Nat} {w : World} {h : Nat} {s : ah} {xs : List P3} {l : List Pc} {x : Nat} {t : ah} {ys : List P3} {L : List Pc} (B : Both n0 w h s xs l x t ys L) : Gp.Hol.Good L := B.G.perm B.perm
theorem Both.ext {n0 : Nat} {w w' : World} {h : Nat} {s : ah} {xs : List P3} {l : List Pc} {x : Nat} {t : ah} {ys : List P3} {L : List Pc} (B : Both n0 w h s xs l x t ys L) (hf : Ext w w') : Both n0 w' h s xs l x t ys L :=
  ⟨B.H.ext hf, B.R.ext hf, B.G, B.srt, B.perm, B.n1, B.n2, B.n3, B.hx, B.sx, B.th, B.st, B.fx, B.fy⟩
end Go.Proofs
end
section
namespace Go.Proofs
open Gp Gp.Hol Gp.Jn
set_option maxRecDepth 100000
abbrev yM (k : ByteArray) : Value := .string k
structure BR where
  b : Nat
  h : Nat
  s : ah
  xs : List P3
  l : List Pc
abbrev JE := BR × Bf
def Pz (e : JE) : Value := .pointer (some ⟨e.1.b, 0, none⟩)
def xE (r : BR) (z : Nat) : Prop := z = r.b ∨ z = r.h ∨ ah.at r.s z ∨ ∃ x ∈ r.xs, ∃ a : Addr, x.2.2.1.a = some a ∧ 0 < x.2.2.1.len ∧ a.block = z
structure Gs (w : World) (e : JE) : Prop where
  row : Row w e.1.b [.pointer (some ⟨e.1.h, 0, none⟩), .int .i64 e.2.since, .string e.2.head, .bool e.2.begun]
  H : HAt w e.1.h e.1.s e.1.xs e.1.l (bI e.1.l)
  G : Gp.Hol.Good e.1.l
  srt : e.1.l.Pairwise le
  perm : e.1.l.Perm e.2.L
  ne : e.1.b ≠ e.1.h ∧ (¬ ah.at e.1.s e.1.b) ∧ sH e.1.xs (· = e.1.b)
theorem Gs.fr {w w' : World} {e : JE} {S : Nat -> Prop} (h : Gs w e) (hf : bF w w' S) (hs : ∀ z, xE e.1 z -> ¬ S z) : Gs w' e :=
  ⟨h.row.fr hf (hs _ (.inl rfl)), h.H.fr hf (hs _ (.inr (.inl rfl))) (fun b hb => hs b (.inr (.inr (.inl hb)))) (fun x hx a ha h0 => hs _ (.inr (.inr (.inr ⟨x, hx, a, ha, h0, rfl⟩)))), h.G, h.srt, h.perm, h.ne⟩
theorem Gs.ext {w w' : World} {e : JE} (h : Gs w e) (hf : Ext w w') : Gs w' e := h.fr (hf fun _ => False) fun _ _ => by simp
theorem Gs.lt {w : World} {e : JE} (h : Gs w e) {z : Nat} (hz : xE e.1 z) : z < w.heap.size := by
  rcases hz with rfl | rfl | hz | ⟨x, hx, a, ha, h0, rfl⟩
  · exact h.row.lt
  · exact h.H.row.lt
  · exact h.H.buf.lt hz
  · obtain ⟨i, hi⟩ := List.getElem?_of_mem hx
    obtain ⟨p, hp, _, _, hs⟩ := h.H.qI.get hi
    exact hs.lt ha (by rw [<- hs.1]; exact h0)
structure FV (w : World) (t m : Nat) (many bytes wait : Int) (rs : List (Key × JE)) : Prop where
  row : Row w t [.map (some m), .int .i64 many, .int .i64 bytes, .int .i64 wait]
  map : nX yM Pz w m rs
  bufs : ∀ e ∈ rs, Gs w e.2
  dis : rs.Pairwise fun e e' => ∀ z, xE e.2.1 z -> ¬ xE e'.2.1 z
  apart : ∀ e ∈ rs, ∀ z, xE e.2.1 z -> z ≠ t ∧ z ≠ m
  tm : t ≠ m
  nodup : (rs.map (·.1)).Nodup
def iM (rs : List (Key × JE)) : JT := rs.map fun e => (e.1, e.2.2)
theorem FV.fr {w w' : World} {t m : Nat} {many bytes wait : Int} {rs : List (Key × JE)} {S : Nat -> Prop} (h : FV w t m many bytes wait rs) (hf : bF w w' S) (h1 : ¬ S t) (h2 : ¬ S m) (h3 : ∀ e ∈ rs, ∀ z, xE e.2.1 z -> ¬ S z) : FV w' t m many bytes wait rs :=
  ⟨h.row.fr hf h1, h.map.fr hf h2, fun e he => (h.bufs e he).fr hf (h3 e he), h.dis, h.apart, h.tm, h.nodup⟩
theorem FV.ext {w w' : World} {t m : Nat} {many bytes wait : Int} {rs : List (Key × JE)} (h : FV w t m many bytes wait rs) (hf : Ext w w') : FV w' t m many bytes wait rs := h.fr (hf fun _ => False) (by simp) (by simp) (fun _ _ _ _ => by simp)
theorem LK (rs : List (Key × JE)) (h : ∀ e ∈ rs, e.2.1.l.Perm e.2.2.L) : yY (iM rs) = (rs.map fun e => sum e.2.1.l).sum := by
  unfold yY iM
  rw [List.map_map]
  congr 1
  refine List.map_congr_left fun e he => ?_
  simp only [Function.comp]
  exact (pq (h e he)).symm
theorem F6 {γ : Type} (f : γ -> Int) : ∀ {L : List γ} {i : Nat} {x : γ}, L[i]? = some x -> (L.map f).sum = f x + ((L.eraseIdx i).map f).sum
  | [], _, _, h => by simp at h
  | y :: L, 0, x, h => by
    rw [List.getElem?_cons_zero] at h
    cases h
    simp
  | y :: L, i + 1, x, h => by
    rw [List.getElem?_cons_succ] at h
    rw [List.eraseIdx_cons_succ, List.map_cons, List.map_cons, List.sum_cons, List.sum_cons, F6 f h]
    omega
section
variable {rs : List (Key × JE)} {k : Key} {e' : JE}
theorem Dw (hn : (rs.map (·.1)).Nodup) {x : Key × JE} (h : x ∈ zV rs k e') : x = (k, e') ∨ (x ∈ rs ∧ x.1 ≠ k) := by
  induction rs with
  | nil => simp [zV] at h; exact .inl h
  | cons y l ih =>
    rw [List.map_cons, List.nodup_cons] at hn
    unfold zV at h
    by_cases hk : k = y.1
    · rw [if_pos hk] at h
      rcases List.mem_cons.1 h with h | h
      · exact .inl h
      · exact .inr ⟨List.mem_cons_of_mem _ h, fun e => hn.1 (by rw [<- hk, <- e]; exact List.mem_map_of_mem h)⟩
    · rw [if_neg hk] at h
      rcases List.mem_cons.1 h with h | h
      · exact .inr ⟨by rw [h]; exact List.mem_cons_self .., by rw [h]; exact fun e => hk e.symm⟩
      · rcases ih hn.2 h with g | ⟨g1, g2⟩
        · exact .inl g
        · exact .inr ⟨List.mem_cons_of_mem _ g1, g2⟩
theorem uM (hn : (rs.map (·.1)).Nodup) {x : Key × JE} (h : x ∈ oP rs k) : x ∈ rs ∧ x.1 ≠ k := by
  induction rs with
  | nil => simp [oP] at h
  | cons y l ih =>
    rw [List.map_cons, List.nodup_cons] at hn
    unfold oP at h
    by_cases hk : k = y.1
    · rw [if_pos hk] at h
      exact ⟨List.mem_cons_of_mem _ h, fun e => hn.1 (by rw [<- hk, <- e]; exact List.mem_map_of_mem h)⟩
    · rw [if_neg hk] at h
      rcases List.mem_cons.1 h with h | h
      · exact ⟨by rw [h]; exact List.mem_cons_self .., by rw [h]; exact fun e => hk e.symm⟩
      · obtain ⟨g1, g2⟩ := ih hn.2 h
        exact ⟨List.mem_cons_of_mem _ g1, g2⟩
theorem VX {R : Key × JE -> Key × JE -> Prop} (hn : (rs.map (·.1)).Nodup) (hp : rs.Pairwise R) (h1 : ∀ y ∈ rs, y.1 ≠ k -> R y (k, e') ∧ R (k, e') y) : (zV rs k e').Pairwise R := by
  induction rs with
  | nil => simp [zV]
  | cons y l ih =>
    have hn' := hn
    rw [List.map_cons, List.nodup_cons] at hn
    obtain ⟨p1, p2⟩ := List.pairwise_cons.1 hp
    unfold zV
    by_cases hk : k = y.1
    · rw [if_pos hk]
      refine List.pairwise_cons.2 ⟨fun x hx => (h1 x (List.mem_cons_of_mem _ hx) fun e => hn.1 (by rw [<- hk, <- e]; exact List.mem_map_of_mem hx)).2, p2⟩
    · rw [if_neg hk]
      refine List.pairwise_cons.2 ⟨fun x hx => ?_, ih hn.2 p2 fun z hz => h1 z (List.mem_cons_of_mem _ hz)⟩
      rcases Dw hn.2 hx with rfl | ⟨g1, _⟩
      · exact (h1 y (List.mem_cons_self ..) fun e => hk e.symm).1
      · exact p1 x g1
theorem Kw {α β : Type} [DecidableEq α] (x : α × β) (l : List (α × β)) (a : α) (b : β) : zV (x :: l) a b = if a = x.1 then (a, b) :: l else x :: zV l a b := rfl
theorem F8 {α β : Type} [DecidableEq α] (x : α × β) (l : List (α × β)) (a : α) : oP (x :: l) a = if a = x.1 then l else x :: oP l a := rfl
theorem oH (x : Key × JE) (l : List (Key × JE)) : iM (x :: l) = (x.1, x.2.2) :: iM l := rfl
theorem UD : iM (zV rs k e') = zV (iM rs) k e'.2 := by
  induction rs with
  | nil => rfl
  | cons y l ih =>
    rw [Kw, oH, Kw]
    by_cases hk : k = y.1
    · rw [if_pos hk, if_pos hk, oH]
    · rw [if_neg hk, if_neg hk, oH, ih]
theorem JF : iM (oP rs k) = oP (iM rs) k := by
  induction rs with
  | nil => rfl
  | cons y l ih =>
    rw [F8, oH, F8]
    by_cases hk : k = y.1
    · rw [if_pos hk, if_pos hk]
    · rw [if_neg hk, if_neg hk, oH, ih]
theorem KW {α β : Type} [DecidableEq α] (x : α × β) (l : List (α × β)) (a : α) : Jb (x :: l) a = if a = x.1 then some x.2 else Jb l a := rfl
theorem Nl : Jb (iM rs) k = (Jb rs k).map (·.2) := by
  induction rs with
  | nil => rfl
  | cons y l ih =>
    rw [oH, KW, KW]
    by_cases hk : k = y.1
    · rw [if_pos hk, if_pos hk]; rfl
    · rw [if_neg hk, if_neg hk, ih]
theorem xP {e : JE} (h : Jb rs k = some e) : (k, e) ∈ rs := by
  induction rs with
  | nil => simp [Jb] at h
  | cons y l ih =>
    unfold Jb at h
    by_cases hk : k = y.1
    · rw [if_pos hk] at h
      cases h
      rw [hk]; exact List.mem_cons_self ..
    · rw [if_neg hk] at h
      exact List.mem_cons_of_mem _ (ih h)
theorem OT (hn : (rs.map (·.1)).Nodup) : ((zV rs k e').map (·.1)).Nodup := SN hn k e'
theorem PY (hn : (rs.map (·.1)).Nodup) : ((oP rs k).map (·.1)).Nodup := hn.sublist ((Ot rs k).map _)
end
theorem FV.up {w w' : World} {t m : Nat} {many bytes wait : Int} {rs : List (Key × JE)} {k : Key} {e' : JE} (h : FV w t m many bytes wait rs) (hr : Row w' t [.map (some m), .int .i64 many, .int .i64 bytes, .int .i64 wait]) (hm : nX yM Pz w' m (zV rs k e'))
    (hb : Gs w' e') (ho : ∀ e ∈ rs, e.1 ≠ k -> Gs w' e.2) (hd : ∀ e ∈ rs, e.1 ≠ k -> ∀ z, xE e'.1 z -> ¬ xE e.2.1 z) (ha : ∀ z, xE e'.1 z -> z ≠ t ∧ z ≠ m) : FV w' t m many bytes wait (zV rs k e') := by
  refine ⟨hr, hm, fun e he => ?_, VX h.nodup h.dis fun y hy hk => ⟨fun z h1 h2 => hd y hy hk z h2 h1, fun z h1 h2 => hd y hy hk z h1 h2⟩, fun e he => ?_, h.tm, OT h.nodup⟩
  · rcases Dw h.nodup he with rfl | ⟨g1, g2⟩
    · exact hb
    · exact ho e g1 g2
  · rcases Dw h.nodup he with rfl | ⟨g1, _⟩
    · exact ha
    · exact h.apart e g1
theorem FV.del {w w' : World} {t m : Nat} {many bytes wait : Int} {rs : List (Key × JE)} {k : Key} (h : FV w t m many bytes wait rs) (hr : Row w' t [.map (some m), .int .i64 many, .int .i64 bytes, .int .i64 wait]) (hm : nX yM Pz w' m (oP rs k))
    (ho : ∀ e ∈ rs, e.1 ≠ k -> Gs w' e.2) : FV w' t m many bytes wait (oP rs k) :=
  ⟨hr, hm, fun e he => by obtain ⟨g1, g2⟩ := uM h.nodup he; exact ho e g1 g2, h.dis.sublist (Ot rs k), fun e he => h.apart e (uM h.nodup he).1, h.tm, PY h.nodup⟩
end Go.Proofs
end
section
namespace Go.Proofs
open Gp Gp.Hol Gp.Jn
set_option maxRecDepth 100000
set_option maxHeartbeats 1000000
section
variable {w w' : World} {t m : Nat} {many bytes wait : Int} {rs : List (Key × JE)}
theorem O1 (h : FV w t m many bytes wait rs) : d_ (some ⟨t, 0, none⟩) w fun r w' => r = true ∧ w' = w := by
  apply vK
  simp only [sx, Bool.not_false, h.row.cell]
  exact ⟨by trivial, by trivial⟩
theorem Ac (l : List (Key × JE)) : 0 <= (l.map fun e => sum e.2.1.l).sum := by
  induction l with
  | nil => simp
  | cons e l ih => rw [List.map_cons, List.sum_cons]; have := lW e.2.1.l; omega
theorem Uj (h : FV w t m many bytes wait rs) (hl : yY (iM rs) <= 2 ^ 40) : gY (some ⟨t, 0, none⟩) w fun n w' => n = yY (iM rs) ∧ Ext w w' := by
  have htab := LK rs fun e he => (h.bufs e he).perm
  rw [htab] at hl ⊢
  apply zi
  simp only [sx, h.row.cell]
  refine SX h.map fun w1 hit f1 z1 => ?_
  have hml := h.map.lt
  have hqm : w.heap.size ≠ m := by omega
  refine bn (fun st W => ∃ todo, OA yM Pz W w.heap.size m rs todo ∧ 0 <= st.1 ∧ st.1 + (todo.map fun e => sum e.2.1.l).sum = (rs.map fun e => sum e.2.1.l).sum ∧ (∀ e ∈ todo, e ∈ rs) ∧ bF w1 W (· = w.heap.size)) (fun _ W => R_ W w.heap.size m)
    ⟨rs, hit, by simp, by simp, fun e he => he, bF.refl _ _⟩ ?_
  rintro ⟨n, ⟨⟩⟩ W ⟨todo, hi, hn0, hn, hsub, hf⟩ next hnext
  have hn0 : 0 <= n := hn0
  have hn : n + (todo.map fun e => sum e.2.1.l).sum = (rs.map fun e => sum e.2.1.l).sum := hn
  refine ⟨rfl, UL hi hqm (fun ht => ?_) fun i x w2 hx hi2 hcur f2 z2 => ⟨rfl, hcur _ ?_⟩⟩
  · subst ht
    simp only [List.map_nil, List.sum_nil, Int.add_zero] at hn
    exact ⟨hn, f1.new hf fun y hy e => by omega⟩
  · have hxm := hsub x (List.mem_of_getElem? hx)
    have f12 : bF w1 w2 (· = w.heap.size) := hf.trans f2 fun _ _ e => e
    have hb : Gs w2 x.2 := ((h.bufs x hxm).ext f1).fr f12 fun z hz e => by have := (h.bufs x hxm).lt hz; omega
    refine ⟨_, rfl, ?_⟩
    simp only [List.getElem?_cons_zero, aj, yD, hb.row.cell]
    refine uf (S_ hb.H) ?_
    rintro r w3 ⟨rfl, hw⟩
    subst hw
    have he : (todo.map fun e => sum e.2.1.l).sum = sum x.2.1.l + ((todo.eraseIdx i).map fun e => sum e.2.1.l).sum := F6 (fun e : Key × JE => sum e.2.1.l) hx
    have h1 : 0 <= ((todo.eraseIdx i).map fun e => sum e.2.1.l).sum := Ac (todo.eraseIdx i)
    have h2 := lW x.2.1.l
    rw [wrap_i64 (by omega) (by omega)]
    refine hnext _ _ ⟨todo.eraseIdx i, hi2, by simp only; omega, by simp only; omega, fun e he => hsub e (List.mem_of_mem_eraseIdx he), f12⟩ ?_
    rw [hi2.left, hi.left, List.length_eraseIdx]
    have := (List.getElem?_eq_some_iff.1 hx).1
    rw [if_pos this]
    omega
theorem Q9 (h : nX yM Pz w m rs) {K : Int -> Prop} (hK : K (rs.length : Int)) : HY w (some m) K := by
  obtain ⟨es, c, h1, h2, _⟩ := h
  refine ⟨es, c, h1, ?_⟩
  have : es.size = rs.length := by
    have := congrArg List.length h2
    simpa using this
  rw [this]; exact hK
end
end Go.Proofs
end
