import Derived.Test.YtcoolonmnjacfaaG16
import Derived.Test.YtcoolonmnjacfaaHolesPure2
import Derived.Test.YtcoolonmnjacfaaIns
import Derived.Test.YtcoolonmnjacfaaBytes
import Derived.Test.YtcoolonmnjacfaaExt2
import Derived.Test.YtcoolonmnjacfaaIn2
import Derived.Test.YtcoolonmnjacfaaBits
/- Parts -/
namespace Go.Proofs
open Gp Gp.Hol
set_option maxRecDepth 100000



theorem equal_ok {w : World} {s t : SliceV} {l m : List UInt8} (hs : SlB w s l) (ht : SlB w t m) : c_bytes_Equal s t w fun r w' => r = decide (l = m) ∧ w' = w := by
  apply ok_bytes_Equal
  unfold s_bytes_Equal
  refine bytesStr_of hs (bytesStr_of ht ⟨?_, rfl⟩)
  unfold strEq
  rw [ByteArray.toList_eq, ByteArray.toList_eq]
  show (l == m) = decide (l = m)
  by_cases h : l = m
  · simp [h]
  · simp [h]

theorem clone_ok {w : World} {x : SliceV} {m : List UInt8} (hx : SlB w x m) (hl : m.length ≤ 2 ^ 46) :
    c_slices_Clone_byte_byte x w fun r w' => Buf w' r (bytesV m) ∧ (r.a = none ↔ x.a = none) ∧ (∀ S, Fr8 w w' S) ∧ ∀ b, SliceV.at r b → w.heap.size ≤ b := by
  apply ok_slices_Clone_byte_byte
  unfold s_slices_Clone_byte_byte
  cases hxa : x.a with
  | none =>
    simp only [Option.isNone_none, cond_true]
    have : bytesV m = [] := by have := hx.2.1; rw [hxa] at this; exact this
    exact ⟨⟨by simp [this], .inl ⟨rfl, this, rfl⟩⟩, by simp, fun S => Fr8.refl _ _, fun b ⟨o, h⟩ => by cases h⟩
  | some a =>
    simp only [Option.isNone_some, cond_false]
    refine Al_row fun b w2 r2 e2 _ f2 => ?_
    have hx2 : SlB w2 x m := by
      refine ⟨hx.1, ?_, hx.2.2⟩
      have := hx.2.1
      rw [hxa] at this ⊢
      refine ⟨this.1, fun j hj => ?_⟩
      rw [← this.2 j hj]
      have hc := this.2 j hj
      rw [List.getElem?_eq_getElem hj] at hc
      have hb : a.block < w.heap.size := by
        unfold World.cell? at hc
        cases hh : w.heap[(a.add j).block]? with
        | none => simp [hh] at hc
        | some o =>
          have := (Array.getElem?_eq_some_iff.1 hh).1
          unfold Addr.add at this
          split at this <;> exact this
      have hs := (f2 fun _ => False).same a.block hb (by simp)
      have hbl : (a.add j).block = a.block := by unfold Addr.add; split <;> rfl
      simp only [World.cell?, hbl, hs]
    refine AppSl_bytes (l := []) ⟨rfl, .inr ⟨b, [], rfl, rfl, by simpa [bytesV] using r2⟩⟩ hx2 (by simpa using hl) fun s' w' h1 h2 h3 h4 => ?_
    refine ⟨by simpa using h1, ⟨fun h => by have := (h4 h).2; simp at this, fun h => by simp at h⟩, fun S => (f2 S).trans h2 fun y hy ⟨o, e⟩ => ?_, fun c hc => ?_⟩
    · cases e; omega
    · rcases h3 c hc with ⟨o, e⟩ | h
      · cases e; omega
      · have := (f2 fun _ => False).size; omega

theorem SlN_ix {α : Type} {n : Nat} {f : α → List Value} {w : World} {s : SliceV} {xs : List α} (hn : ∀ x, (f x).length = n) (hn0 : 0 < n) (h : SlN n f w s xs) {i : Int} {K : Addr → Prop} {x : α} (h0 : 0 ≤ i) (hx : xs[i.toNat]? = some x)
    (hK : ∀ a : Addr, (∀ j v, (f x)[j]? = some v → w.cell? (a.add j) = some v) → K a) : AtIx s n i K := by
  obtain ⟨a, ha, hc⟩ := h.at_ hn hn0 hx
  have hlt := (List.getElem?_eq_some_iff.1 hx).1
  obtain ⟨sa, sl, sc⟩ := s
  simp only at ha
  subst ha
  have hl : sl = xs.length := h.len
  refine (AtIx_some ..).2 ⟨h0, by omega, hK _ fun j v hj => ?_⟩
  rw [← hc j v hj]
  congr 1
  obtain ⟨b, o, t⟩ := a
  unfold Addr.add
  by_cases h1 : i.toNat * n = 0 <;> by_cases h2 : j = 0 <;> simp [h1, h2, Nat.add_assoc]

abbrev KP : List Kind := [.int .i64, .bool, .slice]

abbrev P3 := Int × Bool × SliceV × Unit

abbrev eP (x : P3) : List Value := encK KP x

theorem eP_len (x : P3) : (eP x).length = 3 := rfl

theorem eP_one (x : P3) : ∀ v ∈ eP x, isOne v = true := by
  obtain ⟨a, b, s, ⟨⟩⟩ := x
  intro v hv
  have : (eP (a, b, s, ())).all isOne = true := rfl
  exact List.all_eq_true.1 this v hv

/-- A part in memory. -/
def PcAt (w : World) (x : P3) (p : Pc) : Prop := x.1 = p.1 ∧ x.2.1 = p.2.1 ∧ SlB w x.2.2.1 p.2.2

/-- Parts in memory. -/
structure PcsAt (w : World) (xs : List P3) (l : List Pc) : Prop where
  len : xs.length = l.length
  at_ : ∀ (i : Nat) x p, xs[i]? = some x → l[i]? = some p → PcAt w x p

theorem PcsAt.get {w : World} {xs : List P3} {l : List Pc} (h : PcsAt w xs l) {i : Nat} {x : P3} (hx : xs[i]? = some x) : ∃ p, l[i]? = some p ∧ PcAt w x p := by
  have hi := (List.getElem?_eq_some_iff.1 hx).1
  have hp := List.getElem?_eq_getElem (show i < l.length by rw [← h.len]; exact hi)
  exact ⟨_, hp, h.at_ i x _ hx hp⟩

theorem PcsAt.ext {w w' : World} {xs : List P3} {l : List Pc} (h : PcsAt w xs l) (hf : Ext w w') : PcsAt w' xs l :=
  ⟨h.len, fun i x p hx hp => ⟨(h.at_ i x p hx hp).1, (h.at_ i x p hx hp).2.1, (h.at_ i x p hx hp).2.2.ext hf⟩⟩

/-- The parts' bytes lie in none of these blocks. -/
def FreeP (xs : List P3) (S : Nat → Prop) : Prop := ∀ x ∈ xs, ∀ a, x.2.2.1.a = some a → 0 < x.2.2.1.len → ¬ S a.block

theorem PcsAt.fr {w w' : World} {xs : List P3} {l : List Pc} {S : Nat → Prop} (h : PcsAt w xs l) (hf : Fr8 w w' S) (hs : FreeP xs S) : PcsAt w' xs l :=
  ⟨h.len, fun i x p hx hp => ⟨(h.at_ i x p hx hp).1, (h.at_ i x p hx hp).2.1, (h.at_ i x p hx hp).2.2.fr hf fun a ha h0 => hs x (List.mem_of_getElem? hx) a ha (by rw [(h.at_ i x p hx hp).2.2.1]; exact h0)⟩⟩

theorem isNaN_ok (a : Int) (w : World) : c_cmp_isNaN_int a w fun r w' => r = false ∧ w' = w := by
  apply ok_cmp_isNaN_int
  exact ⟨by simp, rfl⟩

def cmpI (a b : Int) : Int := if a < b then -1 else if a > b then 1 else 0

theorem compare_ok (a b : Int) (w : World) : c_cmp_Compare_int a b w fun r w' => r = cmpI a b ∧ w' = w := by
  apply ok_cmp_Compare_int
  unfold s_cmp_Compare_int
  refine cm_cmp_isNaN_int (isNaN_ok _ _) ?_
  rintro r w' ⟨rfl, hw⟩
  subst hw
  refine cm_cmp_isNaN_int (isNaN_ok _ _) ?_
  rintro r w' ⟨rfl, hw⟩
  subst hw
  simp only [cond_false]
  unfold cmpI
  by_cases h1 : a < b
  · rw [decide_eq_true h1, cond_true, if_pos h1]; exact ⟨by trivial, by trivial⟩
  · rw [decide_eq_false h1, cond_false, if_neg h1]
    by_cases h2 : a > b
    · rw [decide_eq_true h2, cond_true, if_pos h2]; exact ⟨by trivial, by trivial⟩
    · rw [decide_eq_false h2, cond_false, if_neg h2]; exact ⟨by trivial, by trivial⟩

theorem or_ok {a b : Int} {w : World} {c : Nat} (hr : Row w c [.int .i64 a, .int .i64 b]) : c_cmp_Or_int ⟨some ⟨c, 0, none⟩, 2, 2⟩ w fun r w' => r = (if a ≠ 0 then a else b) ∧ w' = w := by
  apply ok_cmp_Or_int
  unfold s_cmp_Or_int
  refine LoopP_inv (fun st W => W = w ∧ (st.1 = 0 ∨ (st.1 = 1 ∧ a = 0) ∨ (st.1 = 2 ∧ a = 0 ∧ b = 0))) (fun st _ => (2 - st.1).toNat) ⟨rfl, .inl rfl⟩ ?_
  rintro ⟨i, ⟨⟩⟩ W ⟨hW, h⟩ next hnext
  subst hW
  simp only at h
  rcases h with rfl | ⟨rfl, h1⟩ | ⟨rfl, h1, h2⟩
  · rw [decide_eq_true (by simp only; decide), cond_true]
    simp only [Ld_eq, AtIx_some, add_mk, Nat.zero_add]
    refine ⟨by decide, by decide, ?_⟩
    rw [show Int.toNat 0 * 1 = 0 from rfl, hr.cell]
    simp only [List.getElem?_cons_zero, LdV_some, dec_int]
    by_cases h : a = 0
    · rw [show (a != 0) = false by simpa using h, cond_false]
      exact hnext _ _ ⟨rfl, .inr (.inl ⟨rfl, h⟩)⟩ (by decide)
    · rw [show (a != 0) = true by simpa using h, cond_true]
      exact ⟨by rw [if_pos h], by trivial⟩
  · rw [decide_eq_true (by simp only; decide), cond_true]
    simp only [Ld_eq, AtIx_some, add_mk, Nat.zero_add]
    refine ⟨by decide, by decide, ?_⟩
    rw [show Int.toNat 1 * 1 = 1 from rfl, hr.cell]
    simp only [List.getElem?_cons_zero, List.getElem?_cons_succ, LdV_some, dec_int]
    by_cases h : b = 0
    · rw [show (b != 0) = false by simpa using h, cond_false]
      exact hnext _ _ ⟨rfl, .inr (.inr ⟨rfl, h1, h⟩)⟩ (by decide)
    · rw [show (b != 0) = true by simpa using h, cond_true]
      exact ⟨by rw [if_neg (by simpa using h1)], by trivial⟩
  · rw [decide_eq_false (by simp only; decide), cond_false]
    exact ⟨by rw [if_neg (by simpa using h1), h2], rfl⟩

/-- The order of parts in memory. -/
def ordV (o1 l1 o2 l2 : Int) : Int := if cmpI o1 o2 ≠ 0 then cmpI o1 o2 else cmpI l1 l2

theorem order_ok {x0 y0 : Int} {x1 y1 : Bool} {x2 y2 : SliceV} (w : World) : c_holes_order x0 x1 x2 y0 y1 y2 w fun r w' => r = ordV x0 x2.len y0 y2.len ∧ Ext w w' := by
  apply ok_holes_order
  unfold s_holes_order
  refine Al_e fun a w1 ra ea z1 f1 => Al_e fun b w2 rb eb z2 f2 => ?_
  have ra := (ra.ext f2).drew
  have rb := rb.drew
  have f := (f1.trans f2).trans (Ext.drew _)
  simp only [Ld_eq, List.getElem?_cons_zero, List.getElem?_cons_succ, LdV_some, dec_slice, dec_int, add_mk, Nat.zero_add, ra.cell, rb.cell]
  refine cm_cmp_Compare_int (compare_ok _ _ _) ?_
  rintro r w' ⟨rfl, hw⟩
  subst hw
  simp only [List.getElem?_cons_zero, List.getElem?_cons_succ, ra.cell, rb.cell, true_and]
  refine cm_cmp_Compare_int (compare_ok _ _ _) ?_
  rintro r w' ⟨rfl, hw⟩
  subst hw
  refine Al_e fun c w3 rc ec z3 f3 => ?_
  refine cm_cmp_Or_int (or_ok rc) ?_
  rintro r w' ⟨rfl, hw⟩
  subst hw
  exact ⟨rfl, f.trans f3⟩

theorem end_ok {x0 : Int} {x1 : Bool} {x2 : SliceV} (w : World) : c_holes_piece_end x0 x1 x2 w fun r w' => r = IntKind.i64.wrap (x0 + (x2.len : Int)) ∧ Ext w w' := by
  apply ok_holes_piece_end
  unfold s_holes_piece_end
  refine Al_e fun a w1 ra ea z1 f1 => ?_
  simp only [Ld_eq, List.getElem?_cons_zero, List.getElem?_cons_succ, LdV_some, dec_slice, dec_int, add_mk, Nat.zero_add, ra.cell]
  exact ⟨by trivial, f1⟩

theorem is_ok {x0 y0 : Int} {x1 y1 : Bool} {x2 y2 : SliceV} {l m : List UInt8} {w : World} (hx : SlB w x2 l) (hy : SlB w y2 m) : c_holes_piece_is x0 x1 x2 y0 y1 y2 w fun r w' => r = decide (((x0, x1, l) : Pc) = (y0, y1, m)) ∧ Ext w w' := by
  apply ok_holes_piece_is
  unfold s_holes_piece_is
  refine Al_e fun a w1 ra ea z1 f1 => Al_e fun b w2 rb eb z2 f2 => ?_
  have ra := ra.ext f2
  have f := f1.trans f2
  intro J
  simp -zeta only [Ld_eq, List.getElem?_cons_zero, List.getElem?_cons_succ, LdV_some, dec_slice, dec_int, dec_bool, add_mk, Nat.zero_add, ra.cell, rb.cell]
  by_cases h1 : x0 = y0
  · rw [show (x0 == y0) = true by simpa using h1, cond_true]
    by_cases h2 : x1 = y1
    · rw [show (x1 == y1) = true by simpa using h2, cond_true]
      refine cm_bytes_Equal (equal_ok (hx.ext f) (hy.ext f)) ?_
      rintro r w' ⟨rfl, hw⟩
      subst hw
      refine ⟨decide_eq_decide.2 ?_, f⟩
      simp [h1, h2]
    · rw [show (x1 == y1) = false by simpa using h2, cond_false]
      exact ⟨(decide_eq_false fun h => h2 (by simp only [Prod.mk.injEq] at h; exact h.2.1)).symm, f⟩
  · rw [show (x0 == y0) = false by simpa using h1, cond_false]
    exact ⟨(decide_eq_false fun h => h1 (by simp only [Prod.mk.injEq] at h; exact h.1)).symm, f⟩

/-- Where a function value is applied to what a list has. -/
theorem indexP {w : World} {s : SliceV} {xs : List P3} {v : Value} {p : Nat → Bool} (hs : SlN 3 eP w s xs) (hl : s.len ≤ 2 ^ 62)
    (hp : ∀ (j : Nat) x W (K : Value → World → Prop), xs[j]? = some x → Ext w W → (∀ W', Ext W W' → K (.bool (p j)) W') → CallV Try.prog [.one .bool] v [.agg ⟨eP x⟩] W K) :
    c_slices_IndexFunc_holes_piece_holes_piece s v w fun r w' => (r ≥ 0 ↔ ∃ j, j < xs.length ∧ p j = true) ∧ Ext w w' := by
  apply ok_slices_IndexFunc_holes_piece_holes_piece
  unfold s_slices_IndexFunc_holes_piece_holes_piece
  refine LoopP_inv (fun st W => ∃ j : Nat, j ≤ xs.length ∧ st.1 = (j : Int) ∧ Ext w W ∧ ∀ k, k < j → p k = false) (fun st _ => (s.len - st.1).toNat) ⟨0, by omega, rfl, Ext.refl _, by simp⟩ ?_
  rintro ⟨i, ⟨⟩⟩ W ⟨j, hj, hi, hw, hm⟩ next hnext
  simp only at hi
  subst hi
  have hlen := hs.len
  by_cases hlt : (j : Int) < (s.len : Int)
  · simp only [hlt, decide_true, cond_true]
    have hx := List.getElem?_eq_getElem (show j < xs.length by omega)
    generalize xs[j] = x at hx
    refine SlN_ix eP_len (by omega) (hs.ext hw) (by omega) (by rw [Int.toNat_natCast]; exact hx) fun a hc => ?_
    have hp := hp j x W
    obtain ⟨x0, x1, x2, ⟨⟩⟩ := x
    have c0 : W.cell? (a.add 0) = some (.int .i64 x0) := hc 0 _ rfl
    have c1 : W.cell? (a.add 1) = some (.bool x1) := hc 1 _ rfl
    have c2 : W.cell? (a.add 2) = some (.slice x2.a x2.len x2.cap) := hc 2 _ rfl
    simp only [Ld_eq, LdV_some, dec_slice, dec_int, dec_bool, c0, c1, c2]
    refine hp _ hx hw fun W' hf => ⟨p j, rfl, ?_⟩
    cases he : p j
    · simp only [cond_false]
      rw [wrap_i64 (by omega) (by omega)]
      refine hnext _ _ ⟨j + 1, by omega, by simp, hw.trans hf, fun k hk => ?_⟩ (by simp only; omega)
      rcases Nat.lt_or_ge k j with h | h
      · exact hm k h
      · rw [show k = j by omega]; exact he
    · simp only [cond_true]
      exact ⟨⟨fun _ => ⟨j, by omega, he⟩, fun _ => by omega⟩, hw.trans hf⟩
  · simp only [hlt, decide_false, cond_false]
    refine ⟨⟨fun h => by omega, fun ⟨k, hk, he⟩ => ?_⟩, hw⟩
    rw [hm k (by omega)] at he; cases he

theorem containsP {w : World} {s : SliceV} {xs : List P3} {v : Value} {p : Nat → Bool} (hs : SlN 3 eP w s xs) (hl : s.len ≤ 2 ^ 62)
    (hp : ∀ (j : Nat) x W (K : Value → World → Prop), xs[j]? = some x → Ext w W → (∀ W', Ext W W' → K (.bool (p j)) W') → CallV Try.prog [.one .bool] v [.agg ⟨eP x⟩] W K) :
    c_slices_ContainsFunc_holes_piece_holes_piece s v w fun r w' => (r = true ↔ ∃ j, j < xs.length ∧ p j = true) ∧ Ext w w' := by
  apply ok_slices_ContainsFunc_holes_piece_holes_piece
  unfold s_slices_ContainsFunc_holes_piece_holes_piece
  refine cm_slices_IndexFunc_holes_piece_holes_piece (indexP hs hl hp) ?_
  rintro r w' ⟨h, hf⟩
  exact ⟨by rw [decide_eq_true_iff]; exact h, hf⟩

theorem callV_fst {f : FuncId} {fst : Array Value} {sh : List Shape} {args : List Value} {w : World} {K : Value → World → Prop} (hb : hasBody Try.prog f = true) (h : CallP Try.prog sh f (fst.toList ++ args) w K) :
    CallV Try.prog sh (.func (.func f) fst #[]) args w K := by
  unfold CallV
  simp only [hb, cond_true]
  simpa using h

theorem insert_ok {w : World} {s : SliceV} {xs : List P3} {y : P3} {vb i : Nat} (hs : BufN 3 eP w s xs) (hy : Row w vb (eP y)) (hv : ∀ b, SliceV.at s b → b ≠ vb) (hi : i ≤ xs.length) (hl : xs.length ≤ 2 ^ 30) :
    c_slices_Insert_holes_piece_holes_piece s (i : Int) ⟨some ⟨vb, 0, none⟩, 1, 1⟩ w fun r w' => BufN 3 eP w' r (xs.take i ++ y :: xs.drop i) ∧ Fr8 w w' (SliceV.at s) ∧ ∀ b, SliceV.at r b → SliceV.at s b ∨ w.heap.size ≤ b := by
  apply ok_slices_Insert_holes_piece_holes_piece
  unfold s_slices_Insert_holes_piece_holes_piece
  have hlen := hs.len
  have hsl := hs.sl eP_len (by omega)
  have hcap := hsl.cap
  have hyl : SlN 3 eP w ⟨some ⟨vb, 0, none⟩, 1, 1⟩ [y] := (BufN.row (xs := [y]) (f := eP) (n := 3) (by simpa using hy)).sl eP_len (by omega)
  refine SubSl_N eP_len hsl (by omega) (by omega) (by omega) fun s4 _ => ?_
  simp only
  rw [show (((1 : Nat) : Int) == 0) = false from rfl, cond_false]
  by_cases he : (i : Int) = (s.len : Int)
  · rw [show ((i : Int) == (s.len : Int)) = true by simpa using he, cond_true]
    refine AppSl_bufN eP_len hs hyl rfl (by omega) eP_one (by simp only [List.length_singleton]; omega) (by simp only [List.length_singleton]; omega) fun s' w' h1 h2 h3 => ?_
    refine ⟨?_, h2, h3⟩
    rw [List.take_of_length_le (by omega), List.drop_of_length_le (by omega)]
    exact h1
  rw [show ((i : Int) == (s.len : Int)) = false by simpa using he, cond_false]
  have hi' : i < xs.length := by omega
  have hx := List.getElem?_eq_getElem hi'
  generalize xs[i] = x at hx
  obtain ⟨b, pad, ha, hc, hr⟩ : ∃ b pad, s.a = some ⟨b, 0, none⟩ ∧ s.cap * 3 = xs.length * 3 + pad.length ∧ Row w b (xs.flatMap eP ++ pad) := by
    rcases hs.mem with ⟨_, h, _⟩ | h
    · rw [h] at hi'; simp at hi'
    · exact h
  have hnb : b ≠ vb := hv b ⟨0, ha⟩
  obtain ⟨sa, sl, sc⟩ := s
  simp only at ha hc hlen hcap he
  subst ha
  subst hlen
  have lt := flat_len eP 3 eP_len (xs.take i)
  have ld := flat_len eP 3 eP_len (xs.drop i)
  have ld1 := flat_len eP 3 eP_len (xs.drop (i + 1))
  rw [List.length_take, Nat.min_eq_left (by omega)] at lt
  rw [List.length_drop] at ld ld1
  have oned : ∀ v ∈ (xs.drop i).flatMap eP, isOne v = true := fun v hv => by
    obtain ⟨z, _, hz⟩ := List.mem_flatMap.1 hv
    exact eP_one z v hz
  rw [wrap_i64 (n := (xs.length : Int) + ((1 : Nat) : Int)) (by omega) (by omega)]
  by_cases hg : (xs.length : Int) + ((1 : Nat) : Int) > (sc : Int)
  · rw [decide_eq_true hg, cond_true]
    refine ⟨by (try simp only); omega, by (try simp only); omega, by (try simp only); omega, ?_⟩
    rw [wrap_i64 (by omega) (by omega), show ((xs.length : Int) + ((1 : Nat) : Int)) - (i : Int) = ((xs.length + 1 - i : Nat) : Int) by omega]
    simp only [Int.toNat_natCast, Int.toNat_zero, Nat.sub_zero]
    have hsub : subA (some (⟨b, 0, none⟩ : Addr)) sc 0 3 = some ⟨b, 0, none⟩ := by
      unfold subA
      split <;> simp [Addr.add]
    rw [hsub]
    have hold : CellsO w (some ⟨b, 0, none⟩) (i * 3) ((xs.take i).flatMap eP) := by
      refine cells_row (A := []) (C := (xs.drop i).flatMap eP ++ pad) ?_ rfl lt
      rw [flat_at (i := i), List.append_assoc] at hr
      exact hr
    refine AppMk_grow (m := xs.length + 1 - i) (by simp only; omega) (by simp only; omega) (by simp only; omega) hold fun c w1 hc1 r1 f1 z1 => ?_
    simp only at hc1 r1 ⊢
    rw [show i + (xs.length + 1 - i) = xs.length + 1 by omega] at hc1 r1 ⊢
    obtain ⟨k, hk⟩ : ∃ k, xs.length + 1 - i = k + 1 := ⟨xs.length - i, by omega⟩
    rw [hk] at r1
    have hsub2 : ∀ j : Nat, j < c → subA (some (⟨w.heap.size, 0, none⟩ : Addr)) c j 3 = some ⟨w.heap.size, j * 3, none⟩ := by
      intro j hj
      unfold subA
      rw [if_neg (by omega), Option.map_some, add_mk, Nat.zero_add]
    refine ⟨by (try simp only); omega, by (try simp only); omega, by (try simp only); omega, ?_⟩
    simp only [Int.toNat_natCast]
    rw [hsub2 i (by omega)]
    have r1' : Row w1 w.heap.size ((xs.take i).flatMap eP ++ ([Value.int .i64 0, .bool false, .slice none 0 0] ++ (repCells [Value.int .i64 0, .bool false, .slice none 0 0] k ++ repCells [Value.int .i64 0, .bool false, .slice none 0 0] (c - (xs.length + 1))))) := by
      simpa [repCells] using r1
    have hyl1 := hyl.ext f1
    refine CopySl_row (m := 1) (vs := eP y) (by show min (_ : Nat) _ = _; simp only; omega) (by have := hyl1.cells; simpa using this) r1' (by simp only [List.length_append, List.length_cons, List.length_nil, eP_len]; omega) (eP_one y) fun w2 r2 f2 => ?_
    rw [← lt, spl_mid (by rfl)] at r2
    rw [wrap_i64 (n := (i : Int) + ((1 : Nat) : Int)) (by omega) (by omega), show (i : Int) + ((1 : Nat) : Int) = ((i + 1 : Nat) : Int) by omega]
    refine ⟨by (try simp only); omega, by (try simp only); omega, by (try simp only); omega, ?_⟩
    simp only [Int.toNat_natCast]
    rw [hsub2 (i + 1) (by omega)]
    have hr2 := ((hr.ext f1).fr f2 (by have := hr.lt; omega)).drew
    refine ⟨by (try simp only); omega, by (try simp only); omega, by (try simp only); omega, ?_⟩
    simp only [Int.toNat_natCast]
    have hsub3 : subA (some (⟨b, 0, none⟩ : Addr)) sc i 3 = some ⟨b, i * 3, none⟩ := by
      unfold subA
      rw [if_neg (by omega), Option.map_some, add_mk, Nat.zero_add]
    rw [hsub3]
    have hsrc : CellsO w2.drew (some ⟨b, i * 3, none⟩) ((xs.length - i) * 3) ((xs.drop i).flatMap eP) := by
      refine cells_row (A := (xs.take i).flatMap eP) (C := pad) ?_ lt ld
      rw [flat_at (i := i), List.append_assoc] at hr2
      exact hr2
    have r2' : Row w2.drew w.heap.size (((xs.take i).flatMap eP ++ eP y) ++ (repCells [Value.int .i64 0, .bool false, .slice none 0 0] k ++ repCells [Value.int .i64 0, .bool false, .slice none 0 0] (c - (xs.length + 1)))) := by
      rw [List.append_assoc]; exact r2.drew
    have lA : ((xs.take i).flatMap eP ++ eP y).length = (i + 1) * 3 := by rw [List.length_append, lt, eP_len]; omega
    have lk : (repCells [Value.int .i64 0, .bool false, .slice none 0 0] k).length = ((xs.drop i).flatMap eP).length := by rw [repCells_len, ld]; simp only [List.length_cons, List.length_nil]; omega
    refine CopySl_row (m := xs.length - i) (vs := (xs.drop i).flatMap eP) (by show min (_ : Nat) _ = _; simp only; omega) hsrc r2' (by rw [List.length_append, lA, List.length_append, lk]; omega) oned fun w3 r3 f3 => ?_
    rw [← lA, spl_mid lk] at r3
    have f23 : Fr8 w1 w3 (· = w.heap.size) := (f2.ext (Ext.drew w2)).trans f3 fun _ _ e => e
    refine ⟨⟨by simp; omega, .inr ⟨w.heap.size, repCells [Value.int .i64 0, .bool false, .slice none 0 0] (c - (xs.length + 1)), rfl, ?_, ?_⟩⟩, f1.new f23 (by intro x hx e; omega) _, fun b' hb' => ?_⟩
    · rw [repCells_len]; simp only [List.length_append, List.length_take, List.length_cons, List.length_drop, List.length_nil]; omega
    · rw [List.flatMap_append, List.flatMap_cons]
      simpa using r3
    · obtain ⟨o, e⟩ := hb'
      cases e
      exact .inr (Nat.le_refl _)
  · rw [decide_eq_false hg, cond_false]
    obtain ⟨p1, p2, hp, lp1⟩ : ∃ p1 p2, pad = p1 ++ p2 ∧ p1.length = 3 := ⟨pad.take 3, pad.drop 3, (List.take_append_drop 3 pad).symm, by rw [List.length_take]; omega⟩
    subst hp
    refine ⟨by (try simp only); omega, by (try simp only); omega, by (try simp only); omega, ?_⟩
    rw [wrap_i64 (n := (i : Int) + ((1 : Nat) : Int)) (by omega) (by omega), show (i : Int) + ((1 : Nat) : Int) = ((i + 1 : Nat) : Int) by omega]
    have hsub0 : subA (some (⟨b, 0, none⟩ : Addr)) sc 0 3 = some ⟨b, 0, none⟩ := by
      unfold subA
      split <;> simp [Addr.add]
    have hsub2 : ∀ j : Nat, j < sc → subA (some (⟨b, 0, none⟩ : Addr)) sc j 3 = some ⟨b, j * 3, none⟩ := by
      intro j hj
      unfold subA
      rw [if_neg (by omega), Option.map_some, add_mk, Nat.zero_add]
    simp only [Int.toNat_zero, Nat.sub_zero, hsub0]
    refine ⟨by (try simp only); omega, by (try simp only); omega, by (try simp only); omega, ?_⟩
    simp only [Int.toNat_natCast]
    rw [hsub2 (i + 1) (by omega)]
    have hfull : xs.flatMap eP = (xs.take i).flatMap eP ++ (eP x ++ (xs.drop (i + 1)).flatMap eP) := flat_split hx
    refine ExtP_overlaps Try.func61 (by kernel_rfl) (by kernel_rfl) (by kernel_rfl) (tS := 82) (tR := 4) (by kernel_rfl) (e := 77) (by kernel_rfl) (by kernel_rfl) hy hr (fun e => hnb e.symm) (by
      intro h
      have := congrArg List.length h
      simp only [List.length_append, List.length_nil] at this
      omega) ?_
    refine ⟨false, rfl, ?_⟩
    rw [Bool.not_false, cond_true]
    refine ⟨by (try simp only); omega, by (try simp only); omega, by (try simp only); omega, ?_⟩
    simp only [Int.toNat_natCast]
    rw [hsub2 (i + 1) (by omega)]
    refine ⟨by (try simp only); omega, by (try simp only); omega, by (try simp only); omega, ?_⟩
    simp only [Int.toNat_natCast]
    rw [hsub2 i (by omega)]
    have hrd := hr.drew
    have hsrc : CellsO w.drew (some ⟨b, i * 3, none⟩) ((xs.length - i) * 3) ((xs.drop i).flatMap eP) := by
      refine cells_row (A := (xs.take i).flatMap eP) (C := p1 ++ p2) ?_ lt ld
      rw [flat_at (i := i), List.append_assoc] at hrd
      exact hrd
    have r0 : Row w.drew b (((xs.take i).flatMap eP ++ eP x) ++ (((xs.drop (i + 1)).flatMap eP ++ p1) ++ p2)) := by
      rw [hfull] at hrd
      simpa using hrd
    have lA : ((xs.take i).flatMap eP ++ eP x).length = (i + 1) * 3 := by rw [List.length_append, lt, eP_len]; omega
    have lB : ((xs.drop (i + 1)).flatMap eP ++ p1).length = ((xs.drop i).flatMap eP).length := by rw [List.length_append, ld1, ld, lp1]; omega
    refine CopySl_row (m := xs.length - i) (vs := (xs.drop i).flatMap eP) (by show min (_ : Nat) _ = _; simp only; omega) hsrc r0 (by rw [List.length_append, lA, List.length_append, lB]; omega) oned fun w2 r2 f2 => ?_
    rw [← lA, spl_mid lB] at r2
    refine ⟨by (try simp only); omega, by (try simp only); omega, by (try simp only); omega, ?_⟩
    simp only [Int.toNat_natCast]
    rw [hsub2 i (by omega)]
    have hy2 : Row w2 vb (eP y) := hy.drew.fr f2 (fun e => hnb e.symm)
    have hyl2 : SlN 3 eP w2 ⟨some ⟨vb, 0, none⟩, 1, 1⟩ [y] := (BufN.row (xs := [y]) (f := eP) (n := 3) (by simpa using hy2)).sl eP_len (by omega)
    have r2' : Row w2 b ((xs.take i).flatMap eP ++ (eP x ++ ((xs.drop i).flatMap eP ++ p2))) := by simpa using r2
    refine CopySl_row (m := 1) (vs := eP y) (by show min (_ : Nat) _ = _; simp only; omega) (by have := hyl2.cells; simpa using this) r2' (by simp only [List.length_append, eP_len]; omega) (eP_one y) fun w3 r3 f3 => ?_
    rw [← lt, spl_mid (by rfl)] at r3
    have f13 : Fr8 w w3 (· = b) := ((Fr8.drew w _).trans f2 fun _ _ e => e).trans f3 fun _ _ e => e
    refine ⟨⟨by simp; omega, .inr ⟨b, p2, rfl, ?_, ?_⟩⟩, f13.mono fun c hc => ⟨0, by rw [hc]⟩, fun b' hb' => .inl ?_⟩
    · simp only [List.length_append, List.length_take, List.length_cons, List.length_drop] at hc ⊢; omega
    · rw [List.flatMap_append, List.flatMap_cons]
      simpa using r3
    · obtain ⟨o, e⟩ := hb'
      exact ⟨o, e⟩



/-- Parts that a call made, in memory. -/
structure HAt (w : World) (h : Nat) (s : SliceV) (xs : List P3) (l : List Pc) (last : Int) : Prop where
  row : Row w h [.slice s.a s.len s.cap, .int .i64 (sum l), .int .i64 last, .bool true]
  buf : BufN 3 eP w s xs
  pcs : PcsAt w xs l
  apart : ∀ b, SliceV.at s b → b ≠ h
  free : FreeP xs fun b => b = h ∨ SliceV.at s b

theorem HAt.ext {w w' : World} {h : Nat} {s : SliceV} {xs : List P3} {l : List Pc} {last : Int} (H : HAt w h s xs l last) (hf : Ext w w') : HAt w' h s xs l last :=
  ⟨H.row.ext hf, H.buf.ext hf, H.pcs.ext hf, H.apart, H.free⟩

theorem HAt.fr {w w' : World} {h : Nat} {s : SliceV} {xs : List P3} {l : List Pc} {last : Int} {S : Nat → Prop} (H : HAt w h s xs l last) (hf : Fr8 w w' S) (h1 : ¬ S h) (h2 : ∀ b, SliceV.at s b → ¬ S b) (h3 : FreeP xs S) : HAt w' h s xs l last :=
  ⟨H.row.fr hf h1, H.buf.fr hf h2, H.pcs.fr hf h3, H.apart, H.free⟩

theorem HAt.sl {w : World} {h : Nat} {s : SliceV} {xs : List P3} {l : List Pc} {last : Int} (H : HAt w h s xs l last) : SlN 3 eP w s xs := H.buf.sl eP_len (by omega)

theorem HAt.len {w : World} {h : Nat} {s : SliceV} {xs : List P3} {l : List Pc} {last : Int} (H : HAt w h s xs l last) : s.len = l.length := H.buf.len.trans H.pcs.len

theorem ready_ok {w : World} {h : Nat} {s : SliceV} {xs : List P3} {l : List Pc} {last : Int} (H : HAt w h s xs l last) : c_holes_Holes_ready (some ⟨h, 0, none⟩) w fun r w' => r = true ∧ w' = w := by
  apply ok_holes_Holes_ready
  unfold s_holes_Holes_ready
  simp only [Option.isNone_some, Bool.not_false, cond_true, ex_some, Option.isNone_some, cond_true, ex_some, Ld_eq, List.getElem?_cons_zero, List.getElem?_cons_succ, LdV_some, dec_bool, add_mk, Nat.zero_add, H.row.cell]
  exact ⟨by trivial, by trivial⟩

theorem ready_nil {w : World} : c_holes_Holes_ready none w fun r w' => r = false ∧ w' = w := by
  apply ok_holes_Holes_ready
  unfold s_holes_Holes_ready
  simp only [Option.isNone_none, Bool.not_true, cond_false]
  exact ⟨by trivial, by trivial⟩

theorem may_ok' {x0 : Int} {x1 : Bool} {x2 : SliceV} {b : List UInt8} {w : World} (hx : SlB w x2 b) (hl : b.length ≤ 2 ^ 40) : c_holes_may x0 x1 x2 w fun r w' => r = may (x0, x1, b) ∧ Ext w w' := by
  apply ok_holes_may
  unfold s_holes_may
  refine Al_e fun a w1 ra ea z1 f1 => ?_
  have hlen := hx.1
  unfold may
  intro J
  have hT : J true = ((4 : Int) = (if x0 < 0 ∨ (x1 = true ∧ (b.length = 0 ∨ b.length % 8 ≠ 0)) then 4 else if x0 > 65535 - (b.length : Int) then 6 else 0) ∧ Ext w w1) := by
    simp only [J, cond_true]
  have hF : J false ↔ ((if x0 > 65535 - (b.length : Int) then (6 : Int) else 0) = (if x0 < 0 ∨ (x1 = true ∧ (b.length = 0 ∨ b.length % 8 ≠ 0)) then 4 else if x0 > 65535 - (b.length : Int) then 6 else 0) ∧ Ext w w1) := by
    simp only [J, cond_false, cond_false, Ld_eq, List.getElem?_cons_zero, List.getElem?_cons_succ, LdV_some, dec_slice, dec_int, add_mk, Nat.zero_add, ra.cell]
    rw [wrap_i64 (by (try simp only); omega) (by (try simp only); omega), hlen]
    by_cases h : x0 > 65535 - (b.length : Int)
    · rw [decide_eq_true h, cond_true, if_pos h]
    · rw [decide_eq_false h, cond_false, if_neg h]
  clear_value J
  simp -zeta only [Ld_eq, List.getElem?_cons_zero, List.getElem?_cons_succ, LdV_some, dec_slice, dec_int, dec_bool, add_mk, Nat.zero_add, ra.cell]
  by_cases h1 : x0 < 0
  · rw [decide_eq_true h1, cond_true, hT, if_pos (.inl h1)]; exact ⟨rfl, f1⟩
  rw [decide_eq_false h1, cond_false]
  cases x1
  · rw [cond_false, hF, if_neg (c := x0 < 0 ∨ _) (by simp; omega)]; exact ⟨rfl, f1⟩
  rw [cond_true]
  by_cases h2 : b.length = 0
  · rw [show ((x2.len : Int) == 0) = true by rw [hlen, h2]; rfl, cond_true, hT, if_pos (.inr ⟨rfl, .inl h2⟩)]; exact ⟨rfl, f1⟩
  rw [show ((x2.len : Int) == 0) = false by simp; omega, cond_false]
  refine ⟨by decide, ?_⟩
  by_cases h3 : b.length % 8 = 0
  · rw [show (Int.tmod (x2.len : Int) 8 != 0) = false by rw [Int.tmod_eq_emod_of_nonneg (by omega)]; simp; omega, hF, if_neg (c := x0 < 0 ∨ _) (by omega)]; exact ⟨rfl, f1⟩
  · rw [show (Int.tmod (x2.len : Int) 8 != 0) = true by rw [Int.tmod_eq_emod_of_nonneg (by omega)]; simp; omega, hT, if_pos (.inr ⟨rfl, .inr h3⟩)]; exact ⟨rfl, f1⟩

theorem has_ok {w : World} {h : Nat} {s : SliceV} {xs : List P3} {l : List Pc} {last : Int} (H : HAt w h s xs l last) (hl : l.length ≤ 2 ^ 30) {x0 : Int} {x1 : Bool} {x2 : SliceV} {b : List UInt8} (hx : SlB w x2 b) :
    c_holes_Holes_has (some ⟨h, 0, none⟩) x0 x1 x2 w fun r w' => r = decide (((x0, x1, b) : Pc) ∈ l) ∧ Ext w w' := by
  apply ok_holes_Holes_has
  unfold s_holes_Holes_has
  refine Al_e fun a w1 ra ea z1 f1 => ?_
  have ra := ra.drew
  have f := f1.trans (Ext.drew w1)
  have H1 := H.ext f
  have hlen := H.len
  simp only [ex_some, ex_some, Ld_eq, List.getElem?_cons_zero, List.getElem?_cons_succ, LdV_some, dec_slice, dec_int, dec_bool, add_mk, Nat.zero_add, Nat.add_zero, ra.cell, H1.row.cell]
  refine cm_slices_ContainsFunc_holes_piece_holes_piece (containsP (p := fun j => decide (some ((x0, x1, b) : Pc) = l[j]?)) H1.sl (by simp only; omega) ?_) ?_
  · intro j x W K hxj hW hK
    obtain ⟨p, hp, h1, h2, h3⟩ := H1.pcs.get hxj
    obtain ⟨y0, y1, y2, ⟨⟩⟩ := x
    obtain ⟨p0, p1, p2⟩ := p
    simp only at h1 h2 h3
    subst h1 h2
    refine callV_fst (by kernel_rfl) ?_
    refine Calls.mono (is_ok (w := W) (x0 := x0) (x1 := x1) (y0 := y0) (y1 := y1) ((hx.ext f).ext hW) (h3.ext hW)) ?_
    rintro e W' ⟨r, he, rfl, hf⟩
    refine ⟨_, he, ?_⟩
    have := hK W' hf
    rw [hp] at this
    exact (by simpa using this : K (.bool (decide (((x0, x1, b) : Pc) = (y0, y1, p2)))) W')
  · rintro r w' ⟨hr, hf⟩
    refine ⟨?_, f.trans hf⟩
    have hxl := H1.pcs.len
    rw [Bool.eq_iff_iff, hr, decide_eq_true_iff, List.mem_iff_getElem?]
    constructor
    · rintro ⟨j, hj, he⟩
      exact ⟨j, (of_decide_eq_true he).symm⟩
    · rintro ⟨j, hj⟩
      have := (List.getElem?_eq_some_iff.1 hj).1
      exact ⟨j, by omega, decide_eq_true hj.symm⟩

theorem empty_iff {w : World} {x : SliceV} {b : List UInt8} (hx : SlB w x b) : ((x.len : Int) == 0) = b.isEmpty := by
  rw [hx.1]
  cases b with
  | nil => rfl
  | cons a l => exact beq_eq_false_iff_ne.2 (by simp only [List.length_cons]; omega)

theorem meets_ok {w : World} {h : Nat} {s : SliceV} {xs : List P3} {l : List Pc} {last : Int} (H : HAt w h s xs l last) (hl : l.length ≤ 2 ^ 30) (hg : ∀ p ∈ l, 0 ≤ p.1 ∧ pend p ≤ 65535) {x0 : Int} {x1 : Bool} {x2 : SliceV} {b : List UInt8} (hx : SlB w x2 b) (h0 : 0 ≤ x0) (h1 : pend (x0, x1, b) ≤ 65535) :
    c_holes_Holes_meets (some ⟨h, 0, none⟩) x0 x1 x2 w fun r w' => r = l.any (sh (x0, x1, b)) ∧ Ext w w' := by
  apply ok_holes_Holes_meets
  unfold s_holes_Holes_meets
  refine Al_e fun a w1 ra ea z1 f1 => ?_
  have H1 := H.ext f1
  have hx1 := hx.ext f1
  have hlen := H.len
  have hxl := H.pcs.len
  simp -zeta only [ex_some, ex_some, Ld_eq, List.getElem?_cons_zero, LdV_some, dec_slice, add_mk, Nat.zero_add, Nat.add_zero, H1.row.cell]
  refine LoopP_inv (fun st W => ∃ j : Nat, j ≤ l.length ∧ st.1 = (j : Int) ∧ Ext w1 W ∧ (l.take j).any (sh (x0, x1, b)) = false) (fun st _ => (l.length - st.1).toNat) ⟨0, by omega, rfl, Ext.refl _, by simp⟩ ?_
  rintro ⟨i, ⟨⟩⟩ W ⟨j, hj, hi, hw, hm⟩ next hnext
  simp only at hi
  subst hi
  by_cases hlt : (j : Int) < (s.len : Int)
  · rw [decide_eq_true hlt, cond_true]
    have hxj := List.getElem?_eq_getElem (show j < xs.length by omega)
    generalize xs[j] = x at hxj
    obtain ⟨p, hp, e1, e2, e3⟩ := H1.pcs.get hxj
    have hpm := List.mem_of_getElem? hp
    have hpg := hg p hpm
    have htk := List.take_add_one (l := l) (i := j)
    rw [hp] at htk
    simp only [Option.toList_some] at htk
    obtain ⟨y0, y1, y2, ⟨⟩⟩ := x
    obtain ⟨p0, p1, p2⟩ := p
    simp only at e1 e2 e3
    subst e1 e2
    intro J
    have hJ : ∀ W', Ext W W' → sh (x0, x1, b) (y0, y1, p2) = false → J W' := by
      intro W' hf hs
      simp only [J]
      rw [wrap_i64 (by (try simp only); omega) (by (try simp only); omega)]
      refine hnext _ _ ⟨j + 1, by omega, by simp, hw.trans hf, ?_⟩ (by simp only; omega)
      rw [htk, List.any_append, hm, List.any_cons, hs, List.any_nil]; rfl
    have hT : ∀ W', Ext W W' → sh (x0, x1, b) (y0, y1, p2) = true → (true = l.any (sh (x0, x1, b)) ∧ Ext w W') := by
      intro W' hf hs
      exact ⟨(List.any_eq_true.2 ⟨_, hpm, hs⟩).symm, (f1.trans hw).trans hf⟩
    clear_value J
    generalize hA : l.any (sh (x0, x1, b)) = A at hT ⊢
    refine SlN_ix eP_len (by omega) (H1.sl.ext hw) (by omega) (by rw [Int.toNat_natCast]; exact hxj) fun a' hc => ?_
    have c0 : W.cell? (a'.add 0) = some (.int .i64 y0) := hc 0 _ rfl
    have c1 : W.cell? (a'.add 1) = some (.bool y1) := hc 1 _ rfl
    have c2 : W.cell? (a'.add 2) = some (.slice y2.a y2.len y2.cap) := hc 2 _ rfl
    simp -zeta only [LdV_some, dec_slice, dec_int, dec_bool, c0, c1, c2]
    refine Al_f rfl rfl fun t W1 rt et zt ft => ?_
    have ra := (ra.ext hw).ext ft
    have e3 := (e3.ext hw).ext ft
    have hx2 := (hx1.ext hw).ext ft
    have n1 := empty_iff hx2
    have n2 := empty_iff e3
    have hx2' := hx2.1
    have e3' := e3.1
    unfold pend at h1 hpg
    simp only at h1 hpg
    unfold sh pend at hJ hT
    simp only at hJ hT
    generalize b.isEmpty = eb at n1 hJ hT
    generalize p2.isEmpty = ep at n2 hJ hT
    simp -zeta only [List.getElem?_cons_zero, List.getElem?_cons_succ, LdV_some, dec_slice, dec_int, add_mk, Nat.zero_add, Nat.add_zero, ra.cell, rt.cell, n1, n2]
    have rtd := rt.drew
    have rad := ra.drew
    have main : ∀ (J2 : Bool → World → Prop), (J2 = fun j26 w27 => bif j26 then (true = A ∧ Ext w w27) else J w27) → eb = false → ep = false →
        (c_holes_piece_end x0 x1 x2 W1.drew fun r32 w33 => w33.cell? ⟨t, 0, none⟩ = some (.int .i64 y0) ∧ (bif decide (y0 < r32) then
          (LdV (.int .i64) (w33.cell? ⟨a, 0, none⟩) fun x34 => LdV (.int .i64) (w33.cell? ⟨t, 0, none⟩) fun x35 => LdV .bool (w33.cell? ⟨t, 1, none⟩) fun x36 => LdV .slice (w33.cell? ⟨t, 2, none⟩) fun x37 =>
            c_holes_piece_end x35 x36 x37 w33 fun r38 w39 => w39.cell? ⟨a, 0, none⟩ = some (.int .i64 x34) ∧ J2 (decide (x34 < r38)) w39) else J2 false w33)) := by
      intro J2 hJ2 he1 he2
      subst he1 he2
      refine cm_holes_piece_end (end_ok _) ?_
      rintro r w3 ⟨rfl, f3⟩
      have ra3 := rad.ext f3
      have rt3 := rtd.ext f3
      refine ⟨rt3.cell 0, ?_⟩
      rw [wrap_i64 (by (try simp only); omega) (by (try simp only); omega), hx2']
      simp only [List.getElem?_cons_zero, List.getElem?_cons_succ, LdV_some, dec_slice, dec_int, dec_bool, ra3.cell, rt3.cell]
      have hd : Ext W w3 := (ft.trans (Ext.drew _)).trans f3
      by_cases g1 : y0 < x0 + (b.length : Int)
      · rw [decide_eq_true g1, cond_true]
        refine cm_holes_piece_end (end_ok _) ?_
        rintro r w4 ⟨rfl, f4⟩
        refine ⟨(ra3.ext f4).cell 0, ?_⟩
        rw [wrap_i64 (by simp only; omega) (by simp only; omega)]
        simp only
        rw [e3', hJ2]
        by_cases g2 : x0 < y0 + (p2.length : Int)
        · rw [decide_eq_true g2]
          exact hT _ (hd.trans f4) (by simp [g1, g2])
        · rw [decide_eq_false g2]
          exact hJ _ (hd.trans f4) (by simp [g1, g2])
      · rw [decide_eq_false g1, cond_false, hJ2]
        exact hJ _ hd (by simp [g1])
    cases eb
    · simp only [cond_false, cond_true]
      cases ep
      · simp only [cond_false]
        simp only [List.getElem?_cons_zero, List.getElem?_cons_succ, LdV_some, dec_slice, dec_int, dec_bool, rtd.cell, rad.cell]
        exact main _ rfl rfl rfl
      · simp only [cond_true]
        exact hJ _ ft (by simp)
    · cases ep
      · simp only [cond_false, cond_true]
        exact hJ _ ft (by simp)
      · simp only [cond_true]
        by_cases g : x0 = y0
        · rw [show (x0 == y0) = true by simpa using g]
          simp only [cond_true]
          exact hT _ ft (by simp [g])
        · rw [show (x0 == y0) = false by simpa using g]
          simp only [cond_false]
          exact hJ _ ft (by simp [g])
  · rw [decide_eq_false hlt, cond_false]
    rw [List.take_of_length_le (by omega)] at hm
    exact ⟨hm.symm, f1.trans hw⟩

theorem far_ok {w : World} {h : Nat} {s : SliceV} {xs : List P3} {l : List Pc} {last : Int} (H : HAt w h s xs l last) (hl : l.length ≤ 2 ^ 30) (hg : ∀ p ∈ l, 0 ≤ p.1 ∧ pend p ≤ 65535) :
    c_holes_Holes_far (some ⟨h, 0, none⟩) w fun r w' => r = far l ∧ Ext w w' := by
  apply ok_holes_Holes_far
  unfold s_holes_Holes_far
  have hlen := H.len
  have hxl := H.pcs.len
  simp only [ex_some, ex_some, Ld_eq, List.getElem?_cons_zero, LdV_some, dec_slice, H.row.cell]
  refine LoopP_inv (fun st W => ∃ j : Nat, j ≤ l.length ∧ st.2.1 = (j : Int) ∧ Ext w W ∧ st.1 = far (l.take j)) (fun st _ => (l.length - st.2.1).toNat) ⟨0, by omega, rfl, Ext.refl _, rfl⟩ ?_
  rintro ⟨m, i, ⟨⟩⟩ W ⟨j, hj, hi, hw, hm⟩ next hnext
  simp only at hi hm
  subst hi hm
  by_cases hlt : (j : Int) < (s.len : Int)
  · rw [decide_eq_true hlt, cond_true]
    have hxj := List.getElem?_eq_getElem (show j < xs.length by omega)
    generalize xs[j] = x at hxj
    obtain ⟨p, hp, e1, e2, e3⟩ := H.pcs.get hxj
    have hpg := hg p (List.mem_of_getElem? hp)
    have htk := List.take_add_one (l := l) (i := j)
    rw [hp] at htk
    simp only [Option.toList_some] at htk
    obtain ⟨y0, y1, y2, ⟨⟩⟩ := x
    obtain ⟨p0, p1, p2⟩ := p
    simp only at e1 e2 e3
    subst e1 e2
    refine SlN_ix eP_len (by omega) (H.sl.ext hw) (by simp only; omega) (by simp only; rw [Int.toNat_natCast]; exact hxj) fun a' hc => ?_
    have c0 : W.cell? (a'.add 0) = some (.int .i64 y0) := hc 0 _ rfl
    have c1 : W.cell? (a'.add 1) = some (.bool y1) := hc 1 _ rfl
    have c2 : W.cell? (a'.add 2) = some (.slice y2.a y2.len y2.cap) := hc 2 _ rfl
    simp only [LdV_some, dec_slice, dec_int, dec_bool, c0, c1, c2]
    refine Al_f rfl rfl fun t W1 rt et zt ft => ?_
    simp only [List.getElem?_cons_zero, List.getElem?_cons_succ, LdV_some, dec_slice, dec_int, dec_bool, add_mk, Nat.zero_add, Nat.add_zero, rt.cell]
    refine cm_holes_piece_end (end_ok _) ?_
    rintro r w3 ⟨rfl, f3⟩
    unfold pend at hpg
    simp only at hpg
    have e3' := e3.1
    rw [wrap_i64 (n := y0 + (y2.len : Int)) (by (try simp only); omega) (by (try simp only); omega), wrap_i64 (by (try simp only); omega) (by (try simp only); omega)]
    refine hnext _ _ ⟨j + 1, by omega, by simp, (hw.trans ft).trans f3, ?_⟩ (by simp only; omega)
    rw [htk]
    unfold far
    rw [List.foldl_append]
    simp only [List.foldl_cons, List.foldl_nil]
    unfold pend
    simp only
    rw [← e3']
    split <;> omega
  · rw [decide_eq_false hlt, cond_false]
    rw [List.take_of_length_le (by omega)]
    exact ⟨rfl, hw⟩

theorem fits_ok {w : World} {h : Nat} {s : SliceV} {xs : List P3} {l : List Pc} {last : Int} (H : HAt w h s xs l last) (hl : l.length ≤ 2 ^ 30) (hg : ∀ p ∈ l, 0 ≤ p.1 ∧ pend p ≤ 65535) {x0 : Int} {x1 : Bool} {x2 : SliceV} {b : List UInt8} (hx : SlB w x2 b) (h0 : 0 ≤ x0) (h1 : pend (x0, x1, b) ≤ 65535) :
    c_holes_Holes_fits (some ⟨h, 0, none⟩) x0 x1 x2 w fun r w' => r = fits l last (x0, x1, b) ∧ Ext w w' := by
  apply ok_holes_Holes_fits
  unfold s_holes_Holes_fits
  refine Al_e fun a w1 ra ea z1 f1 => ?_
  have H1 := H.ext f1
  have Hd := H1.ext (Ext.drew _)
  have rad := ra.drew
  have fd := f1.trans (Ext.drew _)
  have hx2 := hx.1
  unfold pend at h1
  simp only at h1
  unfold fits pend
  simp only
  simp -zeta only [ex_some, ex_some, Ld_eq, List.getElem?_cons_zero, List.getElem?_cons_succ, LdV_some, dec_slice, dec_int, dec_bool, add_mk, Nat.zero_add, Nat.add_zero, ra.cell, rad.cell, Hd.row.cell]
  cases x1
  · simp only [cond_false, Bool.false_eq_true, if_false]
    by_cases g : last < 0
    · rw [decide_eq_true g, cond_true]
      refine cm_holes_Holes_far (far_ok Hd hl hg) ?_
      rintro r w3 ⟨rfl, f3⟩
      have ra3 := rad.ext f3
      refine ⟨ra3.cell 0, ra3.cell 1, ra3.cell 2, ?_⟩
      refine cm_holes_piece_end (end_ok _) ?_
      rintro r w4 ⟨rfl, f4⟩
      rw [wrap_i64 (by (try simp only); omega) (by (try simp only); omega), hx2, Bool.true_and]
      exact ⟨rfl, (fd.trans f3).trans f4⟩
    · rw [decide_eq_false g, cond_false, Bool.false_and]
      exact ⟨rfl, fd⟩
  · simp only [cond_true, if_true]
    by_cases g : last < 0
    · rw [decide_eq_true g, cond_true, Bool.true_or]
      exact ⟨rfl, fd⟩
    · rw [decide_eq_false g, cond_false, Bool.false_or]
      refine cm_holes_piece_end (end_ok _) ?_
      rintro r w3 ⟨rfl, f3⟩
      refine ⟨(Hd.ext f3).row.cell 2, ?_⟩
      rw [wrap_i64 (by (try simp only); omega) (by (try simp only); omega), hx2]
      exact ⟨rfl, fd.trans f3⟩



theorem half_ok {a b : Nat} (h : a + b ≤ 2 ^ 40) : IntKind.i64.wrap (shrI .u64 (IntKind.u64.wrap (IntKind.i64.wrap ((a : Int) + (b : Int)))) 1) = (((a + b) / 2 : Nat) : Int) := by
  rw [wrap_i64 (n := (a : Int) + (b : Int)) (by omega) (by omega)]
  have h1 : IntKind.u64.wrap ((a : Int) + (b : Int)) = ((a + b : Nat) : Int) := by
    simp only [IntKind.wrap, IntKind.bits, IntKind.signed, Bool.false_and, Bool.false_eq_true, if_false]
    omega
  rw [h1]
  have h2 : shrI .u64 ((a + b : Nat) : Int) 1 = (((a + b) / 2 : Nat) : Int) := by
    unfold shrI
    have : min (1 : Int).toNat IntKind.u64.bits = 1 := rfl
    rw [this]
    rw [Int.fdiv_eq_ediv_of_nonneg _ (by decide)]
    omega
  rw [h2, wrap_i64 (by omega) (by omega)]

theorem callV_plain {f : FuncId} {sh : List Shape} {args : List Value} {w : World} {K : Value → World → Prop} (hb : hasBody Try.prog f = true) (h : CallP Try.prog sh f args w K) :
    CallV Try.prog sh (.func (.func f) #[] #[]) args w K := by
  unfold CallV
  simp only [hb, cond_true]
  simpa using h

def ordP (u : P3) (x0 : Int) (n : Nat) : Int := ordV u.1 (u.2.2.1.len : Int) x0 (n : Int)

theorem cmp_call {u : P3} {x0 : Int} {x1 : Bool} {x2 : SliceV} {W : World} {K : Value → World → Prop} (hK : ∀ W', Ext W W' → K (.int .i64 (ordP u x0 x2.len)) W') :
    CallV Try.prog [.one (.int .i64)] (Value.func (.func 46) #[] #[]) [.agg ⟨[.int .i64 u.1, .bool u.2.1, .slice u.2.2.1.a u.2.2.1.len u.2.2.1.cap]⟩, .agg ⟨[.int .i64 x0, .bool x1, .slice x2.a x2.len x2.cap]⟩] W K := by
  refine callV_plain (by kernel_rfl) ?_
  refine Calls.mono (order_ok (x0 := u.1) (x1 := u.2.1) (x2 := u.2.2.1) (y0 := x0) (y1 := x1) (y2 := x2) W) ?_
  rintro e W' ⟨r, he, rfl, hf⟩
  exact ⟨_, he, hK W' hf⟩

theorem bs_ok {w : World} {s : SliceV} {xs : List P3} (hs : SlN 3 eP w s xs) (hl : xs.length ≤ 2 ^ 30) {x0 : Int} {x1 : Bool} {x2 : SliceV}
    (mono : ∀ (i j : Nat) u v, i < j → xs[i]? = some u → xs[j]? = some v → ordP v x0 x2.len < 0 → ordP u x0 x2.len < 0) :
    c_slices_BinarySearchFunc_holes_piece_holes_piece_holes_piece s x0 x1 x2 (Value.func (.func 46) #[] #[]) w fun r _ w' =>
      (∃ i : Nat, r = (i : Int) ∧ i ≤ xs.length ∧ (∀ (k : Nat) u, k < i → xs[k]? = some u → ordP u x0 x2.len < 0) ∧ ∀ (k : Nat) u, i ≤ k → xs[k]? = some u → ¬ ordP u x0 x2.len < 0) ∧ Ext w w' := by
  apply ok_slices_BinarySearchFunc_holes_piece_holes_piece_holes_piece
  unfold s_slices_BinarySearchFunc_holes_piece_holes_piece_holes_piece
  refine Al_e fun a w1 ra ea z1 f1 => ?_
  have hlen := hs.len
  refine LoopP_inv (fun st W => ∃ i j : Nat, i ≤ j ∧ j ≤ xs.length ∧ st.1 = (i : Int) ∧ st.2.1 = (j : Int) ∧ Ext w1 W ∧ (∀ (k : Nat) u, k < i → xs[k]? = some u → ordP u x0 x2.len < 0) ∧ ∀ (k : Nat) u, j ≤ k → xs[k]? = some u → ¬ ordP u x0 x2.len < 0)
    (fun st _ => (st.2.1 - st.1).toNat) ⟨0, xs.length, by omega, by omega, rfl, by simp only; omega, Ext.refl _, fun k u h => by omega, fun k u h hx => by
      have := (List.getElem?_eq_some_iff.1 hx).1; omega⟩ ?_
  rintro ⟨i', j', ⟨⟩⟩ W ⟨i, j, hij, hj, hi1, hj1, hw, hb, ha⟩ next hnext
  simp only at hi1 hj1
  subst hi1 hj1
  have Wd := hw.trans (Ext.drew W)
  have raD := ra.ext Wd
  have hsD := hs.ext (f1.trans Wd)
  simp -zeta only [half_ok (show i + j ≤ 2 ^ 40 by omega)]
  by_cases hlt : (i : Int) < (j : Int)
  · rw [decide_eq_true hlt, cond_true]
    refine ⟨by decide, ?_⟩
    have hm : (i + j) / 2 < xs.length := by omega
    have hx := List.getElem?_eq_getElem hm
    generalize xs[(i + j) / 2] = u at hx
    refine SlN_ix eP_len (by omega) hsD (by omega) (by rw [Int.toNat_natCast]; exact hx) fun a' hc => ?_
    have c0 : W.drew.cell? (a'.add 0) = some (.int .i64 u.1) := hc 0 _ rfl
    have c1 : W.drew.cell? (a'.add 1) = some (.bool u.2.1) := hc 1 _ rfl
    have c2 : W.drew.cell? (a'.add 2) = some (.slice u.2.2.1.a u.2.2.1.len u.2.2.1.cap) := hc 2 _ rfl
    simp -zeta only [Ld_eq, List.getElem?_cons_zero, List.getElem?_cons_succ, LdV_some, dec_slice, dec_int, dec_bool, add_mk, Nat.zero_add, Nat.add_zero, c0, c1, c2, raD.cell]
    refine cmp_call fun W' hf => ⟨_, rfl, ?_⟩
    by_cases hg : ordP u x0 x2.len < 0
    · rw [decide_eq_true hg, cond_true, wrap_i64 (by omega) (by omega)]
      refine hnext _ _ ⟨(i + j) / 2 + 1, j, by omega, hj, by simp, rfl, Wd.trans hf, fun k v hk hv => ?_, ha⟩ (by simp only; omega)
      rcases Nat.lt_or_ge k ((i + j) / 2) with h | h
      · exact mono _ _ _ _ h hv hx hg
      · have : k = (i + j) / 2 := by omega
        subst this
        rw [hx] at hv
        cases hv
        exact hg
    · rw [decide_eq_false hg, cond_false]
      refine hnext _ _ ⟨i, (i + j) / 2, by omega, by omega, rfl, rfl, Wd.trans hf, hb, fun k v hk hv hlt' => ?_⟩ (by simp only; omega)
      rcases Nat.lt_or_ge ((i + j) / 2) k with h | h
      · exact hg (mono _ _ _ _ h hx hv hlt')
      · have : k = (i + j) / 2 := by omega
        subst this
        rw [hx] at hv
        cases hv
        exact hg hlt'
  · rw [decide_eq_false hlt, cond_false]
    have : i = j := by omega
    subst this
    intro J
    by_cases hg : (i : Int) < (s.len : Int)
    · rw [decide_eq_true hg, cond_true]
      have hx := List.getElem?_eq_getElem (show i < xs.length by omega)
      generalize xs[i] = u at hx
      refine SlN_ix eP_len (by omega) hsD (by omega) (by rw [Int.toNat_natCast]; exact hx) fun a' hc => ?_
      have c0 : W.drew.cell? (a'.add 0) = some (.int .i64 u.1) := hc 0 _ rfl
      have c1 : W.drew.cell? (a'.add 1) = some (.bool u.2.1) := hc 1 _ rfl
      have c2 : W.drew.cell? (a'.add 2) = some (.slice u.2.2.1.a u.2.2.1.len u.2.2.1.cap) := hc 2 _ rfl
      simp -zeta only [Ld_eq, List.getElem?_cons_zero, List.getElem?_cons_succ, LdV_some, dec_slice, dec_int, dec_bool, add_mk, Nat.zero_add, Nat.add_zero, c0, c1, c2, raD.cell]
      refine cmp_call fun W' hf => ⟨_, rfl, ?_⟩
      exact ⟨⟨i, rfl, hj, hb, ha⟩, (f1.trans Wd).trans hf⟩
    · rw [decide_eq_false hg, cond_false]
      exact ⟨⟨i, rfl, hj, hb, ha⟩, f1.trans Wd⟩

theorem ord_neg {o1 o2 : Int} {n1 n2 : Int} : ordV o1 n1 o2 n2 < 0 ↔ o1 < o2 ∨ (o1 = o2 ∧ n1 < n2) := by
  unfold ordV cmpI
  by_cases h1 : o1 < o2
  · simp [h1]
  · by_cases h2 : o2 < o1
    · simp [h1, h2]; omega
    · have : o1 = o2 := by omega
      subst this
      by_cases h3 : n1 < n2
      · simp [h3]
      · by_cases h4 : n2 < n1 <;> simp [h3, h4]

theorem sum_le {l : List Pc} (h : ∀ p ∈ l, 0 ≤ p.1 ∧ pend p ≤ 65535) : sum l ≤ 65535 * l.length := by
  induction l with
  | nil => simp [sum]
  | cons p l ih =>
    have h1 := h p (by simp)
    have h2 := ih fun q hq => h q (by simp [hq])
    unfold sum pend at *
    simp only [List.map_cons, List.sum_cons, List.length_cons]
    omega

theorem PcsAt.ins {w : World} {xs : List P3} {l : List Pc} (h : PcsAt w xs l) {i : Nat} (hi : i ≤ xs.length) {x : P3} {p : Pc} (hx : PcAt w x p) : PcsAt w (xs.take i ++ x :: xs.drop i) (l.take i ++ p :: l.drop i) := by
  have hlen := h.len
  refine ⟨by simp; omega, fun k y q hy hq => ?_⟩
  rcases Nat.lt_trichotomy k i with hk | hk | hk
  · rw [List.getElem?_append_left (by simp; omega), List.getElem?_take_of_lt hk] at hy hq
    exact h.at_ k y q hy hq
  · subst hk
    rw [List.getElem?_append_right (by simp; omega)] at hy hq
    rw [List.length_take, Nat.min_eq_left (by omega), Nat.sub_self] at hy
    rw [List.length_take, Nat.min_eq_left (by omega), Nat.sub_self] at hq
    cases hy; cases hq
    exact hx
  · rw [List.getElem?_append_right (by simp; omega)] at hy hq
    rw [List.length_take, Nat.min_eq_left (by omega)] at hy
    rw [List.length_take, Nat.min_eq_left (by omega)] at hq
    obtain ⟨m, hm⟩ : ∃ m, k - i = m + 1 := ⟨k - i - 1, by omega⟩
    rw [hm, List.getElem?_cons_succ, List.getElem?_drop] at hy hq
    exact h.at_ _ y q hy hq

/-- Where a part stands in the order. -/
theorem sorted_ins {l : List Pc} (hs : l.Pairwise le) {p : Pc} {i : Nat} (h1 : ∀ (k : Nat) q, k < i → l[k]? = some q → le q p) (h2 : ∀ (k : Nat) q, i ≤ k → l[k]? = some q → le p q) : (l.take i ++ p :: l.drop i).Pairwise le := by
  rw [List.pairwise_append, List.pairwise_cons]
  refine ⟨hs.sublist (List.take_sublist ..), ⟨fun q hq => ?_, hs.sublist (List.drop_sublist ..)⟩, fun q hq r hr => ?_⟩
  · obtain ⟨k, hk⟩ := List.getElem?_of_mem hq
    rw [List.getElem?_drop] at hk
    exact h2 _ q (by omega) hk
  · rcases List.mem_cons.1 hr with rfl | hr
    · obtain ⟨k, hk, he⟩ := List.mem_take_iff_getElem.1 hq
      exact h1 k q (by omega) (by rw [List.getElem?_eq_getElem (by omega), he])
    · have := List.take_append_drop i l ▸ hs
      exact (List.pairwise_append.1 this).2.2 q hq r hr

theorem le_trans' {a b c : Pc} (h1 : le a b) (h2 : le b c) : le a c := by unfold le at *; omega

theorem add_ok {w : World} {h : Nat} {s : SliceV} {xs : List P3} {l : List Pc} (H : HAt w h s xs l (lastE l)) (G : Gp.Hol.Good l) (hs : l.Pairwise le) (hl : l.length ≤ 2 ^ 20) {off : Int} {more : Bool} {x2 : SliceV} {b : List UInt8} (hx : SlB w x2 b) (hb : b.length ≤ 2 ^ 40) :
    c_holes_Holes_Add (some ⟨h, 0, none⟩) off more x2 w fun r w' => r = (add l (off, more, b)).1 ∧ ∃ s' xs' l', HAt w' h s' xs' l' (lastE l') ∧ l'.Perm (add l (off, more, b)).2 ∧ l'.Pairwise le ∧
      Fr8 w w' (fun c => c = h ∨ SliceV.at s c) ∧ (∀ c, SliceV.at s' c → SliceV.at s c ∨ w.heap.size ≤ c) ∧ ∀ x ∈ xs', x ∈ xs ∨ ∀ a, x.2.2.1.a = some a → w.heap.size ≤ a.block := by
  apply ok_holes_Holes_Add
  unfold s_holes_Holes_Add
  have hg : ∀ p ∈ l, 0 ≤ p.1 ∧ pend p ≤ 65535 := fun p hp => ⟨(G.ok p hp).1, (G.ok p hp).2.1⟩
  have same : ∀ w', Ext w w' → ∃ s' xs' l', HAt w' h s' xs' l' (lastE l') ∧ l'.Perm l ∧ l'.Pairwise le ∧
      Fr8 w w' (fun c => c = h ∨ SliceV.at s c) ∧ (∀ c, SliceV.at s' c → SliceV.at s c ∨ w.heap.size ≤ c) ∧ ∀ x ∈ xs', x ∈ xs ∨ ∀ a, x.2.2.1.a = some a → w.heap.size ≤ a.block :=
    fun w' hf => ⟨s, xs, l, H.ext hf, List.Perm.refl _, hs, hf _, fun c hc => .inl hc, fun x hx => .inl hx⟩
  refine cm_holes_Holes_ready (ready_ok H) ?_
  rintro r w0 ⟨rfl, hw⟩
  have hw := hw.symm
  subst hw
  rw [Bool.not_true, cond_false]
  refine Al_f rfl rfl fun a w1 ra ea z1 f1 => ?_
  simp -zeta only [ex_some, Ld_eq, List.getElem?_cons_zero, List.getElem?_cons_succ, LdV_some, dec_slice, dec_int, dec_bool, add_mk, Nat.zero_add, Nat.add_zero, ra.cell]
  refine cm_holes_may (may_ok' (hx.ext f1) hb) ?_
  rintro r w2 ⟨rfl, f2⟩
  have e2 := f1.trans f2
  unfold add
  by_cases hm : may (off, more, b) = 0
  case neg =>
    rw [show (may (off, more, b) != 0) = true by simpa using hm, cond_true, if_pos hm]
    exact ⟨rfl, same _ e2⟩
  rw [show (may (off, more, b) != 0) = false by simpa using hm, cond_false, if_neg (by simpa using hm)]
  obtain ⟨o0, o1, o2⟩ := may_ok hm
  have o0 : 0 ≤ off := o0
  have ra := ra.ext f2
  simp -zeta only [List.getElem?_cons_zero, List.getElem?_cons_succ, LdV_some, dec_slice, dec_int, dec_bool, ra.cell]
  refine cm_holes_Holes_has (has_ok (H.ext e2) (by omega) (hx.ext e2)) ?_
  rintro r w3 ⟨rfl, f3⟩
  have e3 := e2.trans f3
  by_cases hmem : ((off, more, b) : Pc) ∈ l
  · rw [decide_eq_true hmem, cond_true, if_pos hmem]
    exact ⟨rfl, same _ e3⟩
  rw [decide_eq_false hmem, cond_false, if_neg hmem]
  have ra := ra.ext f3
  simp -zeta only [List.getElem?_cons_zero, List.getElem?_cons_succ, LdV_some, dec_slice, dec_int, dec_bool, ra.cell]
  refine cm_holes_Holes_meets (meets_ok (H.ext e3) (by omega) hg (hx.ext e3) o0 o1) ?_
  rintro r w4 ⟨rfl, f4⟩
  have e4 := e3.trans f4
  cases hany : l.any (sh (off, more, b))
  case true =>
    rw [cond_true, if_pos rfl]
    exact ⟨rfl, same _ e4⟩
  rw [cond_false, if_neg (by simp)]
  have ra := ra.ext f4
  simp -zeta only [List.getElem?_cons_zero, List.getElem?_cons_succ, LdV_some, dec_slice, dec_int, dec_bool, ra.cell]
  refine cm_holes_Holes_fits (fits_ok (H.ext e4) (by omega) hg (hx.ext e4) o0 o1) ?_
  rintro r w5 ⟨rfl, f5⟩
  have e5 := e4.trans f5
  cases hfit : fits l (lastE l) (off, more, b)
  · rw [Bool.not_false, cond_true, if_pos rfl]
    exact ⟨rfl, same _ e5⟩
  rw [Bool.not_true, cond_false, if_neg (by simp)]
  have ra := ra.ext f5
  have H5 := H.ext e5
  have Gn := G.add hm hany hfit
  have hbl := hx.1
  refine cm_slices_Clone_byte_byte (clone_ok (hx.ext e5) (by omega)) ?_
  rintro d w6 ⟨hd, hdn, f6, hdf⟩
  have f6 : Ext w5 w6 := f6
  have ra := ra.ext f6
  have z5 := e5.size
  have z56 := f6.size
  have hra := ra.lt
  have haw : a < w5.heap.size := by have := (f2.trans ((f3.trans f4).trans f5)).size; omega
  have hd0 := SlB.of_buf hd
  refine St_row ra rfl (by simp) fun w7 ra f7 z7 => ?_
  simp only [List.set_cons_succ, List.set_cons_zero] at ra
  have e7 : Ext w w7 := (e5.trans f6).new (f7 (· = a) rfl) (by intro x hx e; omega)
  have hd7 : SlB w7 d b := hd0.fr (f7 (· = a) rfl) fun a' ha' _ e => by
    have := hdf _ (hd.at_eq ha'); omega
  have e8 := e7.trans (Ext.drew w7)
  have H8 := H.ext e8
  have ra8 := ra.drew
  have hd8 : SlB w7.drew d b := hd7.ext (Ext.drew _)
  have hdl : d.len = b.length := hd7.1
  have hxl := H.pcs.len
  simp -zeta only [List.getElem?_cons_zero, List.getElem?_cons_succ, LdV_some, dec_slice, dec_int, dec_bool, ra8.cell, H8.row.cell]
  have hord : ∀ {k : Nat} {u : P3} {q : Pc}, xs[k]? = some u → l[k]? = some q → (ordP u off d.len < 0 ↔ q.1 < off ∨ (q.1 = off ∧ q.2.2.length < b.length)) := by
    intro k u q hu hq
    obtain ⟨g1, g2, g3⟩ := H.pcs.at_ k u q hu hq
    unfold ordP
    rw [ord_neg, g1, hdl]
    have := g3.1
    omega
  refine cm_slices_BinarySearchFunc_holes_piece_holes_piece_holes_piece (bs_ok H8.sl (by omega) ?_) ?_
  · intro i j u v hij hu hv hlt
    obtain ⟨p, hp, _⟩ := H.pcs.get hu
    obtain ⟨q, hq, _⟩ := H.pcs.get hv
    have hle : le p q := by
      have h1 := List.getElem?_eq_some_iff.1 hp
      have h2 := List.getElem?_eq_some_iff.1 hq
      obtain ⟨h1, rfl⟩ := h1
      obtain ⟨h2, rfl⟩ := h2
      exact List.pairwise_iff_getElem.1 hs i j h1 h2 hij
    simp only at hlt ⊢
    rw [hord hv hq] at hlt
    rw [hord hu hp]
    unfold le at hle
    omega
  rintro r _ w9 ⟨⟨i, rfl, hi, hb1, hb2⟩, f9⟩
  simp only at hb1 hb2
  have e10 := (e8.trans f9).trans (Ext.drew w9)
  have H10 := H.ext e10
  have ra10 := (ra8.ext f9).drew
  have hd10 : SlB w9.drew d b := (hd8.ext f9).ext (Ext.drew _)
  simp -zeta only [List.getElem?_cons_zero, List.getElem?_cons_succ, LdV_some, dec_slice, dec_int, dec_bool, ra10.cell, H10.row.cell]
  refine Al_e fun v w11 rv ev z11 f11 => ?_
  have e11 := e10.trans f11
  have H11 := H.ext e11
  have hd11 := hd10.ext f11
  refine ⟨H11.row.cell 0, ?_⟩
  have hhlt := H.row.lt
  refine cm_slices_Insert_holes_piece_holes_piece (insert_ok (s := s) (y := (off, more, d, ())) H11.buf rv (fun c hc e => ?_) hi (by omega)) ?_
  · have := H.buf.lt hc
    have := e10.size
    omega
  rintro t w12 ⟨hbuf, f12, ht⟩
  have hrow12 := H11.row.fr f12 fun hc => H.apart _ hc rfl
  have hpc11 : PcsAt w11 (xs.take i ++ (off, more, d, ()) :: xs.drop i) (l.take i ++ (off, more, b) :: l.drop i) := H11.pcs.ins hi ⟨rfl, rfl, hd11⟩
  have hfree11 : FreeP (xs.take i ++ (off, more, d, ()) :: xs.drop i) (SliceV.at s) := by
    intro x hx a' ha' h0 hc
    rcases List.mem_append.1 hx with hx | hx
    · exact H.free x (List.mem_of_mem_take hx) a' ha' h0 (.inr hc)
    rcases List.mem_cons.1 hx with rfl | hx
    · have h1 := hdf _ (hd.at_eq ha')
      have h2 := H.buf.lt hc
      omega
    · exact H.free x (List.mem_of_mem_drop hx) a' ha' h0 (.inr hc)
  have hpc12 := hpc11.fr f12 hfree11
  -- what no one else's block is
  have hne : ∀ x ∈ xs.take i ++ (off, more, d, ()) :: xs.drop i, ∀ a', x.2.2.1.a = some a' → 0 < x.2.2.1.len → a'.block ≠ h ∧ ¬ SliceV.at t a'.block := by
    intro x hx a' ha' h0
    have hlt : a'.block < w11.heap.size := by
      obtain ⟨k, hk⟩ := List.getElem?_of_mem hx
      obtain ⟨p, hp, g1, g2, g3⟩ := hpc11.get hk
      exact g3.lt ha' (by have := g3.1; omega)
    refine ⟨?_, fun hc => ?_⟩
    · rcases List.mem_append.1 hx with hx | hx
      · exact fun e => H.free x (List.mem_of_mem_take hx) a' ha' h0 (.inl e)
      rcases List.mem_cons.1 hx with rfl | hx
      · have h1 := hdf _ (hd.at_eq ha')
        omega
      · exact fun e => H.free x (List.mem_of_mem_drop hx) a' ha' h0 (.inl e)
    · rcases ht _ hc with hc | hc
      · exact hfree11 x hx a' ha' h0 hc
      · omega
  have hnt : ∀ c, SliceV.at t c → c ≠ h := by
    intro c hc e
    rcases ht _ hc with hc | hc
    · exact H.apart _ hc e
    · have := e11.size; omega
  have hperm : (l.take i ++ (off, more, b) :: l.drop i).Perm (l ++ [(off, more, b)]) := by
    refine List.perm_middle.trans ?_
    rw [List.take_append_drop]
    exact (List.perm_append_singleton _ _).symm
  have hGl := Gn.perm hperm.symm
  have hsrt : (l.take i ++ (off, more, b) :: l.drop i).Pairwise le := by
    refine sorted_ins hs (fun k q hk hq => ?_) fun k q hk hq => ?_
    · have hu := List.getElem?_eq_getElem (show k < xs.length by have := (List.getElem?_eq_some_iff.1 hq).1; omega)
      have := (hord hu hq).1 (hb1 k _ hk hu)
      unfold le
      simp only
      omega
    · have hu := List.getElem?_eq_getElem (show k < xs.length by have := (List.getElem?_eq_some_iff.1 hq).1; omega)
      have := mt (hord hu hq).2 (hb2 k _ hk hu)
      unfold le
      simp only
      omega
  have hsum : sum (l.take i ++ (off, more, b) :: l.drop i) = sum l + (b.length : Int) := by
    rw [sum_perm hperm]
    simp [sum]
  have hlast : lastE (l.take i ++ (off, more, b) :: l.drop i) = if more = false then pend (off, more, b) else lastE l := by
    cases hmo : more
    · rw [hmo] at hGl hperm
      rw [if_pos rfl]
      exact lastE_some hGl.one (p := (off, false, b)) (by simp) rfl
    · rw [hmo] at hGl hperm Gn
      rw [if_neg (by simp), lastE_perm hGl.one hperm]
      by_cases hex : ∃ p ∈ l, p.2.1 = false
      · obtain ⟨p, hp, hpm⟩ := hex
        rw [lastE_some G.one hp hpm, lastE_some Gn.one (List.mem_append_left _ hp) hpm]
      · have h1 : ∀ p ∈ l, p.2.1 = true := fun p hp => by
          cases hpb : p.2.1
          · exact absurd ⟨p, hp, hpb⟩ hex
          · rfl
        rw [lastE_none h1, lastE_none fun p hp => ?_]
        rcases List.mem_append.1 hp with hp | hp
        · exact h1 p hp
        · rw [List.mem_singleton.1 hp]
  have hsl := sum_le hg
  have hsn := sum_nonneg l
  have hsource : ∀ x ∈ xs.take i ++ (off, more, d, ()) :: xs.drop i, x ∈ xs ∨ ∀ a', x.2.2.1.a = some a' → w.heap.size ≤ a'.block := by
    intro x hx
    rcases List.mem_append.1 hx with hx | hx
    · exact .inl (List.mem_of_mem_take hx)
    rcases List.mem_cons.1 hx with rfl | hx
    · exact .inr fun a' ha' => by have := hdf _ (hd.at_eq ha'); omega
    · exact .inl (List.mem_of_mem_drop hx)
  have htn : ∀ c, SliceV.at t c → SliceV.at s c ∨ w.heap.size ≤ c := fun c hc => (ht c hc).imp id fun h => by have := e11.size; omega
  refine St_row hrow12 rfl (by simp) fun w13 r13 f13 z13 => ?_
  simp only [List.set_cons_zero] at r13
  simp -zeta only [List.getElem?_cons_zero, List.getElem?_cons_succ, LdV_some, dec_int, r13.cell]
  rw [wrap_i64 (by omega) (by omega)]
  refine St_row r13 rfl (by simp) fun w14 r14 f14 z14 => ?_
  simp only [List.set_cons_succ, List.set_cons_zero] at r14
  have f1214 : Fr8 w12 w14 (· = h) := (f13 (· = h) rfl).trans (f14 (· = h) rfl) fun _ _ e => e
  have fin : ∀ (w' : World) (la : Int), Row w' h [.slice t.a t.len t.cap, .int .i64 (sum l + (x2.len : Int)), .int .i64 la, .bool true] → Fr8 w12 w' (· = h) → la = lastE (l.take i ++ (off, more, b) :: l.drop i) →
      (0 : Int) = 0 ∧ ∃ s' xs' l', HAt w' h s' xs' l' (lastE l') ∧ l'.Perm (l ++ [(off, more, b)]) ∧ l'.Pairwise le ∧
      Fr8 w w' (fun c => c = h ∨ SliceV.at s c) ∧ (∀ c, SliceV.at s' c → SliceV.at s c ∨ w.heap.size ≤ c) ∧ ∀ x ∈ xs', x ∈ xs ∨ ∀ a, x.2.2.1.a = some a → w.heap.size ≤ a.block := by
    intro w' la hr hf hla
    refine ⟨rfl, t, _, _, ⟨?_, hbuf.fr hf hnt, hpc12.fr hf fun x hx a' ha' h0 e => (hne x hx a' ha' h0).1 e, hnt, fun x hx a' ha' h0 e => e.elim (hne x hx a' ha' h0).1 (hne x hx a' ha' h0).2⟩, hperm, hsrt, ?_, htn, hsource⟩
    · rw [hsum, ← hla, ← hbl]; exact hr
    · exact (e11 _).trans ((f12.mono (S' := fun c => c = h ∨ SliceV.at s c) fun c hc => .inr hc).trans (hf.mono fun c hc => .inl hc) fun _ _ e => e) fun _ _ e => e
  have hav : a < w9.drew.heap.size := ra10.lt
  have ra14 : Row w14 a _ := ((ra10.ext f11).fr f12 (fun hc => by have := H.buf.lt hc; omega)).fr f1214 (by omega)
  intro J
  cases hmo : more
  · rw [Bool.not_false, cond_true]
    simp -zeta only [List.getElem?_cons_zero, List.getElem?_cons_succ, LdV_some, dec_slice, dec_int, dec_bool, ra14.cell]
    refine cm_holes_piece_end (end_ok _) ?_
    rintro r w15 ⟨rfl, f15⟩
    have r15 := r14.ext f15
    refine St_row r15 rfl (by simp) fun w16 r16 f16 z16 => ?_
    simp only [List.set_cons_succ, List.set_cons_zero] at r16
    unfold pend at o1
    simp only at o1
    rw [wrap_i64 (by omega) (by omega)] at r16
    have res := fin w16 _ r16 ((f1214.ext f15).trans (f16 (· = h) rfl) fun _ _ e => e) (by
      rw [hlast, if_pos hmo]
      unfold pend
      simp only
      omega)
    exact ⟨by trivial, res.2⟩
  · rw [Bool.not_true, cond_false]
    have res := fin w14 _ r14 f1214 (by rw [hlast, if_neg (by rw [hmo]; simp)])
    exact ⟨by trivial, res.2⟩

theorem bytes_ok {w : World} {h : Nat} {s : SliceV} {xs : List P3} {l : List Pc} {last : Int} (H : HAt w h s xs l last) : c_holes_Holes_Bytes (some ⟨h, 0, none⟩) w fun r w' => r = sum l ∧ w' = w := by
  apply ok_holes_Holes_Bytes
  unfold s_holes_Holes_Bytes
  refine cm_holes_Holes_ready (ready_ok H) ?_
  rintro r w' ⟨rfl, hw⟩
  subst hw
  rw [Bool.not_true, cond_false]
  simp only [ex_some, ex_some, Ld_eq, List.getElem?_cons_zero, List.getElem?_cons_succ, LdV_some, dec_int, add_mk, Nat.zero_add, H.row.cell]
  exact ⟨by trivial, by trivial⟩

/-- How many bytes more there would be. -/
def roomP (l : List Pc) (off : Int) (b : List UInt8) : Int := if ((off, true, b) : Pc) ∈ l ∨ ((off, false, b) : Pc) ∈ l then 0 else b.length

theorem room_ok {w : World} {h : Nat} {s : SliceV} {xs : List P3} {l : List Pc} {last : Int} (H : HAt w h s xs l last) (hl : l.length ≤ 2 ^ 30) {off : Int} {x2 : SliceV} {b : List UInt8} (hx : SlB w x2 b) :
    c_holes_Holes_Room (some ⟨h, 0, none⟩) off x2 w fun r w' => r = roomP l off b ∧ Ext w w' := by
  apply ok_holes_Holes_Room
  unfold s_holes_Holes_Room roomP
  intro J
  refine cm_holes_Holes_ready (ready_ok H) ?_
  rintro r w' ⟨rfl, hw⟩
  subst hw
  rw [Bool.not_true, cond_false]
  refine cm_holes_Holes_has (has_ok H hl hx) ?_
  rintro r w2 ⟨rfl, f2⟩
  by_cases h1 : ((off, true, b) : Pc) ∈ l
  · rw [decide_eq_true h1, cond_true]
    simp only [J, cond_true, if_pos (Or.inl h1 : ((off, true, b) : Pc) ∈ l ∨ ((off, false, b) : Pc) ∈ l)]
    exact ⟨by trivial, f2⟩
  rw [decide_eq_false h1, cond_false]
  refine cm_holes_Holes_has (has_ok (H.ext f2) hl (hx.ext f2)) ?_
  rintro r w3 ⟨rfl, f3⟩
  by_cases h2 : ((off, false, b) : Pc) ∈ l
  · rw [decide_eq_true h2]
    simp only [J, cond_true, if_pos (Or.inr h2 : ((off, true, b) : Pc) ∈ l ∨ ((off, false, b) : Pc) ∈ l)]
    exact ⟨by trivial, f2.trans f3⟩
  rw [decide_eq_false h2]
  simp only [J, cond_false]
  rw [if_neg (by simp [h1, h2])]
  exact ⟨by rw [hx.1], f2.trans f3⟩



abbrev yG (l : List (Int × Int)) : List (Int × Int × Unit) := l.map fun g => (g.1, g.2, ())

theorem yG_get {A B : List (Int × Int)} {g : Int × Int} : (yG (A ++ g :: B))[A.length]? = some (g.1, g.2, ()) := by
  unfold yG
  rw [List.getElem?_map, List.getElem?_append_right (Nat.le_refl _), Nat.sub_self]
  rfl

theorem gaps_cons (m last : Int) (p : Pc) (l : List Pc) : gaps m (p :: l) last = (if p.1 > m then [(m, p.1)] else []) ++ gaps (max m (pend p)) l last := rfl

theorem gaps_end (m last : Int) : gaps m [] last = if last > m then [(m, last)] else [] := rfl

theorem gaps_iter {f0 h : Nat} {s : SliceV} {xs : List P3} {l : List Pc} {last : Int} (hl : l.length ≤ 2 ^ 30) (hg : ∀ p ∈ l, 0 ≤ p.1 ∧ pend p ≤ 65535) :
    IterFn2 Try.prog [.one (.int .i64), .one (.int .i64)] (Value.func (.func n_holes_Holes_Gaps_1) #[] #[.pointer (some ⟨f0, 0, none⟩)]) (fun W => Row W f0 [.pointer (some ⟨h, 0, none⟩)] ∧ HAt W h s xs l last) (yG (gaps 0 l last)) := by
  refine ⟨by kernel_rfl, fun y w Q D hC hQ hD hy h0 => ?_⟩
  refine Calls.mono (ok_holes_Holes_Gaps_1 (a0 := .func (.yield y) #[] #[]) (f0 := ⟨f0, 0, none⟩) (K := fun w' => Q (yG (gaps 0 l last)).length w' ∨ D w') ?_) (fun e w' h => h)
  unfold s_holes_Holes_Gaps_1
  obtain ⟨r0, H⟩ := hC _ _ h0
  have hlen := H.len
  have hxl := H.pcs.len
  simp -zeta only [Ld_eq, List.getElem?_cons_zero, LdV_some, dec_ptr, r0.cell]
  refine cm_holes_Holes_ready (ready_ok H) ?_
  rintro r w0 ⟨rfl, hw⟩
  have hw := hw.symm
  subst hw
  rw [Bool.not_true, cond_false]
  simp -zeta only [ex_some, ex_some, List.getElem?_cons_zero, LdV_some, dec_slice, dec_ptr, r0.cell, H.row.cell]
  refine LoopP_inv (fun st W => ∃ j : Nat, j ≤ l.length ∧ st.2.1 = (j : Int) ∧ 0 ≤ st.1 ∧ st.1 ≤ 65535 ∧ w.heap.size ≤ W.heap.size ∧ ∃ done, gaps 0 l last = done ++ gaps st.1 (l.drop j) last ∧ Q done.length W) (fun st _ => (l.length - st.2.1).toNat)
    ⟨0, by omega, rfl, by simp, by simp, Nat.le_refl _, [], rfl, h0⟩ ?_
  rintro ⟨m, i, ⟨⟩⟩ W ⟨j, hj, hi, hm0, hm1, hz, done, hd, hq⟩ next hnext
  simp only at hi hm0 hm1 hd
  subst hi
  obtain ⟨r0, H⟩ := hC _ _ hq
  by_cases hlt : (j : Int) < (s.len : Int)
  · rw [decide_eq_true hlt, cond_true]
    have hxj := List.getElem?_eq_getElem (show j < xs.length by omega)
    generalize xs[j] = x at hxj
    obtain ⟨p, hp, e1, e2, e3⟩ := H.pcs.get hxj
    have hpg := hg p (List.mem_of_getElem? hp)
    have hdrop : l.drop j = p :: l.drop (j + 1) := by
      obtain ⟨h1, rfl⟩ := List.getElem?_eq_some_iff.1 hp
      exact List.drop_eq_getElem_cons h1
    obtain ⟨y0, y1, y2, ⟨⟩⟩ := x
    obtain ⟨p0, p1, p2⟩ := p
    simp only at e1 e2 e3
    subst e1 e2
    refine SlN_ix eP_len (by omega) H.sl (by simp only; omega) (by simp only; rw [Int.toNat_natCast]; exact hxj) fun a' hc => ?_
    have c0 : W.cell? (a'.add 0) = some (.int .i64 y0) := hc 0 _ rfl
    have c1 : W.cell? (a'.add 1) = some (.bool y1) := hc 1 _ rfl
    have c2 : W.cell? (a'.add 2) = some (.slice y2.a y2.len y2.cap) := hc 2 _ rfl
    simp -zeta only [LdV_some, dec_slice, dec_int, dec_bool, c0, c1, c2]
    refine Al_f rfl rfl fun t W1 rt et zt ft => ?_
    have hq1 := hQ _ _ _ hq (ft _)
    have e3' := e3.1
    unfold pend at hpg
    simp only at hpg
    intro J
    have hend : ∀ (W' : World) (done' : List (Int × Int)), Row W' t [.int .i64 y0, .bool y1, .slice y2.a y2.len y2.cap] → w.heap.size ≤ W'.heap.size → gaps 0 l last = done' ++ gaps (max m (pend (y0, y1, p2))) (l.drop (j + 1)) last → Q done'.length W' → J false W' := by
      intro W' done' rt hz' hd' hq'
      simp only [J, cond_false]
      simp only [List.getElem?_cons_zero, List.getElem?_cons_succ, LdV_some, dec_slice, dec_int, dec_bool, add_mk, Nat.zero_add, Nat.add_zero, rt.cell]
      refine cm_holes_piece_end (end_ok _) ?_
      rintro r W'' ⟨rfl, hf⟩
      rw [wrap_i64 (n := y0 + _) (by (try simp only); omega) (by (try simp only); omega), wrap_i64 (by omega) (by omega)]
      have hmx : (if y0 + (y2.len : Int) > m then y0 + (y2.len : Int) else m) = max m (pend (y0, y1, p2)) := by
        unfold pend
        simp only
        rw [← e3']
        split <;> omega
      simp only
      rw [hmx]
      refine hnext _ _ ⟨j + 1, by omega, by simp, ?_, ?_, Nat.le_trans hz' hf.size, done', hd', hQ _ _ _ hq' (hf _)⟩ (by simp only; omega)
      · simp only; omega
      · unfold pend; simp only; omega
    have hTr : ∀ W', D W' → J true W' := by
      intro W' hd'
      simp only [J, cond_true]
      exact .inr hd'
    clear_value J
    rw [hdrop] at hd
    simp -zeta only [List.getElem?_cons_zero, LdV_some, dec_int, rt.cell]
    rw [gaps_cons] at hd
    simp only at hd
    by_cases hgt : y0 > m
    · rw [if_pos hgt] at hd
      rw [decide_eq_true hgt, cond_true]
      simp only [List.cons_append, List.nil_append] at hd
      refine callV_yield (hy done.length (m, y0, ()) W1 _ (by rw [hd]; exact yG_get) hq1 ?_ ?_)
      · intro W' hq' hf'
        refine ⟨true, rfl, ?_⟩
        rw [Bool.not_true]
        exact hend W' (done ++ [(m, y0)]) (rt.fr hf' (by omega)) (by have := hf'.size; omega) (by rw [hd]; simp) (by simpa using hq')
      · intro W' hd' hf'
        exact ⟨false, rfl, hTr W' hd'⟩
    · rw [if_neg hgt, List.nil_append] at hd
      rw [decide_eq_false hgt, cond_false]
      exact hend W1 done rt (by have := (ft fun _ => False).size; omega) hd hq1
  · rw [decide_eq_false hlt, cond_false]
    have : j = l.length := by omega
    subst this
    rw [List.drop_length] at hd
    simp only [ex_some, List.getElem?_cons_zero, List.getElem?_cons_succ, LdV_some, dec_int, dec_ptr, add_mk, Nat.zero_add, r0.cell, ex_some, H.row.cell]
    rw [gaps_end] at hd
    by_cases hgt : last > m
    · rw [if_pos hgt] at hd
      rw [decide_eq_true hgt, cond_true]
      refine callV_yield (hy done.length (m, last, ()) W _ (by rw [hd]; exact yG_get) hq ?_ ?_)
      · intro W' hq' hf'
        refine ⟨true, rfl, .inl ?_⟩
        rw [hd]
        simpa using hq'
      · intro W' hd' hf'
        exact ⟨false, rfl, .inr hd'⟩
    · rw [if_neg hgt] at hd
      rw [decide_eq_false hgt, cond_false]
      refine .inl ?_
      rw [hd]
      simpa using hq

theorem gaps_ok {w : World} {h : Nat} {s : SliceV} {xs : List P3} {l : List Pc} {last : Int} (H : HAt w h s xs l last) (hl : l.length ≤ 2 ^ 30) (hg : ∀ p ∈ l, 0 ≤ p.1 ∧ pend p ≤ 65535) :
    c_holes_Holes_Gaps (some ⟨h, 0, none⟩) w fun v w' => Ext w w' ∧ ∃ f0, w.heap.size ≤ f0 ∧ Row w' f0 [.pointer (some ⟨h, 0, none⟩)] ∧
      IterFn2 Try.prog [.one (.int .i64), .one (.int .i64)] v (fun W => Row W f0 [.pointer (some ⟨h, 0, none⟩)] ∧ HAt W h s xs l last) (yG (gaps 0 l last)) := by
  apply ok_holes_Holes_Gaps
  unfold s_holes_Holes_Gaps
  refine ⟨rfl, Al_e fun a w1 ra ea z1 f1 => ?_⟩
  exact ⟨f1, a, by omega, ra, gaps_iter hl hg⟩

theorem done_ok {w : World} {h : Nat} {s : SliceV} {xs : List P3} {l : List Pc} (H : HAt w h s xs l (lastE l)) (G : Gp.Hol.Good l) (hl : l.length ≤ 2 ^ 20) :
    c_holes_Holes_Done (some ⟨h, 0, none⟩) w fun r ok w' => ((ok = true ∧ 0 ≤ lastE l ∧ gaps 0 l (lastE l) = [] ∧ SlB w' r (cat l) ∧ ∀ a, r.a = some a → w.heap.size ≤ a.block) ∨ (ok = false ∧ (lastE l < 0 ∨ gaps 0 l (lastE l) ≠ []) ∧ SlB w' r [])) ∧ Ext w w' := by
  apply ok_holes_Holes_Done
  unfold s_holes_Holes_Done
  have hg : ∀ p ∈ l, 0 ≤ p.1 ∧ pend p ≤ 65535 := fun p hp => ⟨(G.ok p hp).1, (G.ok p hp).2.1⟩
  have hsl := sum_le hg
  have hsn := sum_nonneg l
  refine Al_e fun a w1 ra ea z1 f1 => Al_e fun b w2 rb eb z2 f2 => ?_
  have ra := ra.ext f2
  have f := f1.trans f2
  have H2 := H.ext f
  intro J
  have hT : lastE l < 0 → J true w2 := by
    intro hneg
    simp only [J, cond_true]
    refine St_row ra rfl (by simp) fun w3 ra3 g3 z3 => ?_
    simp only [List.set_cons_zero] at ra3
    have rb3 := rb.fr (g3 (· = a) rfl) (by omega)
    refine St_row rb3 rfl (by simp) fun w4 rb4 g4 z4 => ?_
    simp only [List.set_cons_zero] at rb4
    have ra4 := ra3.fr (g4 (· = b) rfl) (by omega)
    simp only [Ld_eq, List.getElem?_cons_zero, LdV_some, dec_slice, dec_bool, ra4.cell, rb4.cell]
    exact ⟨.inr ⟨by trivial, .inl hneg, SlB.nil⟩, f.new (S := fun x => x = a ∨ x = b) ((g3 _ (.inl rfl)).trans (g4 _ (.inr rfl)) fun _ _ e => e) (by intro x hx e; rcases e with rfl | rfl <;> omega)⟩
  have hF : 0 ≤ lastE l → J false w2 := by
    intro hpos
    simp only [J, cond_false]
    clear hT
    refine cm_holes_Holes_Gaps (gaps_ok H2 (by omega) hg) ?_
    rintro v w3 ⟨f3, f0, hf0, rf, hv⟩
    have ra3 := ra.ext f3
    have rb3 := rb.ext f3
    have e3 := f.trans f3
    have hrf := rf.lt
    have hra := ra.lt
    have hrb := rb.lt
    have z3 := f3.size
    have lq : lAt none w3 = w3.heap.size + 1 := rfl
    have hh := H.row.lt
    refine rng_iter2 hv (fun i W => i = 0 ∧ Row W a [.slice none 0 0] ∧ Row W b [.bool false] ∧ Row W f0 [.pointer (some ⟨h, 0, none⟩)] ∧ HAt W h s xs l (lastE l) ∧ Ext w W)
      (fun e W => e = .ret ∧ gaps 0 l (lastE l) ≠ [] ∧ Row W a [.slice none 0 0] ∧ Row W b [.bool false] ∧ Ext w W) (by simp) ?_ ?_ ?_ ?_ ?_ ?_ ?_ ?_ ?_
    · exact fun W hx _ => ⟨rfl, ra3.ext hx, rb3.ext hx, rf.ext hx, (H2.ext f3).ext hx, e3.trans hx⟩
    · exact fun i W hI => ⟨hI.2.2.2.1, hI.2.2.2.2.1⟩
    · rintro i W W' ⟨h1, h2, h3, h4, h5, h6⟩ hf
      rw [lq] at hf
      exact ⟨h1, h2.fr hf (by omega), h3.fr hf (by omega), h4.fr hf (by omega), h5.fr hf (by omega) (fun c hc => by have := H.buf.lt hc; have := e3.size; omega) (fun x hx a' ha' h0 hc => by
        obtain ⟨k, hk⟩ := List.getElem?_of_mem hx
        obtain ⟨p, hp, g1, g2, g3⟩ := H.pcs.get hk
        have := g3.lt ha' (by have := g3.1; omega)
        have := e3.size; omega), h6.new hf fun x hx e => by have := e3.size; omega⟩
    · rintro e W W' ⟨h1, h2, h3, h4, h5⟩ hf
      rw [lq] at hf
      exact ⟨h1, h2, h3.fr hf (by omega), h4.fr hf (by omega), h5.new hf fun x hx e => by have := e3.size; omega⟩
    · exact fun e W hJ => .inl hJ.1
    · rintro i x W Kb hx ⟨rfl, h2, h3, h4, h5, h6⟩ hlt hn hj
      rw [lq] at hlt hn hj ⊢
      refine ⟨by trivial, ?_⟩
      have fb := Fr8.busyW W (w3.heap.size + 1)
      have k2 := h2.fr fb (by omega)
      have k3 := h3.fr fb (by omega)
      have k6 : Ext w (busyW W (w3.heap.size + 1)) := h6.new fb fun x hx e => by have := e3.size; omega
      refine St_row k2 rfl (by simp) fun w4 ra4 g4 z4 => ?_
      simp only [List.set_cons_zero] at ra4
      have rb4 := k3.fr (g4 (· = a) rfl) (by omega)
      refine St_row rb4 rfl (by simp) fun w5 rb5 g5 z5 => ?_
      simp only [List.set_cons_zero] at rb5
      have ra5 := ra4.fr (g5 (· = b) rfl) (by omega)
      have g45 : Fr8 (busyW W (w3.heap.size + 1)) w5 (fun x => x = a ∨ x = b) := (g4 _ (.inl rfl)).trans (g5 _ (.inr rfl)) fun _ _ e => e
      refine hj .ret w5 (fun x => x = a ∨ x = b) g45 (by intro x e; rcases e with rfl | rfl <;> omega) ⟨rfl, fun he => ?_, ra5, rb5, k6.new g45 (by intro x hx e; rcases e with rfl | rfl <;> omega)⟩
      rw [he] at hx
      cases hx
    · rintro W ⟨hi, h2, h3, h4, h5, h6⟩ hm
      have hm := hm rfl
      have hnil : gaps 0 l (lastE l) = [] := by
        have : (gaps 0 l (lastE l)).length = 0 := by simpa [yG] using hi
        exact List.length_eq_zero_iff.1 this
      have hmlt := (Array.getElem?_eq_some_iff.1 hm).1
      simp only [ex_some, ex_some, Ld_eq, List.getElem?_cons_zero, List.getElem?_cons_succ, LdV_some, dec_int, add_mk, Nat.zero_add, h5.row.cell]
      refine MkSl_row (by omega) (by omega) (by omega) (by omega) fun c W1 rc ec zc fc => ?_
      have H1 := h5.ext fc
      simp only [List.getElem?_cons_zero, LdV_some, dec_slice, H1.row.cell]
      have hlen := H.len
      have hxl := H.pcs.len
      have hb0 : Buf W1 ⟨some ⟨c, 0, none⟩, 0, (sum l).toNat⟩ (bytesV []) := ⟨rfl, .inr ⟨c, repCells [Value.int .u8 0] (sum l).toNat, rfl, by simp only [repCells_len, bytesV, List.map_nil, List.length_nil, List.length_cons]; omega, by simpa [bytesV] using rc⟩⟩
      refine LoopP_inv (fun st W' => ∃ j : Nat, j ≤ l.length ∧ st.2.1 = (j : Int) ∧ Ext W W' ∧ Buf W' st.1 (bytesV (cat (l.take j))) ∧ ∀ x, SliceV.at st.1 x → W.heap.size ≤ x) (fun st _ => (l.length - st.2.1).toNat)
        ⟨0, by omega, rfl, fc, by simpa [cat] using hb0, fun x hx => by obtain ⟨o, e⟩ := hx; cases e; omega⟩ ?_
      rintro ⟨t, i', ⟨⟩⟩ W2 ⟨j, hj, hi', fW, hbuf, hat⟩ next hnext
      simp only at hi' hbuf hat
      subst hi'
      by_cases hlt : (j : Int) < (s.len : Int)
      · rw [decide_eq_true hlt, cond_true]
        have hxj := List.getElem?_eq_getElem (show j < xs.length by omega)
        generalize xs[j] = x at hxj
        have Hj := h5.ext fW
        obtain ⟨p, hp, e1, e2, e3⟩ := Hj.pcs.get hxj
        obtain ⟨y0, y1, y2, ⟨⟩⟩ := x
        obtain ⟨p0, p1, p2⟩ := p
        simp only at e1 e2 e3
        subst e1 e2
        refine SlN_ix eP_len (by omega) Hj.sl (by simp only; omega) (by simp only; rw [Int.toNat_natCast]; exact hxj) fun a' hc => ?_
        have c0 : W2.cell? (a'.add 0) = some (.int .i64 y0) := hc 0 _ rfl
        have c1 : W2.cell? (a'.add 1) = some (.bool y1) := hc 1 _ rfl
        have c2 : W2.cell? (a'.add 2) = some (.slice y2.a y2.len y2.cap) := hc 2 _ rfl
        simp only [LdV_some, dec_slice, dec_int, dec_bool, c0, c1, c2]
        refine Al_f rfl rfl fun u W3 ru eu zu fu => ?_
        simp only [List.getElem?_cons_zero, List.getElem?_cons_succ, LdV_some, dec_slice, add_mk, Nat.zero_add, ru.cell]
        have htk := Gp.Hol.take_snoc' hp
        have hs1 := sum_le (l := l.take (j + 1)) fun q hq => hg q (List.mem_of_mem_take hq)
        rw [List.length_take, Nat.min_eq_left (by omega), htk, ← cat_len, cat_snoc, List.length_append] at hs1
        simp only at hs1
        refine AppSl_bytes (hbuf.ext fu) (e3.ext fu) (by omega) fun s' W4 h1 h2 h3 _ => ?_
        rw [wrap_i64 (by (try simp only); omega) (by (try simp only); omega)]
        refine hnext _ _ ⟨j + 1, by omega, by simp, (fW.trans fu).new h2 fun x hx hc => ?_, ?_, ?_⟩ (by simp only; omega)
        · have := hat x hc; omega
        · rw [htk, cat_snoc]; exact h1
        · intro x hx
          rcases h3 x hx with h | h
          · exact hat x h
          · have := (fW.trans fu).size; omega
      · rw [decide_eq_false hlt, cond_false]
        have : j = l.length := by omega
        subst this
        rw [List.take_length] at hbuf
        have r1 := h2.ext fW
        have r2 := h3.ext fW
        refine St_row r1 rfl (by simp) fun w4 ra4 g4 z4 => ?_
        simp only [List.set_cons_zero] at ra4
        have rb4 := r2.fr (g4 (· = a) rfl) (by omega)
        refine St_row rb4 rfl (by simp) fun w5 rb5 g5 z5 => ?_
        simp only [List.set_cons_zero] at rb5
        have ra5 := ra4.fr (g5 (· = b) rfl) (by omega)
        have g45 : Fr8 W2 w5 (fun x => x = a ∨ x = b) := (g4 _ (.inl rfl)).trans (g5 _ (.inr rfl)) fun _ _ e => e
        have hza := h2.lt
        have hzb := h3.lt
        refine ⟨?_, ?_⟩
        · rw [← hm, ← (fW fun _ => False).same w3.heap.size hmlt (by simp)]
          exact g45.same _ (by have := fW.size; omega) (by intro e; rcases e with e | e <;> omega)
        · have fp := Fr8.putDef w5 w3.heap.size (.deferred none)
          have q1 := ra5.fr fp (by omega)
          have q2 := rb5.fr fp (by omega)
          simp only [List.getElem?_cons_zero, LdV_some, dec_slice, dec_bool, q1.cell, q2.cell]
          have hb2 : SlB (w5.putObj w3.heap.size (.deferred none)) t (cat l) := by
            refine ((SlB.of_buf hbuf).fr g45 fun a' ha' _ e => ?_).fr fp fun a' ha' _ e => ?_
            · have := hat _ (hbuf.at_eq ha'); rcases e with e | e <;> omega
            · have := hat _ (hbuf.at_eq ha'); omega
          exact ⟨.inl ⟨by trivial, hpos, hnil, hb2, fun a' ha' => by have := hat _ (hbuf.at_eq ha'); have := h6.size; omega⟩, (((h6.trans fW).new g45 (by intro x hx e; rcases e with rfl | rfl <;> omega))).new fp fun x hx e => by have := e3.size; omega⟩
    · rintro W ⟨_, hne, h3, h4, h5⟩ hm
      have hm := hm rfl
      have hmlt := (Array.getElem?_eq_some_iff.1 hm).1
      refine ⟨hm, ?_⟩
      have fp := Fr8.putDef W w3.heap.size (.deferred none)
      have q1 := h3.fr fp (by omega)
      have q2 := h4.fr fp (by omega)
      simp only [Ld_eq, List.getElem?_cons_zero, LdV_some, dec_slice, dec_bool, q1.cell, q2.cell]
      exact ⟨.inr ⟨by trivial, .inr hne, SlB.nil⟩, h5.new fp fun x hx e => by have := e3.size; omega⟩
    · rintro id W ⟨h1, _⟩
      cases h1
  clear_value J
  refine cm_holes_Holes_ready (ready_ok H2) ?_
  rintro r w0 ⟨rfl, hw⟩
  have hw := hw.symm
  subst hw
  rw [Bool.not_true, cond_false]
  simp -zeta only [ex_some, ex_some, Ld_eq, List.getElem?_cons_zero, List.getElem?_cons_succ, LdV_some, dec_int, add_mk, Nat.zero_add, H2.row.cell]
  by_cases hneg : lastE l < 0
  · rw [decide_eq_true hneg]; exact hT hneg
  · rw [decide_eq_false hneg]; exact hF (by omega)



/-- The document's parts, in memory. -/
structure RAt (w : World) (x : Nat) (t : SliceV) (ys : List P3) (L : List Pc) : Prop where
  row : Row w x [.slice t.a t.len t.cap]
  buf : BufN 3 eP w t ys
  pcs : PcsAt w ys L
  apart : ∀ b, SliceV.at t b → b ≠ x
  free : FreeP ys fun b => b = x

theorem RAt.ext {w w' : World} {x : Nat} {t : SliceV} {ys : List P3} {L : List Pc} (R : RAt w x t ys L) (hf : Ext w w') : RAt w' x t ys L := ⟨R.row.ext hf, R.buf.ext hf, R.pcs.ext hf, R.apart, R.free⟩

theorem RAt.fr {w w' : World} {x : Nat} {t : SliceV} {ys : List P3} {L : List Pc} {S : Nat → Prop} (R : RAt w x t ys L) (hf : Fr8 w w' S) (h1 : ¬ S x) (h2 : ∀ b, SliceV.at t b → ¬ S b) (h3 : FreeP ys S) : RAt w' x t ys L :=
  ⟨R.row.fr hf h1, R.buf.fr hf h2, R.pcs.fr hf h3, R.apart, R.free⟩

theorem RAt.sl {w : World} {x : Nat} {t : SliceV} {ys : List P3} {L : List Pc} (R : RAt w x t ys L) : SlN 3 eP w t ys := R.buf.sl eP_len (by omega)

theorem RAt.len {w : World} {x : Nat} {t : SliceV} {ys : List P3} {L : List Pc} (R : RAt w x t ys L) : t.len = L.length := R.buf.len.trans R.pcs.len

/-- A part of the document's parts is read. -/
theorem RAt.ix {w : World} {x : Nat} {t : SliceV} {ys : List P3} {L : List Pc} (R : RAt w x t ys L) {j : Nat} (hj : j < L.length) {K : Addr → Prop}
    (hK : ∀ (a : Addr) (y0 : Int) (y1 : Bool) (y2 : SliceV) (b : List UInt8), L[j]? = some (y0, y1, b) → ys[j]? = some (y0, y1, y2, ()) → SlB w y2 b → w.cell? a = some (.int .i64 y0) → w.cell? (a.add 1) = some (.bool y1) → w.cell? (a.add 2) = some (.slice y2.a y2.len y2.cap) → K a) : AtIx t 3 (j : Int) K := by
  have hlen := R.buf.len
  have hxl := R.pcs.len
  have hxj := List.getElem?_eq_getElem (show j < ys.length by omega)
  generalize ys[j] = y at hxj
  obtain ⟨p, hp, e1, e2, e3⟩ := R.pcs.get hxj
  obtain ⟨y0, y1, y2, ⟨⟩⟩ := y
  obtain ⟨p0, p1, p2⟩ := p
  simp only at e1 e2 e3
  subst e1 e2
  refine SlN_ix eP_len (by omega) R.sl (by omega) (by rw [Int.toNat_natCast]; exact hxj) fun a' hc => ?_
  exact hK a' y0 y1 y2 p2 hp hxj e3 (hc 0 _ rfl) (hc 1 _ rfl) (hc 2 _ rfl)

theorem take_any {L : List Pc} {f : Pc → Bool} {j : Nat} {p : Pc} (hp : L[j]? = some p) (h : (L.take j).any f = false) (hf : f p = false) : (L.take (j + 1)).any f = false := by
  rw [List.take_add_one, hp, Option.toList_some, List.any_append, h, List.any_cons, hf, List.any_nil]; rfl

theorem add0 (a : Addr) : a.add 0 = a := by unfold Addr.add; simp

theorem same_ok {w : World} {x : Nat} {t : SliceV} {ys : List P3} {L : List Pc} (R : RAt w x t ys L) (hl : L.length ≤ 2 ^ 30) {off : Int} {more : Bool} {s : SliceV} {b : List UInt8} (hs : SlB w s b) :
    c_ref15_Holes_same (some ⟨x, 0, none⟩) off more s w fun r w' => r = decide (((off, more, b) : Pc) ∈ L) ∧ Ext w w' := by
  apply ok_ref15_Holes_same
  unfold s_ref15_Holes_same
  have hlen := R.len
  refine LoopP_inv (fun st W => ∃ j : Nat, j ≤ L.length ∧ st.1 = (j : Int) ∧ Ext w W ∧ (L.take j).any (fun p => decide (p = (off, more, b))) = false) (fun st _ => (L.length - st.1).toNat) ⟨0, by omega, rfl, Ext.refl _, by simp⟩ ?_
  rintro ⟨i, ⟨⟩⟩ W ⟨j, hj, hi, hw, hm⟩ next hnext
  simp only at hi
  subst hi
  have RW := R.ext hw
  simp -zeta only [ex_some, ex_some, Ld_eq, List.getElem?_cons_zero, LdV_some, dec_slice, RW.row.cell]
  by_cases hlt : (j : Int) < (t.len : Int)
  · rw [decide_eq_true hlt, cond_true]
    refine RW.ix (by omega) fun a y0 y1 y2 p2 hp _ e3 c0 c1 c2 => ?_
    simp -zeta only [LdV_some, dec_slice, dec_int, dec_bool, add0, c0, c1, c2]
    refine Al_f rfl rfl fun u W1 ru eu zu fu => ?_
    have hw1 := hw.trans fu
    intro J
    have hJT : (y0, y1, p2) = ((off, more, b) : Pc) → J true := by
      intro he
      simp only [J, cond_true]
      exact ⟨(decide_eq_true (he ▸ List.mem_of_getElem? hp)).symm, hw1⟩
    have hJF : (y0, y1, p2) ≠ ((off, more, b) : Pc) → J false := by
      intro he
      simp only [J, cond_false]
      rw [wrap_i64 (by omega) (by omega)]
      exact hnext _ _ ⟨j + 1, by omega, by simp, hw1, take_any hp hm (decide_eq_false he)⟩ (by simp only; omega)
    clear_value J
    simp -zeta only [List.getElem?_cons_zero, List.getElem?_cons_succ, LdV_some, dec_slice, dec_int, dec_bool, add_mk, Nat.zero_add, ru.cell]
    by_cases h1 : y0 = off
    · rw [show (y0 == off) = true by simpa using h1, cond_true]
      by_cases h2 : y1 = more
      · rw [show (y1 == more) = true by simpa using h2, cond_true]
        refine bytesStr_of (e3.ext fu) (bytesStr_of (hs.ext hw1) ?_)
        have hst : strEq ⟨⟨p2⟩⟩ ⟨⟨b⟩⟩ = decide (p2 = b) := by
          unfold strEq
          rw [ByteArray.toList_eq, ByteArray.toList_eq]
          show (p2 == b) = decide (p2 = b)
          by_cases h : p2 = b <;> simp [h]
        rw [hst]
        by_cases h3 : p2 = b
        · rw [decide_eq_true h3]; exact hJT (by rw [h1, h2, h3])
        · rw [decide_eq_false h3]; exact hJF fun h => h3 (by simp only [Prod.mk.injEq] at h; exact h.2.2)
      · rw [show (y1 == more) = false by simpa using h2, cond_false]
        exact hJF fun h => h2 (by simp only [Prod.mk.injEq] at h; exact h.2.1)
    · rw [show (y0 == off) = false by simpa using h1, cond_false]
      exact hJF fun h => h1 (by simp only [Prod.mk.injEq] at h; exact h.1)
  · rw [decide_eq_false hlt, cond_false]
    rw [List.take_of_length_le (by omega)] at hm
    refine ⟨(decide_eq_false fun h => ?_).symm, hw⟩
    have := List.any_eq_false.1 hm _ h
    simp at this

theorem shares_ok {w : World} {x : Nat} {t : SliceV} {ys : List P3} {L : List Pc} (R : RAt w x t ys L) (hl : L.length ≤ 2 ^ 30) (hg : ∀ p ∈ L, 0 ≤ p.1 ∧ pend p ≤ 65535) {off : Int} {more : Bool} {s : SliceV} {b : List UInt8} (hs : SlB w s b) (h0 : 0 ≤ off) (h1 : pend (off, more, b) ≤ 65535) :
    c_ref15_Holes_shares (some ⟨x, 0, none⟩) off s w fun r w' => r = L.any (sh (off, more, b)) ∧ Ext w w' := by
  apply ok_ref15_Holes_shares
  unfold s_ref15_Holes_shares
  have hlen := R.len
  refine LoopP_inv (fun st W => ∃ j : Nat, j ≤ L.length ∧ st.1 = (j : Int) ∧ Ext w W ∧ (L.take j).any (sh (off, more, b)) = false) (fun st _ => (L.length - st.1).toNat) ⟨0, by omega, rfl, Ext.refl _, by simp⟩ ?_
  rintro ⟨i, ⟨⟩⟩ W ⟨j, hj, hi, hw, hm⟩ next hnext
  simp only at hi
  subst hi
  have RW := R.ext hw
  simp -zeta only [ex_some, ex_some, Ld_eq, List.getElem?_cons_zero, LdV_some, dec_slice, RW.row.cell]
  by_cases hlt : (j : Int) < (t.len : Int)
  · rw [decide_eq_true hlt, cond_true]
    refine RW.ix (by omega) fun a y0 y1 y2 p2 hp _ e3 c0 c1 c2 => ?_
    have hpm := List.mem_of_getElem? hp
    have hpg := hg _ hpm
    simp -zeta only [LdV_some, dec_slice, dec_int, dec_bool, add0, c0, c1, c2]
    refine Al_f rfl rfl fun u W1 ru eu zu fu => ?_
    have hw1 := hw.trans fu
    have hsl := hs.1
    have e3l := e3.1
    have nb := empty_iff hs
    have np := empty_iff e3
    unfold pend at h1 hpg
    simp only at h1 hpg
    have hgb : decide ((s.len : Int) > 0) = !b.isEmpty := by
      rw [hsl]
      cases b with
      | nil => rfl
      | cons c l => exact decide_eq_true (by simp only [List.length_cons]; omega)
    have hgp : decide ((y2.len : Int) > 0) = !p2.isEmpty := by
      rw [e3l]
      cases p2 with
      | nil => rfl
      | cons c l => exact decide_eq_true (by simp only [List.length_cons]; omega)
    intro J
    have hJ : ∀ v, v = (!p2.isEmpty && !b.isEmpty) → J v := by
      intro v hv
      simp -zeta only [J]
      refine JoinP.of fun J2 hJ2 => ?_
      have hJ2' : ∀ v2 : Bool, v2 = sh (off, more, b) (y0, y1, p2) → J2 ((v2, ()), W1) := by
        intro v2 h2
        refine hJ2 _ ?_
        dsimp only
        cases v2
        · rw [cond_false, wrap_i64 (by omega) (by omega)]
          exact hnext _ _ ⟨j + 1, by omega, by simp, hw1, take_any hp hm h2.symm⟩ (by simp only; omega)
        · rw [cond_true]
          exact ⟨(List.any_eq_true.2 ⟨_, hpm, h2.symm⟩).symm, hw1⟩
      unfold sh pend at hJ2'
      simp only at hJ2'
      have w1 : IntKind.i64.wrap (off + (s.len : Int)) = off + (b.length : Int) := by rw [wrap_i64 (by omega) (by omega), hsl]
      have w2 : IntKind.i64.wrap (y0 + (y2.len : Int)) = y0 + (p2.length : Int) := by rw [wrap_i64 (by omega) (by omega), e3l]
      simp -zeta only [List.getElem?_cons_zero, List.getElem?_cons_succ, LdV_some, dec_slice, dec_int, add_mk, Nat.zero_add, ru.cell, w1, w2, nb, np]
      have e01 : (y0 == off) = decide (off = y0) := by
        by_cases h : y0 = off
        · simp [h]
        · have : ¬ off = y0 := fun e => h e.symm
          simp [h, this]
      rw [e01]
      generalize b.isEmpty = eb at *
      generalize p2.isEmpty = ep at *
      generalize decide (y0 < off + (b.length : Int)) = d1 at *
      generalize decide (off < y0 + (p2.length : Int)) = d2 at *
      generalize decide (off = y0) = d3 at *
      subst hv
      cases eb <;> cases ep <;> cases d1 <;> cases d2 <;> cases d3 <;> exact hJ2' _ rfl
    clear_value J
    simp -zeta only [List.getElem?_cons_zero, List.getElem?_cons_succ, LdV_some, dec_slice, add_mk, Nat.zero_add, ru.cell, hgp, hgb]
    cases hpe : p2.isEmpty
    · simp only [Bool.not_false, cond_true]
      exact hJ _ (by rw [hpe]; rfl)
    · simp only [Bool.not_true, cond_false]
      exact hJ _ (by rw [hpe]; rfl)
  · rw [decide_eq_false hlt, cond_false]
    rw [List.take_of_length_le (by omega)] at hm
    exact ⟨hm.symm, hw⟩

theorem lastE_cons (p : Pc) (l : List Pc) : lastE (p :: l) = if p.2.1 = false then pend p else lastE l := rfl

theorem rend_ok {w : World} {x : Nat} {t : SliceV} {ys : List P3} {L : List Pc} (R : RAt w x t ys L) (hl : L.length ≤ 2 ^ 30) (hg : ∀ p ∈ L, 0 ≤ p.1 ∧ pend p ≤ 65535) :
    c_ref15_Holes_end (some ⟨x, 0, none⟩) w fun r w' => r = lastE L ∧ Ext w w' := by
  apply ok_ref15_Holes_end
  unfold s_ref15_Holes_end
  have hlen := R.len
  refine LoopP_inv (fun st W => ∃ j : Nat, j ≤ L.length ∧ st.1 = (j : Int) ∧ Ext w W ∧ lastE L = lastE (L.drop j)) (fun st _ => (L.length - st.1).toNat) ⟨0, by omega, rfl, Ext.refl _, rfl⟩ ?_
  rintro ⟨i, ⟨⟩⟩ W ⟨j, hj, hi, hw, hm⟩ next hnext
  simp only at hi
  subst hi
  have RW := R.ext hw
  simp -zeta only [ex_some, ex_some, Ld_eq, List.getElem?_cons_zero, LdV_some, dec_slice, RW.row.cell]
  by_cases hlt : (j : Int) < (t.len : Int)
  · rw [decide_eq_true hlt, cond_true]
    refine RW.ix (by omega) fun a y0 y1 y2 p2 hp hy e3 c0 c1 c2 => ?_
    have hdrop : L.drop j = (y0, y1, p2) :: L.drop (j + 1) := by
      obtain ⟨h1, h2⟩ := List.getElem?_eq_some_iff.1 hp
      rw [← h2]
      exact List.drop_eq_getElem_cons h1
    rw [hdrop] at hm
    rw [lastE_cons] at hm
    simp only at hm
    have hpg := hg _ (List.mem_of_getElem? hp)
    unfold pend at hpg
    simp only at hpg
    simp only [LdV_some, dec_bool, c1]
    cases y1
    · simp only [Bool.not_false, cond_true]
      have RD := RW.ext (Ext.drew W)
      simp only [List.getElem?_cons_zero, LdV_some, dec_slice, RD.row.cell]
      have hs := RD.sl
      refine RD.ix (by omega) fun a y0' y1' y2' p2' hp' hy' e3' c0' c1' c2' => ?_
      rw [hp] at hp'
      cases hp'
      simp only [LdV_some, dec_int, c0']
      refine RD.ix (by omega) fun a y0' y1' y2' p2' hp' hy' e3' c0' c1' c2' => ?_
      rw [hp] at hp'
      cases hp'
      simp only [LdV_some, dec_slice, c2']
      have := e3'.1
      rw [wrap_i64 (by (try simp only); omega) (by (try simp only); omega), hm, if_pos rfl, this]
      exact ⟨rfl, hw.trans (Ext.drew _)⟩
    · simp only [Bool.not_true, cond_false]
      rw [wrap_i64 (by omega) (by omega)]
      exact hnext _ _ ⟨j + 1, by omega, by simp, hw, by rw [hm]; simp⟩ (by simp only; omega)
  · rw [decide_eq_false hlt, cond_false]
    rw [List.drop_of_length_le (by omega)] at hm
    exact ⟨hm.symm, hw⟩

theorem rfar_ok {w : World} {x : Nat} {t : SliceV} {ys : List P3} {L : List Pc} (R : RAt w x t ys L) (hl : L.length ≤ 2 ^ 30) (hg : ∀ p ∈ L, 0 ≤ p.1 ∧ pend p ≤ 65535) :
    c_ref15_Holes_Far (some ⟨x, 0, none⟩) w fun r w' => r = far L ∧ Ext w w' := by
  apply ok_ref15_Holes_Far
  unfold s_ref15_Holes_Far
  have hlen := R.len
  refine LoopP_inv (fun st W => ∃ j : Nat, j ≤ L.length ∧ st.2.1 = (j : Int) ∧ Ext w W ∧ st.1 = far (L.take j)) (fun st _ => (L.length - st.2.1).toNat) ⟨0, by omega, rfl, Ext.refl _, rfl⟩ ?_
  rintro ⟨m, i, ⟨⟩⟩ W ⟨j, hj, hi, hw, hm⟩ next hnext
  simp only at hi hm
  subst hi hm
  have RW := R.ext hw
  have RD := RW.ext (Ext.drew W)
  simp -zeta only [ex_some, ex_some, Ld_eq, List.getElem?_cons_zero, LdV_some, dec_slice, RW.row.cell]
  by_cases hlt : (j : Int) < (t.len : Int)
  · rw [decide_eq_true hlt, cond_true]
    simp -zeta only [List.getElem?_cons_zero, LdV_some, dec_slice, RD.row.cell]
    refine RD.ix (by omega) fun a y0 y1 y2 p2 hp hy e3 c0 c1 c2 => ?_
    simp -zeta only [LdV_some, dec_int, c0]
    refine RD.ix (by omega) fun a y0' y1' y2' p2' hp' hy' e3' c0' c1' c2' => ?_
    rw [hp] at hp'
    cases hp'
    have hpg := hg _ (List.mem_of_getElem? hp)
    unfold pend at hpg
    simp only at hpg
    have e := e3'.1
    simp only [LdV_some, dec_slice, c2']
    rw [wrap_i64 (n := y0 + _) (by (try simp only); omega) (by (try simp only); omega), wrap_i64 (by omega) (by omega)]
    refine hnext _ _ ⟨j + 1, by omega, by simp, hw.trans (Ext.drew _), ?_⟩ (by simp only; omega)
    rw [Gp.Hol.take_snoc' hp]
    unfold far
    rw [List.foldl_append]
    simp only [List.foldl_cons, List.foldl_nil]
    unfold pend
    simp only
    rw [← e]
    split <;> omega
  · rw [decide_eq_false hlt, cond_false]
    rw [List.take_of_length_le (by omega)]
    exact ⟨rfl, hw⟩

theorem rbytes_ok {w : World} {x : Nat} {t : SliceV} {ys : List P3} {L : List Pc} (R : RAt w x t ys L) (hl : L.length ≤ 2 ^ 30) (hg : ∀ p ∈ L, 0 ≤ p.1 ∧ pend p ≤ 65535) :
    c_ref15_Holes_Bytes (some ⟨x, 0, none⟩) w fun r w' => r = sum L ∧ w' = w := by
  apply ok_ref15_Holes_Bytes
  unfold s_ref15_Holes_Bytes
  have hlen := R.len
  simp -zeta only [ex_some]
  refine LoopP_inv (fun st W => ∃ j : Nat, j ≤ L.length ∧ st.2.1 = (j : Int) ∧ W = w ∧ st.1 = sum (L.take j)) (fun st _ => (L.length - st.2.1).toNat) ⟨0, by omega, rfl, rfl, rfl⟩ ?_
  rintro ⟨m, i, ⟨⟩⟩ W ⟨j, hj, hi, rfl, hm⟩ next hnext
  simp only at hi hm
  subst hi hm
  simp -zeta only [Ld_eq, List.getElem?_cons_zero, LdV_some, dec_slice, R.row.cell]
  by_cases hlt : (j : Int) < (t.len : Int)
  · rw [decide_eq_true hlt, cond_true]
    refine R.ix (by omega) fun a y0 y1 y2 p2 hp hy e3 c0 c1 c2 => ?_
    simp only [LdV_some, dec_slice, c2]
    have e := e3.1
    have h1 := sum_le (l := L.take (j + 1)) fun q hq => hg q (List.mem_of_mem_take hq)
    have h2 := sum_nonneg (L.take j)
    have h3 : sum (L.take (j + 1)) = sum (L.take j) + (p2.length : Int) := by
      rw [Gp.Hol.take_snoc' hp]; simp [sum]
    rw [List.length_take, Nat.min_eq_left (by omega)] at h1
    rw [wrap_i64 (n := sum _ + _) (by (try simp only); omega) (by (try simp only); omega), wrap_i64 (by omega) (by omega)]
    exact hnext _ _ ⟨j + 1, by omega, by simp, rfl, by simp only; rw [h3, e]⟩ (by simp only; omega)
  · rw [decide_eq_false hlt, cond_false]
    rw [List.take_of_length_le (by omega)]
    exact ⟨rfl, by trivial⟩

theorem rroom_ok {w : World} {x : Nat} {t : SliceV} {ys : List P3} {L : List Pc} (R : RAt w x t ys L) (hl : L.length ≤ 2 ^ 30) {off : Int} {s : SliceV} {b : List UInt8} (hs : SlB w s b) :
    c_ref15_Holes_Room (some ⟨x, 0, none⟩) off s w fun r w' => r = roomP L off b ∧ Ext w w' := by
  apply ok_ref15_Holes_Room
  unfold s_ref15_Holes_Room roomP
  intro J
  refine cm_ref15_Holes_same (same_ok R hl hs) ?_
  rintro r w2 ⟨rfl, f2⟩
  by_cases h1 : ((off, true, b) : Pc) ∈ L
  · rw [decide_eq_true h1, cond_true]
    simp only [J, cond_true, if_pos (Or.inl h1 : ((off, true, b) : Pc) ∈ L ∨ ((off, false, b) : Pc) ∈ L)]
    exact ⟨by trivial, f2⟩
  rw [decide_eq_false h1, cond_false]
  refine cm_ref15_Holes_same (same_ok (R.ext f2) hl (hs.ext f2)) ?_
  rintro r w3 ⟨rfl, f3⟩
  by_cases h2 : ((off, false, b) : Pc) ∈ L
  · rw [decide_eq_true h2]
    simp only [J, cond_true, if_pos (Or.inr h2 : ((off, true, b) : Pc) ∈ L ∨ ((off, false, b) : Pc) ∈ L)]
    exact ⟨by trivial, f2.trans f3⟩
  rw [decide_eq_false h2]
  simp only [J, cond_false]
  rw [if_neg (by simp [h1, h2])]
  exact ⟨by rw [hs.1], f2.trans f3⟩



theorem radd_ok {w : World} {x : Nat} {t : SliceV} {ys : List P3} {L : List Pc} (R : RAt w x t ys L) (hl : L.length ≤ 2 ^ 20) (hg : ∀ p ∈ L, 0 ≤ p.1 ∧ pend p ≤ 65535) {off : Int} {more : Bool} {s : SliceV} {b : List UInt8} (hs : SlB w s b) (hb : b.length ≤ 2 ^ 40) :
    c_ref15_Holes_Add (some ⟨x, 0, none⟩) off more s w fun r w' => r = (add L (off, more, b)).1 ∧ ∃ t' ys', RAt w' x t' ys' (add L (off, more, b)).2 ∧ Fr8 w w' (· = x) ∧ (∀ c, SliceV.at t' c → SliceV.at t c ∨ w.heap.size ≤ c) ∧
      ∀ y ∈ ys', y ∈ ys ∨ ∀ a, y.2.2.1.a = some a → w.heap.size ≤ a.block := by
  apply ok_ref15_Holes_Add
  unfold s_ref15_Holes_Add
  have hsl := hs.1
  have keep : ∀ (n : Int) w', Ext w w' → n = (add L (off, more, b)).1 → (add L (off, more, b)).2 = L → n = (add L (off, more, b)).1 ∧ ∃ t' ys', RAt w' x t' ys' (add L (off, more, b)).2 ∧ Fr8 w w' (· = x) ∧ (∀ c, SliceV.at t' c → SliceV.at t c ∨ w.heap.size ≤ c) ∧
      ∀ y ∈ ys', y ∈ ys ∨ ∀ a, y.2.2.1.a = some a → w.heap.size ≤ a.block :=
    fun n w' hf h1 h2 => ⟨h1, t, ys, (by rw [h2]; exact R.ext hf), hf _, fun c hc => .inl hc, fun y hy => .inl hy⟩
  intro J
  have hT : (off < 0 ∨ (more = true ∧ (b.length = 0 ∨ b.length % 8 ≠ 0))) → J true := by
    intro h
    simp only [J, cond_true]
    have hm : may (off, more, b) = 4 := by unfold may; rw [if_pos h]
    have ha : add L (off, more, b) = (4, L) := by unfold add; rw [if_pos (by rw [hm]; decide), hm]
    exact keep 4 w (Ext.refl _) (by rw [ha]) (by rw [ha])
  have hF : ¬ (off < 0 ∨ (more = true ∧ (b.length = 0 ∨ b.length % 8 ≠ 0))) → J false := by
    intro h
    clear hT
    simp -zeta only [J, cond_false]
    by_cases h6 : off > 65535 - (b.length : Int)
    · rw [decide_eq_true (by rw [wrap_i64 (by omega) (by omega), hsl]; exact h6), cond_true]
      have hm : may (off, more, b) = 6 := by unfold may; rw [if_neg h, if_pos h6]
      have ha : add L (off, more, b) = (6, L) := by unfold add; rw [if_pos (by rw [hm]; decide), hm]
      exact keep 6 w (Ext.refl _) (by rw [ha]) (by rw [ha])
    rw [decide_eq_false (by rw [wrap_i64 (by omega) (by omega), hsl]; exact h6), cond_false]
    have hm : may (off, more, b) = 0 := by unfold may; rw [if_neg h, if_neg h6]
    obtain ⟨o0, o1, o2⟩ := may_ok hm
    have o0 : 0 ≤ off := o0
    refine cm_ref15_Holes_same (same_ok R (by omega) hs) ?_
    rintro r w2 ⟨rfl, f2⟩
    by_cases hmem : ((off, more, b) : Pc) ∈ L
    · rw [decide_eq_true hmem, cond_true]
      have ha : add L (off, more, b) = (0, L) := by unfold add; rw [if_neg (by rw [hm]; simp), if_pos hmem]
      exact keep 0 w2 f2 (by rw [ha]) (by rw [ha])
    rw [decide_eq_false hmem, cond_false]
    refine cm_ref15_Holes_shares (shares_ok (more := more) (R.ext f2) (by omega) hg (hs.ext f2) o0 o1) ?_
    rintro r w3 ⟨rfl, f3⟩
    have e3 := f2.trans f3
    cases hany : L.any (sh (off, more, b))
    case true =>
      rw [cond_true]
      have ha : add L (off, more, b) = (9, L) := by unfold add; rw [if_neg (by rw [hm]; simp), if_neg hmem, if_pos hany]
      exact keep 9 w3 e3 (by rw [ha]) (by rw [ha])
    rw [cond_false]
    refine cm_ref15_Holes_end (rend_ok (R.ext e3) (by omega) hg) ?_
    rintro r w4 ⟨rfl, f4⟩
    have e4 := e3.trans f4
    intro J2
    have hbad : ∀ W, Ext w W → fits L (lastE L) (off, more, b) = false → J2 true W := by
      intro W hf hfit
      simp only [J2, cond_true]
      have ha : add L (off, more, b) = (4, L) := by unfold add; rw [if_neg (by rw [hm]; simp), if_neg hmem, if_neg (by rw [hany]; simp), if_pos hfit]
      exact keep 4 W hf (by rw [ha]) (by rw [ha])
    have hgood : ∀ W, Ext w W → fits L (lastE L) (off, more, b) = true → J2 false W := by
      intro W hf hfit
      clear hbad
      simp -zeta only [J2, cond_false]
      have ha : add L (off, more, b) = (0, L ++ [(off, more, b)]) := by unfold add; rw [if_neg (by rw [hm]; simp), if_neg hmem, if_neg (by rw [hany]; simp), if_neg (by rw [hfit]; simp)]
      rw [ha]
      have RW := R.ext hf
      simp -zeta only [ex_some, ex_some, Ld_eq, List.getElem?_cons_zero, LdV_some, dec_slice, RW.row.cell]
      have hyl := R.pcs.len
      refine AppSl_bufN eP_len BufN.nil RW.sl rfl (by omega) eP_one (by simp only [List.length_nil]; omega) (by simp only [List.length_nil]; omega) fun s1 w5 b1 f5 at1 => ?_
      have f5 : Ext W w5 := f5.new (by rintro c hc ⟨o, e⟩; cases e)
      have e5 := hf.trans f5
      have hs1lt : ∀ c, SliceV.at s1 c → c < w5.heap.size := fun c hc => b1.lt hc
      refine AppSl_bytes (l := []) (Buf.nil) ((hs.ext e5)) (by simp only [List.length_nil]; omega) fun s2 w6 b2 f6 at2 _ => ?_
      have f6 : Ext w5 w6 := f6.new (by rintro c hc ⟨o, e⟩; cases e)
      have b2 : Buf w6 s2 (bytesV b) := b2
      refine Al_e fun v w7 rv ev z7 f7 => ?_
      have hd7 : SlB w7 s2 b := (SlB.of_buf b2).ext f7
      have hyl7 : SlN 3 eP w7 ⟨some ⟨v, 0, none⟩, 1, 1⟩ [(off, more, s2, ())] := (BufN.row (xs := [((off, more, s2, ()) : P3)]) (f := eP) (n := 3) rv).sl eP_len (by omega)
      have b1 : BufN 3 eP w7 s1 ys := by simpa using (b1.ext f6).ext f7
      refine AppSl_bufN eP_len b1 hyl7 rfl (by omega) eP_one (by simp only [List.length_singleton]; omega) (by simp only [List.length_singleton]; omega) fun s3 w8 b3 f8 at3 => ?_
      have e7 := (e5.trans f6).trans f7
      have hat1 : ∀ c, SliceV.at s1 c → w.heap.size ≤ c := fun c hc => by
        rcases at1 c hc with ⟨o, e⟩ | h
        · cases e
        · have := hf.size; omega
      have hat3 : ∀ c, SliceV.at s3 c → w.heap.size ≤ c := fun c hc => by
        rcases at3 c hc with h | h
        · exact hat1 c h
        · have := e7.size; omega
      have hs2 : ∀ a, s2.a = some a → w5.heap.size ≤ a.block := fun a ha' => by
        rcases at2 _ (b2.at_eq ha') with ⟨o, e⟩ | h
        · cases e
        · exact h
      have hxlt := R.row.lt
      have e8 : Ext w w8 := e7.new f8 fun c hc hc' => by have := hat1 c hc'; omega
      have hpc : PcsAt w8 (ys ++ [(off, more, s2, ())]) (L ++ [(off, more, b)]) := by
        have h := (R.pcs.ext e8).ins (Nat.le_refl _) (x := (off, more, s2, ())) (p := (off, more, b)) ⟨rfl, rfl, hd7.fr f8 fun a ha' h0 hc => ?_⟩
        · rw [List.take_length, List.drop_length] at h
          rw [hyl, List.take_length, List.drop_length] at h
          exact h
        · -- the new bytes are not where the list is
          have h1 := hs2 a ha'
          have h2 := hs1lt _ hc
          omega
      have hfree : FreeP (ys ++ [(off, more, s2, ())]) fun c => c = x := by
        intro y hy a ha' h0 e
        rcases List.mem_append.1 hy with hy | hy
        · exact R.free y hy a ha' h0 e
        · rw [List.mem_singleton.1 hy] at ha'
          have := hs2 a ha'
          have := e5.size
          omega
      have R8 := R.row.ext e8
      refine St_row R8 rfl (by simp) fun w9 r9 f9 z9 => ?_
      simp only [List.set_cons_zero] at r9
      have hs3x : ∀ c, SliceV.at s3 c → c ≠ x := fun c hc e => by have := hat3 c hc; omega
      refine ⟨by trivial, s3, _, ⟨r9, b3.fr (f9 (· = x) rfl) hs3x, hpc.fr (f9 (· = x) rfl) hfree, hs3x, hfree⟩, e8.fr (f9 (· = x) rfl), fun c hc => .inr (hat3 c hc), fun y hy => ?_⟩
      rcases List.mem_append.1 hy with hy | hy
      · exact .inl hy
      · rw [List.mem_singleton.1 hy]
        exact .inr fun a ha' => by have := hs2 a ha'; have := e5.size; omega
    clear_value J2
    have hp : pend (off, more, b) = off + (b.length : Int) := rfl
    rw [hp] at o1
    have w1 : IntKind.i64.wrap (off + (s.len : Int)) = off + (b.length : Int) := by rw [wrap_i64 (by omega) (by omega), hsl]
    have hfit : fits L (lastE L) (off, more, b) = if more = true then decide (lastE L < 0) || decide (off + (b.length : Int) ≤ lastE L) else decide (lastE L < 0) && decide (far L ≤ off + (b.length : Int)) := rfl
    rw [hfit] at hbad hgood
    rw [w1]
    cases hmo : more
    · rw [Bool.not_false, cond_true]
      rw [hmo] at hbad hgood
      simp only [Bool.false_eq_true, if_false] at hbad hgood
      by_cases hl0 : lastE L ≥ 0
      · rw [decide_eq_true hl0, cond_true]
        exact hbad _ e4 (by rw [decide_eq_false (by omega)]; rfl)
      rw [decide_eq_false hl0, cond_false]
      refine cm_ref15_Holes_Far (rfar_ok (R.ext e4) (by omega) hg) ?_
      rintro r w5 ⟨rfl, f5⟩
      by_cases hfa : far L > off + (b.length : Int)
      · rw [decide_eq_true hfa, cond_true]
        exact hbad _ (e4.trans f5) (by rw [decide_eq_false (show ¬ far L ≤ _ by omega), Bool.and_false])
      · rw [decide_eq_false hfa, cond_false, cond_false]
        exact hgood _ (e4.trans f5) (by rw [decide_eq_true (show lastE L < 0 by omega), decide_eq_true (show far L ≤ _ by omega)]; rfl)
    · rw [Bool.not_true, cond_false]
      rw [hmo] at hbad hgood
      simp only [if_true] at hbad hgood
      by_cases hl0 : lastE L ≥ 0
      · rw [decide_eq_true hl0, cond_true]
        by_cases hgt : off + (b.length : Int) > lastE L
        · rw [decide_eq_true hgt]
          exact hbad _ e4 (by rw [decide_eq_false (show ¬ lastE L < 0 by omega), decide_eq_false (show ¬ _ ≤ lastE L by omega)]; rfl)
        · rw [decide_eq_false hgt]
          exact hgood _ e4 (by rw [decide_eq_true (show _ ≤ lastE L by omega), Bool.or_true])
      · rw [decide_eq_false hl0, cond_false]
        exact hgood _ e4 (by rw [decide_eq_true (show lastE L < 0 by omega), Bool.true_or])
  clear_value J
  by_cases h0 : off < 0
  · rw [decide_eq_true h0, cond_true]; exact hT (.inl h0)
  rw [decide_eq_false h0, cond_false]
  cases hmo : more
  · rw [cond_false]; exact hF (by rw [hmo]; simp; omega)
  rw [cond_true]
  by_cases h2 : b.length = 0
  · rw [show ((s.len : Int) == 0) = true by rw [hsl, h2]; rfl, cond_true]; exact hT (.inr ⟨hmo, .inl h2⟩)
  rw [show ((s.len : Int) == 0) = false by simp; omega, cond_false]
  refine ⟨by decide, ?_⟩
  by_cases h3 : b.length % 8 = 0
  · rw [show (Int.tmod (s.len : Int) 8 != 0) = false by rw [Int.tmod_eq_emod_of_nonneg (by omega)]; simp; omega]; exact hF (by omega)
  · rw [show (Int.tmod (s.len : Int) 8 != 0) = true by rw [Int.tmod_eq_emod_of_nonneg (by omega)]; simp; omega]; exact hT (.inr ⟨hmo, .inr h3⟩)

theorem bytesV_set (l : List UInt8) (i : Nat) (b : UInt8) : (bytesV l).set i (.int .u8 b.toNat) = bytesV (l.set i b) := by
  unfold bytesV; rw [List.map_set]

theorem SlB_ix {w : World} {s : SliceV} {l : List UInt8} (h : SlB w s l) {k : Nat} {b : UInt8} (hk : l[k]? = some b) {K : Addr → Prop} (hK : ∀ a, w.cell? a = some (.int .u8 b.toNat) → K a) : AtIx s 1 (k : Int) K := by
  obtain ⟨a, ha, hc⟩ := h.at_ hk
  have hlt := (List.getElem?_eq_some_iff.1 hk).1
  have hl := h.1
  obtain ⟨sa, sl, sc⟩ := s
  simp only at ha hl
  subst ha
  refine (AtIx_some ..).2 ⟨by omega, by omega, hK _ ?_⟩
  rw [Int.toNat_natCast, Nat.mul_one]
  exact hc

/-- The bytes of a part stand at its place. -/
def Set (out : List UInt8) (p : Pc) (n : Nat) : Prop := ∀ k, k < n → out[p.1.toNat + k]? = p.2.2[k]?

theorem rdone_ok {w : World} {x : Nat} {t : SliceV} {ys : List P3} {L : List Pc} (R : RAt w x t ys L) (G : Gp.Hol.Good L) (hl : L.length ≤ 2 ^ 20) :
    c_ref15_Holes_Done (some ⟨x, 0, none⟩) w fun r ok w' => ((ok = true ∧ 0 ≤ lastE L ∧ sum L = lastE L ∧ ∃ out, SlB w' r out ∧ (out.length : Int) = lastE L ∧ ∀ p ∈ L, Set out p p.2.2.length) ∨ (ok = false ∧ (lastE L < 0 ∨ sum L ≠ lastE L) ∧ SlB w' r [])) ∧ Ext w w' := by
  apply ok_ref15_Holes_Done
  unfold s_ref15_Holes_Done
  have hg : ∀ p ∈ L, 0 ≤ p.1 ∧ pend p ≤ 65535 := fun p hp => ⟨(G.ok p hp).1, (G.ok p hp).2.1⟩
  refine cm_ref15_Holes_end (rend_ok R (by omega) hg) ?_
  rintro r w2 ⟨rfl, f2⟩
  have R2 := R.ext f2
  intro J
  by_cases hneg : lastE L < 0
  · rw [decide_eq_true hneg, cond_true]
    simp only [J, cond_true]
    exact ⟨.inr ⟨by trivial, .inl hneg, SlB.nil⟩, f2⟩
  rw [decide_eq_false hneg, cond_false]
  refine cm_ref15_Holes_Bytes (rbytes_ok R2 (by omega) hg) ?_
  rintro r w0 ⟨rfl, hw⟩
  have hw := hw.symm
  subst hw
  by_cases hsum : sum L = lastE L
  case neg =>
    rw [show (sum L != lastE L) = true by simpa using hsum]
    simp only [J, cond_true]
    exact ⟨.inr ⟨by trivial, .inr hsum, SlB.nil⟩, f2⟩
  rw [show (sum L != lastE L) = false by simpa using hsum]
  simp -zeta only [J, cond_false]
  have hlast : ∀ p ∈ L, pend p ≤ lastE L := by
    by_cases hex : ∃ q ∈ L, q.2.1 = false
    · obtain ⟨q, hq, hqm⟩ := hex
      rw [lastE_some G.one hq hqm]
      exact G.last q hq hqm
    · exact absurd ((lastE_neg G).2 fun q hq => by
        cases hb : q.2.1
        · exact absurd ⟨q, hq, hb⟩ hex
        · rfl) hneg
  have hle : lastE L ≤ 65535 ∨ L = [] := by
    by_cases hex : ∃ q ∈ L, q.2.1 = false
    · obtain ⟨q, hq, hqm⟩ := hex
      rw [lastE_some G.one hq hqm]
      exact .inl (hg q hq).2
    · exact absurd ((lastE_neg G).2 fun q hq => by
        cases hb : q.2.1
        · exact absurd ⟨q, hq, hb⟩ hex
        · rfl) hneg
  have hle : lastE L ≤ 65535 := by
    rcases hle with h | h
    · exact h
    · rw [h]; decide
  obtain ⟨n, hn⟩ : ∃ n : Nat, lastE L = (n : Int) := ⟨(lastE L).toNat, by omega⟩
  refine MkSl_row (by omega) (by omega) (by omega) (by omega) fun c w3 rc ec zc fc => ?_
  have fc : Ext w2 w3 := fc
  rw [hn, Int.toNat_natCast] at rc ⊢
  have hlen := R.len
  have hxlt := R2.row.lt
  have hbytes0 : repCells [Value.int .u8 0] n = bytesV (List.replicate n 0) := by
    have : ∀ n, repCells [Value.int .u8 0] n = bytesV (List.replicate n 0) := by
      intro n
      induction n with
      | zero => rfl
      | succ n ih => rw [repCells, ih, List.replicate_succ]; rfl
    exact this n
  rw [hbytes0] at rc
  have RAtW : ∀ {W}, Fr8 w3 W (· = c) → RAt W x t ys L := fun {W} hf => by
    refine (R2.ext fc).fr hf (by omega) (fun b hb => by have := R2.buf.lt hb; omega) (fun y hy a ha h0 e => ?_)
    obtain ⟨k, hk⟩ := List.getElem?_of_mem hy
    obtain ⟨p, hp, g1, g2, g3⟩ := R2.pcs.get hk
    have := g3.lt ha (by have := g3.1; omega)
    omega
  have fin : ∀ {W}, Fr8 w3 W (· = c) → Ext w W := fun {W} hf => (f2.trans fc).new hf (by intro y hy e; have := f2.size; omega)
  have hdisj : ∀ (i j : Nat) p q, i < j → L[i]? = some p → L[j]? = some q → sh p q = false := by
    intro i j p q hij hp hq
    obtain ⟨h1, rfl⟩ := List.getElem?_eq_some_iff.1 hp
    obtain ⟨h2, rfl⟩ := List.getElem?_eq_some_iff.1 hq
    exact List.pairwise_iff_getElem.1 G.apart i j h1 h2 hij
  refine LoopP_inv (fun st W => ∃ j : Nat, j ≤ L.length ∧ st.1 = (j : Int) ∧ Fr8 w3 W (· = c) ∧ ∃ out : List UInt8, Row W c (bytesV out) ∧ out.length = n ∧ ∀ (i : Nat) p, i < j → L[i]? = some p → Set out p p.2.2.length) (fun st _ => (L.length - st.1).toNat)
    ⟨0, by omega, rfl, Fr8.refl _ _, _, rc, by simp, fun i p h => by omega⟩ ?_
  rintro ⟨i, ⟨⟩⟩ W ⟨j, hj, hi, hf, out, hr, hol, hset⟩ next hnext
  simp only at hi
  subst hi
  have RW := RAtW hf
  simp -zeta only [ex_some, ex_some, Ld_eq, List.getElem?_cons_zero, LdV_some, dec_slice, AtIx_some, add_mk, Nat.zero_add, RW.row.cell]
  by_cases hlt : (j : Int) < (t.len : Int)
  · rw [decide_eq_true hlt, cond_true]
    have hpj := List.getElem?_eq_getElem (show j < L.length by omega)
    generalize L[j] = p at hpj
    have hpm := List.mem_of_getElem? hpj
    have hpl := hlast p hpm
    have hpg := hg p hpm
    refine LoopP_inv (fun st W => ∃ k : Nat, k ≤ p.2.2.length ∧ st.1 = (k : Int) ∧ Fr8 w3 W (· = c) ∧ ∃ out : List UInt8, Row W c (bytesV out) ∧ out.length = n ∧ (∀ (i : Nat) p, i < j → L[i]? = some p → Set out p p.2.2.length) ∧ Set out p k) (fun st _ => (p.2.2.length - st.1).toNat)
      ⟨0, by omega, rfl, hf, out, hr, hol, hset, fun k h => by omega⟩ ?_
    clear hf hr hol hset RW out W
    rintro ⟨i, ⟨⟩⟩ W ⟨k, hk, hi, hf, out, hr, hol, hset, hsk⟩ next2 hnext2
    simp only at hi
    subst hi
    have RW := RAtW hf
    have RD := RW.ext (Ext.drew W)
    have hfd : Fr8 w3 W.drew (· = c) := hf.ext (Ext.drew W)
    simp -zeta only [List.getElem?_cons_zero, LdV_some, dec_slice, RW.row.cell]
    refine RW.ix (by omega) fun a y0 y1 y2 p2 hp hy e3 c0 c1 c2 => ?_
    have hpe : p = (y0, y1, p2) := by rw [hpj] at hp; exact Option.some.inj hp
    have hp2 : p2 = p.2.2 := by rw [hpe]
    have hy0 : y0 = p.1 := by rw [hpe]
    simp -zeta only [LdV_some, dec_slice, c2]
    have hl2 := e3.1
    by_cases hklt : (k : Int) < (y2.len : Int)
    · rw [decide_eq_true hklt, cond_true]
      simp -zeta only [List.getElem?_cons_zero, LdV_some, dec_slice, RD.row.cell]
      refine RD.ix (by omega) fun a y0' y1' y2' p2' hp' hy' e3' c0' c1' c2' => ?_
      rw [hp] at hp'
      cases hp'
      simp -zeta only [LdV_some, dec_int, c0']
      refine RD.ix (by omega) fun a y0' y1' y2' p2' hp' hy' e3' c0' c1' c2' => ?_
      rw [hp] at hp'
      cases hp'
      simp -zeta only [LdV_some, dec_slice, c2']
      have hkp : k < p.2.2.length := by rw [← hp2]; omega
      have hkb := List.getElem?_eq_getElem (show k < p2.length by omega)
      generalize p2[k] = bb at hkb
      refine SlB_ix e3' hkb fun a hca => ?_
      simp -zeta only [LdV_some, dec_int, hca]
      unfold pend at hpl hpg
      rw [← hy0, ← hp2] at hpl hpg
      rw [wrap_i64 (n := y0 + (k : Int)) (by omega) (by omega)]
      refine ⟨by omega, by omega, ?_⟩
      rw [Nat.mul_one]
      have hpos : (y0 + (k : Int)).toNat = y0.toNat + k := by omega
      rw [hpos]
      refine St_row hr.drew rfl (by rw [bytesV_len, hol]; omega) fun W2 r2 g2 z2 => ?_
      rw [bytesV_set] at r2
      rw [wrap_i64 (by omega) (by omega)]
      refine hnext2 _ _ ⟨k + 1, by rw [← hp2]; omega, by simp, hfd.trans (g2 (· = c) rfl) fun _ _ e => e, _, r2, by rw [List.length_set]; exact hol, fun i q hij hq m hm => ?_, fun m hm => ?_⟩ (by simp only; omega)
      · have h1 := hset i q hij hq m hm
        have hq0 := (hg q (List.mem_of_getElem? hq)).1
        rw [List.getElem?_set_ne, h1]
        intro e
        have hs := hdisj i j q p hij hq hpj
        unfold sh at hs
        have n1 : q.2.2.isEmpty = false := by cases hh : q.2.2 with
          | nil => rw [hh] at hm; simp at hm
          | cons _ _ => rfl
        have n2 : p.2.2.isEmpty = false := by rw [← hp2]; cases hh : p2 with
          | nil => rw [hh] at hkb; simp at hkb
          | cons _ _ => rfl
        have hk2 := (List.getElem?_eq_some_iff.1 hkb).1
        rw [n1, n2] at hs
        unfold pend at hs
        rw [← hy0, ← hp2] at hs
        simp only [Bool.false_and, Bool.not_false, Bool.true_and, Bool.false_or, Bool.and_eq_false_iff, decide_eq_false_iff_not] at hs
        omega
      · rw [← hy0, ← hp2]
        rcases Nat.lt_or_ge m k with h | h
        · have := hsk m h
          rw [← hy0, ← hp2] at this
          rw [List.getElem?_set_ne (by omega), this]
        · have : m = k := by omega
          subst this
          rw [List.getElem?_set_self (by omega), hkb]
    · rw [decide_eq_false hklt, cond_false]
      have hke : k = p.2.2.length := by rw [← hp2]; rw [hp2] at hl2; rw [← hp2] at hk hl2; omega
      rw [wrap_i64 (by omega) (by omega)]
      refine hnext _ _ ⟨j + 1, by omega, by simp, hf, out, hr, hol, fun i q hij hq => ?_⟩ (by simp only; omega)
      rcases Nat.lt_or_ge i j with h | h
      · exact hset i q h hq
      · have : i = j := by omega
        subst this
        rw [hpj] at hq
        cases hq
        rw [← hke]
        exact hsk
  · rw [decide_eq_false hlt, cond_false]
    have : j = L.length := by omega
    subst this
    refine ⟨.inl ⟨by trivial, by omega, by rw [hsum]; exact hn, out, SlB.of_buf ?_, by omega, fun p hp => ?_⟩, fin hf⟩
    · have := SlB.row hr
      rw [hol] at this
      exact this
    · obtain ⟨i, hi, rfl⟩ := List.mem_iff_getElem.1 hp
      exact hset i _ hi (List.getElem?_eq_getElem hi)

theorem runs_len (f : Int → Bool) (n : Nat) : (runs f n).length ≤ 2 * n := by
  induction n with
  | zero => simp [runs]
  | succ n ih =>
    unfold runs
    split
    · omega
    · split
      · simp only [List.length_append, List.length_dropLast, List.length_singleton]; omega
      · simp only [List.length_append, List.length_cons, List.length_nil]; omega

theorem eI_len' (x : Int) : ([Value.int .i64 x] : List Value).length = 1 := rfl

abbrev eI (x : Int) : List Value := [.int .i64 x]

theorem eI_len (x : Int) : (eI x).length = 1 := rfl

theorem eI_one (x : Int) : ∀ v ∈ eI x, isOne v = true := by intro v hv; rw [List.mem_singleton.1 hv]; rfl



theorem no_at {b : Nat} (h : SliceV.at ⟨none, 0, 0⟩ b) : False := by obtain ⟨o, h⟩ := h; cases h

theorem no_pcs (w : World) : PcsAt w [] [] := ⟨rfl, fun i x p hx => by cases hx⟩

theorem no_free (S : Nat → Prop) : FreeP [] S := fun x hx => by cases hx

theorem new_ok (w : World) : c_holes_New w fun v w' => ∃ h, v = some ⟨h, 0, none⟩ ∧ h = w.heap.size ∧ w'.heap.size = h + 1 ∧ HAt w' h ⟨none, 0, 0⟩ [] [] (lastE []) ∧ Ext w w' := by
  apply ok_holes_New
  unfold s_holes_New
  refine Al_e fun a w1 ra ea z1 f1 => ?_
  exact ⟨a, rfl, ea, z1, ⟨ra, BufN.nil, no_pcs _, fun b hb => (no_at hb).elim, no_free _⟩, f1⟩

theorem MarkSl_row {w : World} {b : Nat} {l : List UInt8} {K : World → Prop} (hr : Row w b (bytesV l)) (hK : ∀ w', SlB w' ⟨some ⟨b, 0, none⟩, l.length, l.length⟩ l → Fr8 w w' (· = b) → K w') : MarkSl ⟨b, 0, none⟩ w K := by
  have hs := SlB.of_buf (SlB.row hr)
  obtain ⟨T, hT⟩ := id hr
  refine ⟨T, (bytesV l).length, by simp [World.shape?, hT], hK _ ?_ ?_⟩
  · refine ⟨hs.1, ?_, hs.2.2⟩
    have hc := hs.2.1
    refine ⟨hc.1, fun j hj => ?_⟩
    rw [← hc.2 j hj, add_mk]
    have hlt := (Array.getElem?_eq_some_iff.1 hT).1
    simp [World.cell?, World.freeze, Array.getElem?_modify, hT]
  · refine ⟨by simp [World.freeze], fun c hc hn => ?_, rfl, rfl, rfl⟩
    have : ¬ b = c := fun e => hn e.symm
    simp [World.freeze, Array.getElem?_modify, this]

theorem HAt.fr_one {w w' : World} {h v : Nat} {s : SliceV} {xs : List P3} {l : List Pc} {last : Int} (H : HAt w h s xs l last) (hf : Fr8 w w' (· = v)) (hv : w.heap.size ≤ v + 0 ∨ True) (h1 : h ≠ v) (h2 : ∀ b, SliceV.at s b → b ≠ v) (h3 : FreeP xs (· = v)) : HAt w' h s xs l last := H.fr hf h1 h2 h3

theorem HAt.old {w w' : World} {h v : Nat} {s : SliceV} {xs : List P3} {l : List Pc} {last : Int} (H : HAt w h s xs l last) {w1 : World} (hx : Ext w w1) (hv : w.heap.size ≤ v) (hf : Fr8 w1 w' (· = v)) : HAt w' h s xs l last :=
  (H.ext (hx.new hf fun b hb e => by omega))

/-- A literal's bytes are put in. -/
theorem add_lit {w : World} {h : Nat} {s : SliceV} {xs : List P3} {l : List Pc} (H : HAt w h s xs l (lastE l)) (G : Gp.Hol.Good l) (hs : l.Pairwise le) (hl : l.length ≤ 2 ^ 20) {off : Int} {more : Bool} {b : List UInt8} (hb : b.length ≤ 2 ^ 40) {T : TypeId} {K : Int → World → Prop}
    (hK : ∀ w' s' xs' l', HAt w' h s' xs' l' (lastE l') → l'.Perm (add l (off, more, b)).2 → l'.Pairwise le → Fr8 w w' (fun c => c = h ∨ SliceV.at s c) → (∀ c, SliceV.at s' c → SliceV.at s c ∨ w.heap.size ≤ c) → K (add l (off, more, b)).1 w') :
    Al w (.cells ⟨bytesV b⟩ T) fun a w1 => MarkSl a w1 fun w2 => c_holes_Holes_Add (some ⟨h, 0, none⟩) off more ⟨some a, b.length, b.length⟩ w2 K := by
  refine Al_e fun v w1 rv ev z1 f1 => MarkSl_row rv fun w2 h2 f2 => ?_
  have e2 : Ext w w2 := f1.new f2 fun c hc e => by omega
  refine cm_holes_Holes_Add (add_ok (H.ext e2) G hs hl h2 hb) ?_
  rintro r w3 ⟨rfl, s', xs', l', a1, a2, a3, a4, a5, _⟩
  exact hK w3 s' xs' l' a1 a2 a3 (e2.fr a4) fun c hc => (a5 c hc).imp id fun h => Nat.le_trans e2.size h

theorem cat9 {l : List Pc} (G : Gp.Hol.Good l) (hs : l.Pairwise le) (hp : l.Perm [(8, false, [98]), (0, true, [49, 50, 51, 52, 53, 54, 55, 56])]) : 0 ≤ lastE l ∧ gaps 0 l (lastE l) = [] ∧ cat l = [49, 50, 51, 52, 53, 54, 55, 56, 98] := by
  have h1 : lastE l = 9 := by rw [lastE_perm G.one hp]; rfl
  have h2 : sum l = 9 := by rw [sum_perm hp]; rfl
  have h0 : 0 ≤ lastE l := by omega
  refine ⟨h0, (done_iff G hs h0).2 (by omega), cat_eq G hs h0 (by omega) (by rw [h1]; rfl) fun p hm k hk => ?_⟩
  rcases List.mem_cons.1 (hp.mem_iff.1 hm) with rfl | hm
  · match k, hk with
    | 0, _ => rfl
  · rw [List.mem_singleton.1 hm] at hk ⊢
    match k, hk with
    | 0, _ => rfl
    | 1, _ => rfl
    | 2, _ => rfl
    | 3, _ => rfl
    | 4, _ => rfl
    | 5, _ => rfl
    | 6, _ => rfl
    | 7, _ => rfl

theorem strEq_bs (l m : List UInt8) : strEq ⟨⟨l⟩⟩ (bs m) = decide (l = m) := by
  unfold strEq
  rw [ByteArray.toList_eq, ByteArray.toList_eq]
  show (l == m) = decide (l = m)
  by_cases h : l = m <;> simp [h]

/-- Both have the same parts. -/
structure Both (n0 : Nat) (w : World) (h : Nat) (s : SliceV) (xs : List P3) (l : List Pc) (x : Nat) (t : SliceV) (ys : List P3) (L : List Pc) : Prop where
  H : HAt w h s xs l (lastE l)
  R : RAt w x t ys L
  G : Gp.Hol.Good l
  srt : l.Pairwise le
  perm : l.Perm L
  n1 : n0 ≤ h
  n2 : n0 ≤ x
  n3 : ∀ b, SliceV.at s b → n0 ≤ b
  hx : h ≠ x
  sx : ¬ SliceV.at s x
  th : ¬ SliceV.at t h
  st : ∀ b, SliceV.at s b → ¬ SliceV.at t b
  fx : FreeP xs (· = x)
  fy : FreeP ys fun b => b = h ∨ SliceV.at s b

theorem Both.GL {n0 : Nat} {w : World} {h : Nat} {s : SliceV} {xs : List P3} {l : List Pc} {x : Nat} {t : SliceV} {ys : List P3} {L : List Pc} (B : Both n0 w h s xs l x t ys L) : Gp.Hol.Good L := B.G.perm B.perm

theorem Both.ext {n0 : Nat} {w w' : World} {h : Nat} {s : SliceV} {xs : List P3} {l : List Pc} {x : Nat} {t : SliceV} {ys : List P3} {L : List Pc} (B : Both n0 w h s xs l x t ys L) (hf : Ext w w') : Both n0 w' h s xs l x t ys L :=
  ⟨B.H.ext hf, B.R.ext hf, B.G, B.srt, B.perm, B.n1, B.n2, B.n3, B.hx, B.sx, B.th, B.st, B.fx, B.fy⟩

theorem dlt {w : World} {ys : List P3} {L : List Pc} (h : PcsAt w ys L) {y : P3} (hy : y ∈ ys) {a : Addr} (ha : y.2.2.1.a = some a) (h0 : 0 < y.2.2.1.len) : a.block < w.heap.size := by
  obtain ⟨k, hk⟩ := List.getElem?_of_mem hy
  obtain ⟨p, hp, g1, g2, g3⟩ := h.get hk
  exact g3.lt ha (by have := g3.1; omega)

/-- A part is put into both. -/
theorem both_add {n0 : Nat} {w : World} {h : Nat} {s : SliceV} {xs : List P3} {l : List Pc} {x : Nat} {t : SliceV} {ys : List P3} {L : List Pc} (B : Both n0 w h s xs l x t ys L) (hl : L.length ≤ 2 ^ 19) {off : Int} {more : Bool} {d : SliceV} {b : List UInt8} (hd : SlB w d b) (hb : b.length ≤ 2 ^ 40) (hd0 : ∀ a, d.a = some a → 0 < d.len → a.block < n0)
    {K : Int → Int → World → Prop}
    (hK : ∀ w' s' xs' l' t' ys', Both n0 w' h s' xs' l' x t' ys' (add L (off, more, b)).2 → (∀ c lc, Row w c lc → c ≠ h → c ≠ x → ¬ SliceV.at s c → Row w' c lc ∧ ¬ SliceV.at s' c) → Fr8 w w' (n0 ≤ ·) → K (add L (off, more, b)).1 (add L (off, more, b)).1 w')
    {K2 : Int → World → Prop} (hK2 : ∀ r w1, (∀ c lc, Row w c lc → c ≠ h → c ≠ x → ¬ SliceV.at s c → Row w1 c lc) → (c_ref15_Holes_Add (some ⟨x, 0, none⟩) off more d w1 fun r' w2 => K r r' w2) → K2 r w1) :
    c_holes_Holes_Add (some ⟨h, 0, none⟩) off more d w K2 := by
  have hlp := B.perm.length_eq
  refine cm_holes_Holes_Add (add_ok B.H B.G B.srt (by omega) hd hb) ?_
  rintro r w1 ⟨rfl, s1, xs1, l1, H1, p1, o1, g1, n1, m1⟩
  have ha1 : ∀ c lc, Row w c lc → c ≠ h → c ≠ x → ¬ SliceV.at s c → Row w1 c lc := fun c lc hc h1 h2 h3 => hc.fr g1 (fun e => e.elim h1 h3)
  have hhl := B.H.row.lt
  have hxl := B.R.row.lt
  have R1 : RAt w1 x t ys L := B.R.fr g1 (fun e => e.elim (fun e => B.hx e.symm) B.sx) (fun c hc e => e.elim (fun e => B.th (e ▸ hc)) fun e => B.st c e hc) B.fy
  have hd1 : SlB w1 d b := hd.fr g1 fun a' ha' h0 e => by
    have hlt := hd0 a' ha' (by have := hd.1; omega)
    rcases e with e | e
    · have := B.n1; omega
    · have := B.n3 _ e; omega
  obtain ⟨q1, q2⟩ := add_perm B.G B.perm (off, more, b)
  refine hK2 _ _ ha1 ?_
  refine cm_ref15_Holes_Add (radd_ok R1 (by omega) (fun p hp => ⟨(B.GL.ok p hp).1, (B.GL.ok p hp).2.1⟩) hd1 hb) ?_
  rintro r w2 ⟨rfl, t2, ys2, R2, g2, n2, m2⟩
  rw [q1]
  have z1 := g1.size
  have hs1x : ¬ SliceV.at s1 x := fun hc => by
    rcases n1 _ hc with h | h
    · exact B.sx h
    · omega
  have hfx1 : FreeP xs1 (· = x) := fun y hy a' ha' h0 e => by
    rcases m1 y hy with h | h
    · exact B.fx y h a' ha' h0 e
    · have := h a' ha'; omega
  have H2 : HAt w2 h s1 xs1 l1 (lastE l1) := H1.fr g2 B.hx (fun c hc e => hs1x (e ▸ hc)) hfx1
  refine hK w2 s1 xs1 l1 t2 ys2 ⟨H2, R2, ?_, o1, p1.trans q2, B.n1, B.n2, ?_, B.hx, hs1x, ?_, ?_, hfx1, ?_⟩ (fun c lc hc k1 k2 k3 => ⟨(ha1 c lc hc k1 k2 k3).fr g2 k2, fun hat => by
    rcases n1 c hat with h' | h'
    · exact k3 h'
    · have := hc.lt; omega⟩) ?_
  · exact (B.G.add' _).perm p1.symm
  · intro c hc
    rcases n1 c hc with h | h
    · exact B.n3 c h
    · have := B.n1; omega
  · intro hc
    rcases n2 _ hc with h | h
    · exact B.th h
    · omega
  · intro c hc hc'
    rcases n2 _ hc' with h | h
    · rcases n1 _ hc with h' | h'
      · exact B.st c h' h
      · have := B.R.buf.lt h; omega
    · have := H1.buf.lt hc; omega
  · intro y hy a' ha' h0 e
    rcases m2 y hy with h | h
    · have hlt := dlt B.R.pcs h ha' h0
      rcases e with e | e
      · exact B.fy y h a' ha' h0 (.inl e)
      · rcases n1 _ e with h' | h'
        · exact B.fy y h a' ha' h0 (.inr h')
        · omega
    · have h1 := h a' ha'
      rcases e with e | e
      · omega
      · have := H1.buf.lt e; omega
  · exact (g1.mono fun c hc => hc.elim (fun e => e ▸ B.n1) (B.n3 c)).trans (g2.mono fun c hc => by subst hc; exact B.n2) fun _ _ e => e

/-- Both are made. -/
theorem both_new (w0 : World) {w : World} (hf : Ext w0 w) {h : Nat} (eh : h = w.heap.size) {w1 : World} (z1 : w1.heap.size = h + 1) (H : HAt w1 h ⟨none, 0, 0⟩ [] [] (lastE [])) {x : Nat} {w2 : World} (rx : Row w2 x [.slice none 0 0]) (ex : x = w1.heap.size) (f2 : Ext w1 w2) :
    Both w0.heap.size w2 h ⟨none, 0, 0⟩ [] [] x ⟨none, 0, 0⟩ [] [] :=
  ⟨H.ext f2, ⟨rx, BufN.nil, no_pcs _, fun b hb => (no_at hb).elim, no_free _⟩, Gp.Hol.Good.nil, List.Pairwise.nil, List.Perm.refl _, by have := hf.size; omega, by have := hf.size; omega, fun b hb => (no_at hb).elim, by omega, fun hb => no_at hb, fun hb => no_at hb, fun b hb => (no_at hb).elim, no_free _, no_free _⟩

end Go.Proofs
