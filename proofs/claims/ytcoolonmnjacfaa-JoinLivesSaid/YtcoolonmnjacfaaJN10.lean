import Derived.Test.YtcoolonmnjacfaaJN8
import Derived.Test.YtcoolonmnjacfaaIn2
/- Calls that come in; whether they are too many, or too long. -/
namespace Go.Proofs
open Gp Gp.Hol Gp.Jn
set_option maxRecDepth 100000
set_option maxHeartbeats 2000000

/-- A call, and its cells. -/
structure Dq where
  gone : Bool
  key : ByteArray
  off : Int
  more : Bool
  b : List UInt8
  head : ByteArray
  now : Int
abbrev Dc := Dq × SliceV
abbrev eD (x : Dc) : List Value := [.bool x.1.gone, .string x.1.key, .int .i64 x.1.off, .bool x.1.more, .slice x.2.a x.2.len x.2.cap, .string x.1.head, .int .i64 x.1.now]
theorem eD_len (x : Dc) : (eD x).length = 7 := rfl
/-- Calls in memory. -/
structure DosAt (w : World) (s : SliceV) (xs : List Dc) : Prop where
  sl : SlN 7 eD w s xs
  b : ∀ x ∈ xs, SlB w x.2 x.1.b
  now : ∀ x ∈ xs, x.1.now ≤ 9223372036854775807
theorem DosAt.ext {w w' : World} {s : SliceV} {xs : List Dc} (h : DosAt w s xs) (hf : Ext w w') : DosAt w' s xs := ⟨h.sl.ext hf, fun x hx => (h.b x hx).ext hf, h.now⟩

theorem do_ix {w : World} {s : SliceV} {xs : List Dc} (h : DosAt w s xs) {j : Nat} {x : Dc} (hx : xs[j]? = some x) {K : Addr → World → Prop}
    (hK : ∀ u W1, Row W1 u (eD x) → SlB W1 x.2 x.1.b → u = w.heap.size → Ext w W1 → K ⟨u, 0, none⟩ W1) :
    AtIx s 7 (j : Int) fun a5 => Ld .bool w (a5.add 0) fun x6 => Ld .str w (a5.add 1) fun x7 => Ld (.int .i64) w (a5.add 2) fun x8 => Ld .bool w (a5.add 3) fun x9 => Ld .slice w (a5.add 4) fun x10 => Ld .str w (a5.add 5) fun x11 => Ld (.int .i64) w (a5.add 6) fun x12 =>
      Al w (.cells ⟨[(Value.bool false), (Value.string (bs [])), (Value.int .i64 0), (Value.bool false), (Value.slice none 0 0), (Value.string (bs [])), (Value.int .i64 0)]⟩ 31) fun a14 w13 =>
      StN [(Value.bool x6), (Value.string x7), (Value.int .i64 x8), (Value.bool x9), (Value.slice x10.a x10.len x10.cap), (Value.string x11), (Value.int .i64 x12)] w13 a14 0 fun w15 => K a14 w15 := by
  refine SlN_ix eD_len (by omega) h.sl (by omega) (by rw [Int.toNat_natCast]; exact hx) fun a hc => ?_
  have hb := h.b x (List.mem_of_getElem? hx)
  obtain ⟨⟨g, k, o, m, b, hd, n⟩, v⟩ := x
  have c0 : w.cell? (a.add 0) = some (.bool g) := hc 0 _ rfl
  have c1 : w.cell? (a.add 1) = some (.string k) := hc 1 _ rfl
  have c2 : w.cell? (a.add 2) = some (.int .i64 o) := hc 2 _ rfl
  have c3 : w.cell? (a.add 3) = some (.bool m) := hc 3 _ rfl
  have c4 : w.cell? (a.add 4) = some (.slice v.a v.len v.cap) := hc 4 _ rfl
  have c5 : w.cell? (a.add 5) = some (.string hd) := hc 5 _ rfl
  have c6 : w.cell? (a.add 6) = some (.int .i64 n) := hc 6 _ rfl
  simp -zeta only [Ld_eq, LdV_some, dec_slice, dec_int, dec_bool, dec_str, c0, c1, c2, c3, c4, c5, c6]
  refine Al_f rfl rfl fun u W1 ru eu zu fu => ?_
  exact hK u W1 ru (hb.ext fu) eu fu

theorem jfar_ok {w : World} {s : SliceV} {xs : List Dc} (h : DosAt w s xs) : c_law16_far s w fun r w' => Ext w w' ∧ (r = false → xs.length ≤ 60 ∧ ∀ x ∈ xs, x.1.b.length ≤ 1000) := by
  apply ok_law16_far
  unfold s_law16_far
  have hlen := h.sl.len
  refine LoopP_inv (fun st W => ∃ j : Nat, j ≤ xs.length ∧ st.2.1 = (j : Int) ∧ Ext w W ∧ j ≤ 60 ∧ ∀ i x, i < j → xs[i]? = some x → x.1.b.length ≤ 1000) (fun st _ => (xs.length - st.2.1).toNat) ⟨0, by omega, rfl, Ext.refl _, by omega, fun i x h => by omega⟩ ?_
  rintro ⟨n, i, ⟨⟩⟩ W ⟨j, hj, hi, hw, h60, hm⟩ next hnext
  simp only at hi
  subst hi
  by_cases hlt : (j : Int) < (s.len : Int)
  · simp only [hlt, decide_true, cond_true]
    have hx := List.getElem?_eq_getElem (show j < xs.length by omega)
    generalize xs[j] = x at hx
    refine do_ix (h.ext hw) hx fun u W1 ru hb eu fu => ?_
    have hw1 := hw.trans fu
    have hbl := hb.1
    have hJT : Ext w W1 ∧ (true = false → xs.length ≤ 60 ∧ ∀ x ∈ xs, x.1.b.length ≤ 1000) := ⟨hw1, fun h => by simp at h⟩
    have hJF : j < 60 → x.1.b.length ≤ 1000 → ∀ n', next (n', IntKind.i64.wrap ((j : Int) + 1), ()) W1 := by
      intro h1 h2 n'
      rw [wrap_i64 (n := (j : Int) + 1) (by omega) (by omega)]
      refine hnext _ _ ⟨j + 1, by omega, by simp, hw1, by omega, fun i y hi hy => ?_⟩ (by simp only; omega)
      rcases Nat.lt_or_ge i j with g | g
      · exact hm i y g hy
      · have : i = j := by omega
        subst this
        rw [hx] at hy
        cases hy
        exact h2
    by_cases g1 : (j : Int) ≥ 60
    · rw [decide_eq_true g1, cond_true]; exact hJT
    rw [decide_eq_false g1, cond_false]
    simp only [cond_false, Ld_eq, List.getElem?_cons_zero, List.getElem?_cons_succ, LdV_some, dec_slice, dec_int, dec_str, add_mk, Nat.zero_add, ru.cell]
    by_cases g2 : (x.2.len : Int) > 1000
    · rw [decide_eq_true g2, cond_true]; exact hJT
    rw [decide_eq_false g2, cond_false]
    have hF := hJF (by omega) (by omega)
    by_cases g3 : (x.1.key.size : Int) > 60
    · rw [decide_eq_true g3, cond_true]; exact hJT
    rw [decide_eq_false g3, cond_false]
    by_cases g4 : (x.1.head.size : Int) > 60
    · rw [decide_eq_true g4, cond_true]; exact hJT
    rw [decide_eq_false g4, cond_false]
    by_cases g5 : x.1.off > 4000
    · rw [decide_eq_true g5, cond_true]
      by_cases g6 : x.1.off ≤ 65535
      · rw [decide_eq_true g6, cond_true]; exact hJT
      · rw [decide_eq_false g6, cond_false]; exact hF _
    · rw [decide_eq_false g5, cond_false]; exact hF _
  · rw [decide_eq_false hlt, cond_false]
    refine ⟨hw, fun _ => ⟨by omega, fun x hx => ?_⟩⟩
    obtain ⟨i, hi⟩ := List.getElem?_of_mem hx
    have := (List.getElem?_eq_some_iff.1 hi).1
    exact hm i x (by omega) hi
end Go.Proofs
