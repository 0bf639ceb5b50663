import Derived.Test.YtjejhaefbhbghaaG19p
import Derived.Test.YtjejhaefbhbghaaBits
import Derived.Test.YtjejhaefbhbghaaBufN
import Derived.Test.YtjejhaefbhbghaaMapB
import Derived.Test.YtjejhaefbhbghaaBytes
import Derived.Test.YtjejhaefbhbghaaPoolPure
/- The pool: the ports of a span, one after the other. -/
namespace Go.Proofs
open Gp
open Gp.Pool (stepL stepL_get alike cls oth wantsL)
set_option maxRecDepth 100000

abbrev IntP (x : Int) : Prop := 0 ≤ x ∧ x ≤ 70000

theorem mx (a c : Int) : (if c > a then c else a) = max a c := by rw [Int.max_def]; split <;> split <;> omega
theorem mn (a c : Int) : (if c < a then c else a) = min a c := by rw [Int.min_def]; split <;> split <;> omega

theorem span_both_ok (a b c d : Int) (w : World) : c_pool_span_both a b c d w fun x y w' => x = max a c ∧ y = min b d ∧ Ext w w' := by
  apply ok_pool_span_both
  unfold s_pool_span_both
  refine Al_e fun p w1 r1 e1 z1 f1 => Al_e fun q w2 r2 e2 z2 f2 => Al_e fun t w3 r3 e3 z3 f3 => ?_
  have r1 := (r1.ext f2).ext f3
  have r2 := r2.ext f3
  simp only [Ld_eq, List.getElem?_cons_zero, List.getElem?_cons_succ, LdV_some, dec_int, add_mk, Nat.zero_add, Nat.add_zero, r1.cell, r2.cell]
  refine StN_full r3 rfl rfl fun w4 r4 f4 z4 => ?_
  simp only [List.getElem?_cons_zero, List.getElem?_cons_succ, LdV_some, dec_int, r4.cell]
  refine ⟨mx a c, mn b d, ((f1.trans f2).trans f3).new (f4 (· = t) rfl) fun x hx e => by omega⟩

theorem class_ok (p : Int) (w : World) : c_pool_class p w fun x y w' => x = (cls p).1 ∧ y = (cls p).2 ∧ Ext w w' := by
  apply ok_pool_class
  unfold s_pool_class
  refine Al_e fun t w1 r1 e1 z1 f1 => ?_
  unfold cls
  by_cases h : p < 1024
  · simp only [h, decide_true, cond_true, if_true]
    refine StN_full r1 rfl rfl fun w4 r4 f4 z4 => ?_
    simp only [Ld_eq, List.getElem?_cons_zero, List.getElem?_cons_succ, LdV_some, dec_int, add_mk, Nat.zero_add, Nat.add_zero, r4.cell]
    exact ⟨by trivial, by trivial, f1.new (f4 (· = t) rfl) fun x hx e => by omega⟩
  · simp only [h, decide_false, cond_false, if_false]
    refine StN_full r1 rfl rfl fun w4 r4 f4 z4 => ?_
    simp only [Ld_eq, List.getElem?_cons_zero, List.getElem?_cons_succ, LdV_some, dec_int, add_mk, Nat.zero_add, Nat.add_zero, r4.cell]
    exact ⟨by trivial, by trivial, f1.new (f4 (· = t) rfl) fun x hx e => by omega⟩

theorem other_ok (p : Int) (w : World) : c_pool_other p w fun x y w' => x = (oth p).1 ∧ y = (oth p).2 ∧ Ext w w' := by
  apply ok_pool_other
  unfold s_pool_other
  refine Al_e fun t w1 r1 e1 z1 f1 => ?_
  unfold oth
  by_cases h : p < 1024
  · simp only [h, decide_true, cond_true, if_true]
    refine cm_pool_class (class_ok 1024 w1) ?_
    rintro _ _ w2 ⟨rfl, rfl, f2⟩
    refine StN_full (r1.ext f2) rfl rfl fun w4 r4 f4 z4 => ?_
    simp only [Ld_eq, List.getElem?_cons_zero, List.getElem?_cons_succ, LdV_some, dec_int, add_mk, Nat.zero_add, Nat.add_zero, r4.cell]
    exact ⟨by trivial, by trivial, (f1.trans f2).new (f4 (· = t) rfl) fun x hx e => by omega⟩
  · simp only [h, decide_false, cond_false, if_false]
    refine cm_pool_class (class_ok 0 w1) ?_
    rintro _ _ w2 ⟨rfl, rfl, f2⟩
    refine StN_full (r1.ext f2) rfl rfl fun w4 r4 f4 z4 => ?_
    simp only [Ld_eq, List.getElem?_cons_zero, List.getElem?_cons_succ, LdV_some, dec_int, add_mk, Nat.zero_add, Nat.add_zero, r4.cell]
    exact ⟨by trivial, by trivial, (f1.trans f2).new (f4 (· = t) rfl) fun x hx e => by omega⟩

def yP (l : List Int) : List (DenR [.one (.int .i64)]) := l.map fun p => (p, ())
theorem yP_get (l : List Int) (i : Nat) : (yP l)[i]? = (l[i]?).map fun p => (p, ()) := by simp [yP]

theorem step_iter {lo hi a b : Int} {f0 f1 f2 : Nat} (hb : 0 < b) (hb2 : b ≤ 2) (hi' : IntP hi) (ha : -70000 ≤ a) (ha2 : a ≤ 140000) :
    IterFn Try.prog [.one (.int .i64)] (Value.func (.func n_pool_step_1) #[] #[(Value.pointer (some ⟨f0, 0, none⟩)), (Value.pointer (some ⟨f1, 0, none⟩)), (Value.pointer (some ⟨f2, 0, none⟩))])
      (fun W => Row W f0 [.int .i64 a] ∧ Row W f1 [.int .i64 lo, .int .i64 hi] ∧ Row W f2 [.int .i64 b]) (yP (stepL hi a b)) := by
  refine ⟨by kernel_rfl, fun l Q D hC hQ hD hy w h0 => ?_⟩
  refine Calls.mono (ok_pool_step_1 (a0 := .func (.yield l) #[] #[]) (f0 := ⟨f0, 0, none⟩) (f1 := ⟨f1, 0, none⟩) (f2 := ⟨f2, 0, none⟩) (K := fun w' => Q (yP (stepL hi a b)).length w' ∨ D w') ?_) (fun e w' h => h)
  have hlen : ∀ i : Nat, i < (yP (stepL hi a b)).length ↔ a + b * (i : Int) ≤ hi := by
    intro i
    rw [← Gp.Pool.lt_iff hb i]
    simp [yP, stepL]
  generalize hn : (yP (stepL hi a b)).length = n at hlen ⊢
  unfold s_pool_step_1
  obtain ⟨r0, _, _⟩ := hC _ _ h0
  simp only [Ld_eq, List.getElem?_cons_zero, LdV_some, dec_int, add_mk, Nat.zero_add, r0.cell]
  refine LoopP_inv (fun st W => ∃ i : Nat, i ≤ n ∧ st.1 = a + b * (i : Int) ∧ Q i W) (fun st _ => (hi + 1 - st.1).toNat) ⟨0, by omega, by simp, h0⟩ ?_
  rintro ⟨x, ⟨⟩⟩ W ⟨i, hi2, hx, hq⟩ next hnext
  simp only at hx
  obtain ⟨_, r1, r2⟩ := hC _ _ hq
  simp only [List.getElem?_cons_zero, List.getElem?_cons_succ, LdV_some, dec_int, r1.cell]
  have hli := hlen i
  rw [← hx] at hli
  by_cases hlt : x ≤ hi
  · have hin := hli.2 hlt
    simp only [hlt, decide_true, cond_true]
    refine callV_yield (hy i (x, ()) W _ ?_ hq ?_ ?_)
    · rw [yP_get, stepL_get hb, ← hx, if_pos hlt]; rfl
    · intro W' hq'
      obtain ⟨_, _, r2'⟩ := hC _ _ hq'
      refine ⟨true, rfl, ?_⟩
      simp only [Bool.not_true, cond_false, cond_false, List.getElem?_cons_zero, LdV_some, dec_int, r2'.cell]
      have hx1 : a ≤ x := by
        have := Int.mul_nonneg (show (0 : Int) ≤ b by omega) (show (0 : Int) ≤ (i : Int) by omega)
        omega
      rw [wrap_i64 (by have := hi'.2; omega) (by have := hi'.2; omega)]
      refine hnext _ _ ⟨i + 1, by omega, ?_, hq'⟩ (by simp only; omega)
      simp only [hx, Int.natCast_add, Int.mul_add]
      omega
    · intro W' hd
      refine ⟨false, rfl, ?_⟩
      simp only [Bool.not_false, cond_true]
      exact .inr hd
  · simp only [hlt, decide_false, cond_false]
    have : i = n := by
      have : ¬ i < n := fun h => hlt (hli.1 h)
      omega
    subst this
    exact .inl hq

/-- What yields these ports, as long as nothing of a stretch is touched. -/
def YieldsP (w0 w : World) (v : Value) (l : List Int) : Prop :=
  isOne v = true ∧ ∃ C, IterFn Try.prog [.one (.int .i64)] v C (yP l) ∧ ∀ W S, Fr8 w W S → (∀ b, w0.heap.size ≤ b → b < w.heap.size → ¬ S b) → C W

theorem YieldsP.ext {w0 w w' : World} {v : Value} {l : List Int} (h : YieldsP w0 w v l) (hf : Ext w w') : YieldsP w0 w' v l := by
  obtain ⟨h1, C, h2, h3⟩ := h
  exact ⟨h1, C, h2, fun W S hF hS => h3 W S ((hf S).trans hF fun _ _ e => e) fun b hb hlt => hS b hb (by have := hf.size; omega)⟩

theorem step_ok {lo hi a b : Int} (hb : 0 < b) (hb2 : b ≤ 2) (hi' : IntP hi) (ha : -70000 ≤ a) (ha2 : a ≤ 140000) (w : World) : c_pool_step lo hi a b w fun v w' => Ext w w' ∧ YieldsP w w' v (stepL hi a b) := by
  apply ok_pool_step
  unfold s_pool_step
  refine Al_e fun p w1 r1 e1 z1 f1 => ⟨rfl, Al_e fun q w2 r2 e2 z2 f2 => ⟨rfl, Al_e fun t w3 r3 e3 z3 f3 => ?_⟩⟩
  have r1 := (r1.ext f2).ext f3
  have r2 := r2.ext f3
  refine ⟨(f1.trans f2).trans f3, rfl, _, step_iter hb hb2 hi' ha ha2, fun W S hf hs => ⟨r2.fr hf (hs _ ?_ ?_), r1.fr hf (hs _ ?_ ?_), r3.fr hf (hs _ ?_ ?_)⟩⟩ <;> omega


theorem xor_i64 {a b : Nat} (ha : a < 2 ^ 63) (hb : b < 2 ^ 63) : xorI .i64 (a : Int) (b : Int) = ((a ^^^ b : Nat) : Int) := by
  unfold xorI
  have h1 : (BitVec.ofInt (IntKind.bits .i64) (a : Int)).toNat = a := by rw [bits64, BitVec.toNat_ofInt]; omega
  have h2 : (BitVec.ofInt (IntKind.bits .i64) (b : Int)).toNat = b := by rw [bits64, BitVec.toNat_ofInt]; omega
  rw [BitVec.toNat_xor, h1, h2]
  have : a ^^^ b < 2 ^ 63 := Nat.xor_lt_two_pow ha hb
  rw [wrap_i64 (by omega) (by omega)]

theorem xor1 {a b : Int} (ha : 0 ≤ a) (hb : 0 ≤ b) (ha2 : a < 2 ^ 62) (hb2 : b < 2 ^ 62) : andI .i64 (xorI .i64 a b) 1 = (a + b) % 2 := by
  obtain ⟨m, rfl⟩ : ∃ m : Nat, a = (m : Int) := ⟨a.toNat, by omega⟩
  obtain ⟨n, rfl⟩ : ∃ n : Nat, b = (n : Int) := ⟨b.toNat, by omega⟩
  have hx : m ^^^ n < 2 ^ 62 := Nat.xor_lt_two_pow (by omega) (by omega)
  rw [xor_i64 (by omega) (by omega), show (1 : Int) = ((1 : Nat) : Int) from rfl, and_i64 (by omega) (by decide), Nat.and_one_is_mod]
  have h0 : (m ^^^ n) % 2 = (m + n) % 2 := by
    have := Nat.xor_mod_two_pow (a := m) (b := n) (n := 1)
    rw [Nat.pow_one] at this
    rw [this]
    rcases Nat.mod_two_eq_zero_or_one m with h1 | h1 <;> rcases Nat.mod_two_eq_zero_or_one n with h2 | h2 <;> rw [h1, h2] <;> simp <;> omega
  rw [h0]
  omega

theorem alike_ok {lo hi want : Int} (h1 : IntP lo) (h2 : IntP want) (w : World) : c_pool_alike lo hi want w fun r w' => r = alike lo want ∧ Ext w w' := by
  apply ok_pool_alike
  unfold s_pool_alike
  refine Al_e fun p w1 r1 e1 z1 f1 => ?_
  simp only [Ld_eq, List.getElem?_cons_zero, LdV_some, dec_int, r1.cell]
  obtain ⟨h1, h1'⟩ := h1
  obtain ⟨h2, h2'⟩ := h2
  rw [xor1 h1 h2 (by omega) (by omega), wrap_i64 (by omega) (by omega)]
  exact ⟨rfl, f1⟩

theorem span_has_ok (lo hi p : Int) (w : World) : c_pool_span_has lo hi p w fun r w' => r = decide (lo ≤ p ∧ p ≤ hi) ∧ Ext w w' := by
  apply ok_pool_span_has
  unfold s_pool_span_has
  refine Al_e fun t w1 r1 e1 z1 f1 => ?_
  simp only [Ld_eq, List.getElem?_cons_zero, List.getElem?_cons_succ, LdV_some, dec_int, add_mk, Nat.zero_add, r1.cell]
  by_cases h : lo ≤ p
  · simp only [h, decide_true, cond_true, cond_true, true_and]; exact f1
  · simp only [h, decide_false, cond_false, false_and, true_and]; exact f1

theorem proto_ok (n : Int) (w : World) : c_pool_proto n w fun r w' => r = decide (n = 1 ∨ n = 6 ∨ n = 17) ∧ w' = w := by
  apply ok_pool_proto
  unfold s_pool_proto
  by_cases h1 : n = 1
  · simp [h1]
  · by_cases h2 : n = 6
    · simp [h2]
    · by_cases h3 : n = 17
      · simp [h3]
      · simp [h1, h2, h3]

/-- A pool lies there: its row. -/
abbrev poolV (lo hi : Int) (s : SliceV) (g : Nat) : List Value := [.int .i64 lo, .int .i64 hi, .slice s.a s.len s.cap, .map (some g)]

theorem ready_ok {w : World} {p g : Nat} {lo hi : Int} {s : SliceV} (h : Row w p (poolV lo hi s g)) : c_pool_Pool_ready (some ⟨p, 0, none⟩) w fun r w' => r = true ∧ w' = w := by
  apply ok_pool_Pool_ready
  unfold s_pool_Pool_ready
  simp only [Option.isNone_some, cond_true, ex_some, Ld_eq, List.getElem?_cons_zero, List.getElem?_cons_succ, LdV_some, dec_map, add_mk, Nat.zero_add, h.cell, Bool.not_false, and_self]

theorem used_ok {w : World} {p g : Nat} {lo hi : Int} {s : SliceV} {α : Type} {enc : α → Value} {xs : List α} (h : Row w p (poolV lo hi s g)) (hm : MapB enc w g xs) : c_pool_Pool_Used (some ⟨p, 0, none⟩) w fun r w' => r = (xs.length : Int) ∧ w' = w := by
  apply ok_pool_Pool_Used
  unfold s_pool_Pool_Used
  refine cm_pool_Pool_ready (ready_ok h) ?_
  rintro _ w' ⟨rfl, hw⟩
  subst hw
  simp only [Bool.not_true, cond_false, ex_some, Ld_eq, List.getElem?_cons_zero, List.getElem?_cons_succ, LdV_some, dec_map, add_mk, Nat.zero_add, h.cell]
  exact MapLen_B hm ⟨by trivial, by trivial⟩

end Go.Proofs
