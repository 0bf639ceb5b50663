import Derived.Test.YtjejhaefbhbghaaG19p
import Derived.Test.YtjejhaefbhbghaaBits
import Derived.Test.YtjejhaefbhbghaaBufN
import Derived.Test.YtjejhaefbhbghaaMapB
import Derived.Test.YtjejhaefbhbghaaBytes
import Derived.Test.YtjejhaefbhbghaaExt2
/- The order in which a pool tries ports: plain lists. -/
namespace Gp.Pool

/-- The numbers from a on, by so many, up to hi. -/
def stepL (hi a by_ : Int) : List Int := (List.range ((hi - a) / by_ + 1).toNat).map fun i : Nat => a + by_ * (i : Int)

theorem lt_iff {hi a b : Int} (hb : 0 < b) (i : Nat) : i < ((hi - a) / b + 1).toNat ↔ a + b * (i : Int) ≤ hi := by
  have h : ((i : Int) ≤ (hi - a) / b) ↔ (i : Int) * b ≤ hi - a := Int.le_ediv_iff_mul_le hb
  rw [Int.mul_comm b]
  omega

theorem stepL_get {hi a b : Int} (hb : 0 < b) (i : Nat) : (stepL hi a b)[i]? = if a + b * (i : Int) ≤ hi then some (a + b * (i : Int)) else none := by
  unfold stepL
  rw [List.getElem?_map]
  by_cases h : a + b * (i : Int) ≤ hi
  · rw [if_pos h, List.getElem?_range ((lt_iff hb i).2 h)]; rfl
  · rw [if_neg h, List.getElem?_eq_none]; rfl
    rw [List.length_range]
    have := (lt_iff (hi := hi) (a := a) hb i).1
    omega

theorem mem_stepL {hi a b x : Int} (hb : 0 < b) : x ∈ stepL hi a b ↔ a ≤ x ∧ x ≤ hi ∧ (x - a) % b = 0 := by
  unfold stepL
  rw [List.mem_map]
  constructor
  · rintro ⟨i, hi', rfl⟩
    have h := (lt_iff (hi := hi) (a := a) hb i).1 (List.mem_range.1 hi')
    have h0 : 0 ≤ b * (i : Int) := Int.mul_nonneg (by omega) (by omega)
    refine ⟨by omega, h, ?_⟩
    rw [show a + b * (i : Int) - a = b * (i : Int) by omega]
    exact Int.mul_emod_right _ _
  · rintro ⟨h1, h2, h3⟩
    have hd := Int.emod_add_mul_ediv (x - a) b
    rw [h3] at hd
    have hq : 0 ≤ (x - a) / b := Int.ediv_nonneg (by omega) (by omega)
    refine ⟨((x - a) / b).toNat, List.mem_range.2 ((lt_iff hb _).2 ?_), ?_⟩
    · rw [Int.toNat_of_nonneg hq]; omega
    · rw [Int.toNat_of_nonneg hq]; omega

/-- The first number from lo on with the parity of want. -/
def alike (lo want : Int) : Int := lo + (lo + want) % 2

/-- The ports that are tried, for one of the span that is wanted: with this one's class and the other one's. -/
def wantsL (lo hi want : Int) (cl cl' : Int × Int) : List Int :=
  (if lo ≤ want ∧ want ≤ hi then [want] else []) ++
    (((stepL (min hi cl.2) (max (want + 2) (alike (max lo cl.1) want)) 2).filter fun p => p ≠ want) ++
    (((stepL (min hi cl.2) (alike (max lo cl.1) want) 2).filter fun p => p ≠ want ∧ ¬ (want ≤ p)) ++
    (((stepL (min hi cl'.2) (alike (max lo cl'.1) want) 2).filter fun p => p ≠ want) ++
    ((stepL hi (alike lo (want + 1)) 2).filter fun p => p ≠ want))))

structure Good (lo hi want : Int) (xs : List Int) : Prop where
  inn : ∀ x ∈ xs, lo ≤ x ∧ x ≤ hi
  all : ∀ x, lo ≤ x → x ≤ hi → x ∈ xs
  par : ∀ l r x, xs = l ++ x :: r → x % 2 ≠ want % 2 → ∀ y, lo ≤ y → y ≤ hi → y % 2 = want % 2 → y ∈ l

/-- The class of a port, and the other one. -/
def cls (want : Int) : Int × Int := if want < 1024 then (0, 1023) else (1024, 65535)
def oth (want : Int) : Int × Int := if want < 1024 then (1024, 65535) else (0, 1023)

theorem par_of {A B : List Int} {want lo hi : Int} (hA : ∀ x ∈ A, x % 2 = want % 2) (hall : ∀ y, lo ≤ y → y ≤ hi → y % 2 = want % 2 → y ∈ A) :
    ∀ l r x, A ++ B = l ++ x :: r → x % 2 ≠ want % 2 → ∀ y, lo ≤ y → y ≤ hi → y % 2 = want % 2 → y ∈ l := by
  intro l r x h hx y h1 h2 h3
  rcases List.append_eq_append_iff.1 h with ⟨t, h4, _⟩ | ⟨t, h4, h5⟩
  · rw [h4]; exact List.mem_append_left _ (hall y h1 h2 h3)
  · cases t with
    | nil => rw [List.append_nil] at h4; rw [← h4]; exact hall y h1 h2 h3
    | cons z t =>
      simp only [List.cons_append, List.cons.injEq] at h5
      exact absurd (hA x (by rw [h4, h5.1]; simp)) hx

theorem wants_good {lo hi want : Int} (h1 : 0 ≤ lo) (h2 : hi ≤ 65535) (h3 : 0 ≤ want) (h4 : want ≤ 65535) : Good lo hi want (wantsL lo hi want (cls want) (oth want)) := by
  have key : ∀ x, x ∈ wantsL lo hi want (cls want) (oth want) ↔ lo ≤ x ∧ x ≤ hi := by
    intro x
    unfold wantsL cls oth alike
    simp only [List.mem_append, List.mem_filter, mem_stepL (b := 2) (by omega), decide_eq_true_eq, List.mem_ite_nil_right, List.mem_singleton]
    split <;> simp only [] <;> omega
  refine ⟨fun x hx => (key x).1 hx, fun x ha hb => (key x).2 ⟨ha, hb⟩, ?_⟩
  unfold wantsL
  rw [← List.append_assoc, ← List.append_assoc, ← List.append_assoc]
  refine par_of ?_ ?_
  · intro x hx
    unfold cls oth alike at hx
    simp only [List.mem_append, List.mem_filter, mem_stepL (b := 2) (by omega), decide_eq_true_eq, List.mem_ite_nil_right, List.mem_singleton] at hx
    split at hx <;> simp only [] at hx <;> omega
  · intro y ha hb hp
    unfold cls oth alike
    simp only [List.mem_append, List.mem_filter, mem_stepL (b := 2) (by omega), decide_eq_true_eq, List.mem_ite_nil_right, List.mem_singleton]
    split <;> simp only [] <;> omega

/-- What is taken: the first port that is not given. -/
def take (G xs : List Int) : Option Int := xs.find? fun p => decide (p ∉ G)

theorem take_some {lo hi want : Int} {G xs : List Int} {x : Int} (h : Good lo hi want xs) (ht : take G xs = some x) :
    x ∉ G ∧ lo ≤ x ∧ x ≤ hi ∧ (x % 2 ≠ want % 2 → ∀ y, lo ≤ y → y ≤ hi → y % 2 = want % 2 → y ∈ G) := by
  obtain ⟨hx, l, r, hl, hn⟩ := List.find?_eq_some_iff_append.1 ht
  have hm := h.inn x (by rw [hl]; simp)
  refine ⟨by simpa using hx, hm.1, hm.2, fun hp y h1 h2 h3 => ?_⟩
  have := hn y (h.par l r x hl hp y h1 h2 h3)
  simpa using this

theorem take_none {lo hi want : Int} {G xs : List Int} (h : Good lo hi want xs) (ht : take G xs = none) : ∀ y, lo ≤ y → y ≤ hi → y ∈ G := by
  intro y h1 h2
  have := List.find?_eq_none.1 ht y (h.all y h1 h2)
  simpa using this

theorem full_length {G : List Int} {lo : Int} {n : Nat} (hd : G.Nodup) (hi : ∀ x ∈ G, lo ≤ x ∧ x < lo + (n : Int)) (ha : ∀ y, lo ≤ y → y < lo + (n : Int) → y ∈ G) : G.length = n := by
  have hp : G.Perm ((List.range n).map fun i : Nat => lo + (i : Int)) := by
    refine (List.perm_ext_iff_of_nodup hd ?_).2 fun x => ?_
    · exact List.pairwise_map.2 (List.nodup_range.imp fun h e => h (by omega))
    · rw [List.mem_map]
      constructor
      · intro hx
        have := hi x hx
        exact ⟨(x - lo).toNat, List.mem_range.2 (by omega), by omega⟩
      · rintro ⟨i, h, rfl⟩
        exact ha _ (by omega) (by have := List.mem_range.1 h; omega)
  rw [hp.length_eq, List.length_map, List.length_range]

end Gp.Pool

/- The pool: the ports of a span, one after the other. -/
namespace Go.Proofs
open Gp
open Gp.Pool (stepL stepL_get alike cls oth wantsL)
set_option maxRecDepth 100000

abbrev IntP (x : Int) : Prop := 0 ≤ x ∧ x ≤ 70000

theorem mx (a c : Int) : (if c > a then c else a) = max a c := by rw [Int.max_def]; split <;> split <;> omega
theorem mn (a c : Int) : (if c < a then c else a) = min a c := by rw [Int.min_def]; split <;> split <;> omega

theorem span_both_ok (a b c d : Int) (w : World) : c_pool_span_both a b c d w fun x y w' => x = max a c ∧ y = min b d ∧ Ext w w' := by
  apply ok_pool_span_both
  unfold s_pool_span_both
  refine Al_e fun p w1 r1 e1 z1 f1 => Al_e fun q w2 r2 e2 z2 f2 => Al_e fun t w3 r3 e3 z3 f3 => ?_
  have r1 := (r1.ext f2).ext f3
  have r2 := r2.ext f3
  simp only [Ld_eq, List.getElem?_cons_zero, List.getElem?_cons_succ, LdV_some, dec_int, add_mk, Nat.zero_add, Nat.add_zero, r1.cell, r2.cell]
  refine StN_full r3 rfl rfl fun w4 r4 f4 z4 => ?_
  simp only [List.getElem?_cons_zero, List.getElem?_cons_succ, LdV_some, dec_int, r4.cell]
  refine ⟨mx a c, mn b d, ((f1.trans f2).trans f3).new (f4 (· = t) rfl) fun x hx e => by omega⟩

theorem class_ok (p : Int) (w : World) : c_pool_class p w fun x y w' => x = (cls p).1 ∧ y = (cls p).2 ∧ Ext w w' := by
  apply ok_pool_class
  unfold s_pool_class
  refine Al_e fun t w1 r1 e1 z1 f1 => ?_
  unfold cls
  by_cases h : p < 1024
  · simp only [h, decide_true, cond_true, if_true]
    refine StN_full r1 rfl rfl fun w4 r4 f4 z4 => ?_
    simp only [Ld_eq, List.getElem?_cons_zero, List.getElem?_cons_succ, LdV_some, dec_int, add_mk, Nat.zero_add, Nat.add_zero, r4.cell]
    exact ⟨by trivial, by trivial, f1.new (f4 (· = t) rfl) fun x hx e => by omega⟩
  · simp only [h, decide_false, cond_false, if_false]
    refine StN_full r1 rfl rfl fun w4 r4 f4 z4 => ?_
    simp only [Ld_eq, List.getElem?_cons_zero, List.getElem?_cons_succ, LdV_some, dec_int, add_mk, Nat.zero_add, Nat.add_zero, r4.cell]
    exact ⟨by trivial, by trivial, f1.new (f4 (· = t) rfl) fun x hx e => by omega⟩

theorem other_ok (p : Int) (w : World) : c_pool_other p w fun x y w' => x = (oth p).1 ∧ y = (oth p).2 ∧ Ext w w' := by
  apply ok_pool_other
  unfold s_pool_other
  refine Al_e fun t w1 r1 e1 z1 f1 => ?_
  unfold oth
  by_cases h : p < 1024
  · simp only [h, decide_true, cond_true, if_true]
    refine cm_pool_class (class_ok 1024 w1) ?_
    rintro _ _ w2 ⟨rfl, rfl, f2⟩
    refine StN_full (r1.ext f2) rfl rfl fun w4 r4 f4 z4 => ?_
    simp only [Ld_eq, List.getElem?_cons_zero, List.getElem?_cons_succ, LdV_some, dec_int, add_mk, Nat.zero_add, Nat.add_zero, r4.cell]
    exact ⟨by trivial, by trivial, (f1.trans f2).new (f4 (· = t) rfl) fun x hx e => by omega⟩
  · simp only [h, decide_false, cond_false, if_false]
    refine cm_pool_class (class_ok 0 w1) ?_
    rintro _ _ w2 ⟨rfl, rfl, f2⟩
    refine StN_full (r1.ext f2) rfl rfl fun w4 r4 f4 z4 => ?_
    simp only [Ld_eq, List.getElem?_cons_zero, List.getElem?_cons_succ, LdV_some, dec_int, add_mk, Nat.zero_add, Nat.add_zero, r4.cell]
    exact ⟨by trivial, by trivial, (f1.trans f2).new (f4 (· = t) rfl) fun x hx e => by omega⟩

def yP (l : List Int) : List (DenR [.one (.int .i64)]) := l.map fun p => (p, ())
theorem yP_get (l : List Int) (i : Nat) : (yP l)[i]? = (l[i]?).map fun p => (p, ()) := by simp [yP]

theorem step_iter {lo hi a b : Int} {f0 f1 f2 : Nat} (hb : 0 < b) (hb2 : b ≤ 2) (hi' : IntP hi) (ha : -70000 ≤ a) (ha2 : a ≤ 140000) :
    IterFn Try.prog [.one (.int .i64)] (Value.func (.func n_pool_step_1) #[] #[(Value.pointer (some ⟨f0, 0, none⟩)), (Value.pointer (some ⟨f1, 0, none⟩)), (Value.pointer (some ⟨f2, 0, none⟩))])
      (fun W => Row W f0 [.int .i64 a] ∧ Row W f1 [.int .i64 lo, .int .i64 hi] ∧ Row W f2 [.int .i64 b]) (yP (stepL hi a b)) := by
  refine ⟨by kernel_rfl, fun l Q D hC hQ hD hy w h0 => ?_⟩
  refine Calls.mono (ok_pool_step_1 (a0 := .func (.yield l) #[] #[]) (f0 := ⟨f0, 0, none⟩) (f1 := ⟨f1, 0, none⟩) (f2 := ⟨f2, 0, none⟩) (K := fun w' => Q (yP (stepL hi a b)).length w' ∨ D w') ?_) (fun e w' h => h)
  have hlen : ∀ i : Nat, i < (yP (stepL hi a b)).length ↔ a + b * (i : Int) ≤ hi := by
    intro i
    rw [← Gp.Pool.lt_iff hb i]
    simp [yP, stepL]
  generalize hn : (yP (stepL hi a b)).length = n at hlen ⊢
  unfold s_pool_step_1
  obtain ⟨r0, _, _⟩ := hC _ _ h0
  simp only [Ld_eq, List.getElem?_cons_zero, LdV_some, dec_int, add_mk, Nat.zero_add, r0.cell]
  refine LoopP_inv (fun st W => ∃ i : Nat, i ≤ n ∧ st.1 = a + b * (i : Int) ∧ Q i W) (fun st _ => (hi + 1 - st.1).toNat) ⟨0, by omega, by simp, h0⟩ ?_
  rintro ⟨x, ⟨⟩⟩ W ⟨i, hi2, hx, hq⟩ next hnext
  simp only at hx
  obtain ⟨_, r1, r2⟩ := hC _ _ hq
  simp only [List.getElem?_cons_zero, List.getElem?_cons_succ, LdV_some, dec_int, r1.cell]
  have hli := hlen i
  rw [← hx] at hli
  by_cases hlt : x ≤ hi
  · have hin := hli.2 hlt
    simp only [hlt, decide_true, cond_true]
    refine callV_yield (hy i (x, ()) W _ ?_ hq ?_ ?_)
    · rw [yP_get, stepL_get hb, ← hx, if_pos hlt]; rfl
    · intro W' hq'
      obtain ⟨_, _, r2'⟩ := hC _ _ hq'
      refine ⟨true, rfl, ?_⟩
      simp only [Bool.not_true, cond_false, cond_false, List.getElem?_cons_zero, LdV_some, dec_int, r2'.cell]
      have hx1 : a ≤ x := by
        have := Int.mul_nonneg (show (0 : Int) ≤ b by omega) (show (0 : Int) ≤ (i : Int) by omega)
        omega
      rw [wrap_i64 (by have := hi'.2; omega) (by have := hi'.2; omega)]
      refine hnext _ _ ⟨i + 1, by omega, ?_, hq'⟩ (by simp only; omega)
      simp only [hx, Int.natCast_add, Int.mul_add]
      omega
    · intro W' hd
      refine ⟨false, rfl, ?_⟩
      simp only [Bool.not_false, cond_true]
      exact .inr hd
  · simp only [hlt, decide_false, cond_false]
    have : i = n := by
      have : ¬ i < n := fun h => hlt (hli.1 h)
      omega
    subst this
    exact .inl hq

/-- What yields these ports, as long as nothing of a stretch is touched. -/
def YieldsP (w0 w : World) (v : Value) (l : List Int) : Prop :=
  isOne v = true ∧ ∃ C, IterFn Try.prog [.one (.int .i64)] v C (yP l) ∧ ∀ W S, Fr8 w W S → (∀ b, w0.heap.size ≤ b → b < w.heap.size → ¬ S b) → C W

theorem YieldsP.ext {w0 w w' : World} {v : Value} {l : List Int} (h : YieldsP w0 w v l) (hf : Ext w w') : YieldsP w0 w' v l := by
  obtain ⟨h1, C, h2, h3⟩ := h
  exact ⟨h1, C, h2, fun W S hF hS => h3 W S ((hf S).trans hF fun _ _ e => e) fun b hb hlt => hS b hb (by have := hf.size; omega)⟩

theorem step_ok {lo hi a b : Int} (hb : 0 < b) (hb2 : b ≤ 2) (hi' : IntP hi) (ha : -70000 ≤ a) (ha2 : a ≤ 140000) (w : World) : c_pool_step lo hi a b w fun v w' => Ext w w' ∧ YieldsP w w' v (stepL hi a b) := by
  apply ok_pool_step
  unfold s_pool_step
  refine Al_e fun p w1 r1 e1 z1 f1 => ⟨rfl, Al_e fun q w2 r2 e2 z2 f2 => ⟨rfl, Al_e fun t w3 r3 e3 z3 f3 => ?_⟩⟩
  have r1 := (r1.ext f2).ext f3
  have r2 := r2.ext f3
  refine ⟨(f1.trans f2).trans f3, rfl, _, step_iter hb hb2 hi' ha ha2, fun W S hf hs => ⟨r2.fr hf (hs _ ?_ ?_), r1.fr hf (hs _ ?_ ?_), r3.fr hf (hs _ ?_ ?_)⟩⟩ <;> omega


theorem xor_i64 {a b : Nat} (ha : a < 2 ^ 63) (hb : b < 2 ^ 63) : xorI .i64 (a : Int) (b : Int) = ((a ^^^ b : Nat) : Int) := by
  unfold xorI
  have h1 : (BitVec.ofInt (IntKind.bits .i64) (a : Int)).toNat = a := by rw [bits64, BitVec.toNat_ofInt]; omega
  have h2 : (BitVec.ofInt (IntKind.bits .i64) (b : Int)).toNat = b := by rw [bits64, BitVec.toNat_ofInt]; omega
  rw [BitVec.toNat_xor, h1, h2]
  have : a ^^^ b < 2 ^ 63 := Nat.xor_lt_two_pow ha hb
  rw [wrap_i64 (by omega) (by omega)]

theorem xor1 {a b : Int} (ha : 0 ≤ a) (hb : 0 ≤ b) (ha2 : a < 2 ^ 62) (hb2 : b < 2 ^ 62) : andI .i64 (xorI .i64 a b) 1 = (a + b) % 2 := by
  obtain ⟨m, rfl⟩ : ∃ m : Nat, a = (m : Int) := ⟨a.toNat, by omega⟩
  obtain ⟨n, rfl⟩ : ∃ n : Nat, b = (n : Int) := ⟨b.toNat, by omega⟩
  have hx : m ^^^ n < 2 ^ 62 := Nat.xor_lt_two_pow (by omega) (by omega)
  rw [xor_i64 (by omega) (by omega), show (1 : Int) = ((1 : Nat) : Int) from rfl, and_i64 (by omega) (by decide), Nat.and_one_is_mod]
  have h0 : (m ^^^ n) % 2 = (m + n) % 2 := by
    have := Nat.xor_mod_two_pow (a := m) (b := n) (n := 1)
    rw [Nat.pow_one] at this
    rw [this]
    rcases Nat.mod_two_eq_zero_or_one m with h1 | h1 <;> rcases Nat.mod_two_eq_zero_or_one n with h2 | h2 <;> rw [h1, h2] <;> simp <;> omega
  rw [h0]
  omega

theorem alike_ok {lo hi want : Int} (h1 : IntP lo) (h2 : IntP want) (w : World) : c_pool_alike lo hi want w fun r w' => r = alike lo want ∧ Ext w w' := by
  apply ok_pool_alike
  unfold s_pool_alike
  refine Al_e fun p w1 r1 e1 z1 f1 => ?_
  simp only [Ld_eq, List.getElem?_cons_zero, LdV_some, dec_int, r1.cell]
  obtain ⟨h1, h1'⟩ := h1
  obtain ⟨h2, h2'⟩ := h2
  rw [xor1 h1 h2 (by omega) (by omega), wrap_i64 (by omega) (by omega)]
  exact ⟨rfl, f1⟩

theorem span_has_ok (lo hi p : Int) (w : World) : c_pool_span_has lo hi p w fun r w' => r = decide (lo ≤ p ∧ p ≤ hi) ∧ Ext w w' := by
  apply ok_pool_span_has
  unfold s_pool_span_has
  refine Al_e fun t w1 r1 e1 z1 f1 => ?_
  simp only [Ld_eq, List.getElem?_cons_zero, List.getElem?_cons_succ, LdV_some, dec_int, add_mk, Nat.zero_add, r1.cell]
  by_cases h : lo ≤ p
  · simp only [h, decide_true, cond_true, cond_true, true_and]; exact f1
  · simp only [h, decide_false, cond_false, false_and, true_and]; exact f1

theorem proto_ok (n : Int) (w : World) : c_pool_proto n w fun r w' => r = decide (n = 1 ∨ n = 6 ∨ n = 17) ∧ w' = w := by
  apply ok_pool_proto
  unfold s_pool_proto
  by_cases h1 : n = 1
  · simp [h1]
  · by_cases h2 : n = 6
    · simp [h2]
    · by_cases h3 : n = 17
      · simp [h3]
      · simp [h1, h2, h3]

/-- A pool lies there: its row. -/
abbrev poolV (lo hi : Int) (s : SliceV) (g : Nat) : List Value := [.int .i64 lo, .int .i64 hi, .slice s.a s.len s.cap, .map (some g)]

theorem ready_ok {w : World} {p g : Nat} {lo hi : Int} {s : SliceV} (h : Row w p (poolV lo hi s g)) : c_pool_Pool_ready (some ⟨p, 0, none⟩) w fun r w' => r = true ∧ w' = w := by
  apply ok_pool_Pool_ready
  unfold s_pool_Pool_ready
  simp only [Option.isNone_some, cond_true, ex_some, Ld_eq, List.getElem?_cons_zero, List.getElem?_cons_succ, LdV_some, dec_map, add_mk, Nat.zero_add, h.cell, Bool.not_false, and_self]

theorem used_ok {w : World} {p g : Nat} {lo hi : Int} {s : SliceV} {α : Type} {enc : α → Value} {xs : List α} (h : Row w p (poolV lo hi s g)) (hm : MapB enc w g xs) : c_pool_Pool_Used (some ⟨p, 0, none⟩) w fun r w' => r = (xs.length : Int) ∧ w' = w := by
  apply ok_pool_Pool_Used
  unfold s_pool_Pool_Used
  refine cm_pool_Pool_ready (ready_ok h) ?_
  rintro _ w' ⟨rfl, hw⟩
  subst hw
  simp only [Bool.not_true, cond_false, ex_some, Ld_eq, List.getElem?_cons_zero, List.getElem?_cons_succ, LdV_some, dec_map, add_mk, Nat.zero_add, h.cell]
  exact MapLen_B hm ⟨by trivial, by trivial⟩

end Go.Proofs

/- The rows of ports that are tried. -/
namespace Go.Proofs
open Gp
open Gp.Pool (stepL stepL_get alike cls oth wantsL)
set_option maxRecDepth 100000

/-- What lies there since a world: new rows. -/
structure Inv3 (w W : World) (rs : List (Nat × List Value)) : Prop where
  ext : Ext w W
  rows : ∀ r ∈ rs, Row W r.1 r.2 ∧ w.heap.size ≤ r.1
  nd : (rs.map Prod.fst).Nodup

theorem Inv3.step {w W W' : World} {rs : List (Nat × List Value)} (h : Inv3 w W rs) (f : Ext W W') : Inv3 w W' rs :=
  ⟨h.ext.trans f, fun r hr => ⟨(h.rows r hr).1.ext f, (h.rows r hr).2⟩, h.nd⟩

theorem Inv3.al {w W : World} {rs : List (Nat × List Value)} (h : Inv3 w W rs) {T : TypeId} {l : List Value} {K : Addr → World → Prop} (hK : ∀ b W', Inv3 w W' ((b, l) :: rs) → K ⟨b, 0, none⟩ W') : Al W (.cells ⟨l⟩ T) K := by
  refine Al_e fun b W' r e z f => hK b W' ⟨h.ext.trans f, fun q hq => ?_, ?_⟩
  · rcases List.mem_cons.1 hq with rfl | hq
    · exact ⟨r, by have := h.ext.size; simp only; omega⟩
    · exact ⟨(h.rows q hq).1.ext f, (h.rows q hq).2⟩
  · simp only [List.map_cons, List.nodup_cons]
    refine ⟨fun hm => ?_, h.nd⟩
    obtain ⟨q, hq, hqe⟩ := List.mem_map.1 hm
    have := (h.rows q hq).1.lt
    omega

theorem Inv3.end2 {w W : World} {rs : List (Nat × List Value)} (h : Inv3 w W rs) {x y : Nat} {l m l' m' : List Value} (hx : (x, l) ∈ rs) (hy : (y, m) ∈ rs) (hne : x ≠ y) (hl : l'.length = l.length) (hm : m'.length = m.length)
    (ho : l'.all isOne = true) (hp : m'.all isOne = true) {K : World → Prop} (hK : ∀ W', Ext w W' → Row W' x l' → Row W' y m' → w.heap.size ≤ x → w.heap.size ≤ y → K W') : StN l' W ⟨x, 0, none⟩ 0 fun W1 => StN m' W1 ⟨y, 0, none⟩ 0 K := by
  obtain ⟨r1, h1⟩ := h.rows _ hx
  obtain ⟨r2, h2⟩ := h.rows _ hy
  refine StN_full r1 ho hl fun W1 q1 f1 z1 => ?_
  refine StN_full (r2.fr (f1 (· = x) rfl) fun e => hne e.symm) hp hm fun W2 q2 f2 z2 => ?_
  refine hK W2 ?_ (q1.fr (f2 (· = y) rfl) hne) q2 h1 h2
  exact (h.ext.new (f1 (· = x) rfl) fun b hb e => by simp only at h1; omega).new (f2 (· = y) rfl) fun b hb e => by simp only at h2; omega

theorem YieldsP.back {w0 w1 w : World} {v : Value} {l : List Int} (h : YieldsP w1 w v l) (hf : w0.heap.size ≤ w1.heap.size) : YieldsP w0 w v l := by
  obtain ⟨h1, C, h2, h3⟩ := h
  exact ⟨h1, C, h2, fun W S hF hS => h3 W S hF fun b hb hlt => hS b (by omega) hlt⟩

theorem cls_p {p : Int} (_h : IntP p) : IntP (cls p).1 ∧ IntP (cls p).2 := by unfold cls IntP; split <;> simp
theorem oth_p {p : Int} (_h : IntP p) : IntP (oth p).1 ∧ IntP (oth p).2 := by unfold oth IntP; split <;> simp
theorem alike_le {lo want : Int} : lo ≤ alike lo want ∧ alike lo want ≤ lo + 1 := by unfold alike; omega

abbrev two (a b : Int) : List Value := [.int .i64 a, .int .i64 b]

theorem rows_ok {w : World} {p g : Nat} {lo hi want n : Int} {s : SliceV} (h : Row w p (poolV lo hi s g)) (hn : n ≠ 1) (h1 : IntP lo) (h2 : IntP hi) (h3 : IntP want) (h4 : want ≤ 65535) :
    c_pool_Pool_rows (some ⟨p, 0, none⟩) n want w fun r w' => Ext w w' ∧ ∃ b v0 v1 v2 v3, r = ⟨some ⟨b, 0, none⟩, 4, 4⟩ ∧ Row w' b [v0, v1, v2, v3] ∧ w.heap.size ≤ b ∧
      YieldsP w w' v0 (stepL (min hi (cls want).2) (max (want + 2) (alike (max lo (cls want).1) want)) 2) ∧ YieldsP w w' v1 (stepL (min hi (cls want).2) (alike (max lo (cls want).1) want) 2) ∧
      YieldsP w w' v2 (stepL (min hi (oth want).2) (alike (max lo (oth want).1) want) 2) ∧ YieldsP w w' v3 (stepL hi (alike lo (want + 1)) 2) := by
  apply ok_pool_Pool_rows
  unfold s_pool_Pool_rows
  have hn' : (n == 1) = false := by simp [hn]
  simp only [hn', cond_false]
  refine JoinP.of fun J hJ => ?_
  have hJ' : ∀ (x y : Nat) (W : World), Ext w W → Row W x (two (max lo (cls want).1) (min hi (cls want).2)) → Row W y (two (max lo (oth want).1) (min hi (oth want).2)) → w.heap.size ≤ x → w.heap.size ≤ y →
      J ((⟨x, 0, none⟩, ⟨y, 0, none⟩, ()), W) := by
    intro x y W hE rx ry lx ly
    refine hJ _ ?_
    obtain ⟨k1, k2⟩ := cls_p h3
    obtain ⟨k3, k4⟩ := oth_p h3
    have pn : IntP (max lo (cls want).1) := ⟨by have := h1.1; omega, by have := h1.2; have := k1.2; omega⟩
    have qn : IntP (min hi (cls want).2) := ⟨by have := h2.1; have := k2.1; omega, by have := h2.2; omega⟩
    have pf : IntP (max lo (oth want).1) := ⟨by have := h1.1; omega, by have := h1.2; have := k3.2; omega⟩
    have qf : IntP (min hi (oth want).2) := ⟨by have := h2.1; have := k4.1; omega, by have := h2.2; omega⟩
    generalize max lo (cls want).1 = nl at pn rx ⊢
    generalize min hi (cls want).2 = nh at qn rx ⊢
    generalize max lo (oth want).1 = fl at pf ry ⊢
    generalize min hi (oth want).2 = fh at qf ry ⊢
    have hd := Ext.drew W
    have hp := h.ext hE
    have x0 : ∀ W', Ext W W' → W'.cell? ⟨x, 0, none⟩ = some (.int .i64 nl) := fun W' f => (rx.ext f).cell 0
    have x1 : ∀ W', Ext W W' → W'.cell? ⟨x, 1, none⟩ = some (.int .i64 nh) := fun W' f => (rx.ext f).cell 1
    have y0 : ∀ W', Ext W W' → W'.cell? ⟨y, 0, none⟩ = some (.int .i64 fl) := fun W' f => (ry.ext f).cell 0
    have y1 : ∀ W', Ext W W' → W'.cell? ⟨y, 1, none⟩ = some (.int .i64 fh) := fun W' f => (ry.ext f).cell 1
    have p0 : ∀ W', Ext W W' → W'.cell? ⟨p, 0, none⟩ = some (.int .i64 lo) := fun W' f => (hp.ext f).cell 0
    have p1 : ∀ W', Ext W W' → W'.cell? ⟨p, 1, none⟩ = some (.int .i64 hi) := fun W' f => (hp.ext f).cell 1
    simp only [ex_some, Ld_eq, LdV_some, dec_int, add_mk, Nat.zero_add, Nat.add_zero, x0 _ hd, x1 _ hd, y0 _ hd, y1 _ hd, p0 _ hd, p1 _ hd]
    have w2 : IntKind.i64.wrap (want + 2) = want + 2 := by have := h3.1; rw [wrap_i64 (by omega) (by omega)]
    have w1 : IntKind.i64.wrap (want + 1) = want + 1 := by have := h3.1; rw [wrap_i64 (by omega) (by omega)]
    have a1 := alike_le (lo := nl) (want := want)
    have a2 := alike_le (lo := fl) (want := want)
    have a3 := alike_le (lo := lo) (want := want + 1)
    obtain ⟨pn1, pn2⟩ := pn
    obtain ⟨pf1, pf2⟩ := pf
    obtain ⟨h11, h12⟩ := h1
    obtain ⟨h31, h32⟩ := h3
    refine cm_pool_alike (alike_ok ⟨pn1, pn2⟩ ⟨h31, h32⟩ _) ?_
    rintro _ W1 ⟨rfl, g⟩
    have e1 := hd.trans g
    simp only [x0 _ e1, x1 _ e1, y0 _ e1, y1 _ e1, p0 _ e1, p1 _ e1, true_and, w1, w2, mx]
    refine cm_pool_step (step_ok (by omega) (by omega) qn (by omega) (by omega) _) ?_
    rintro v0 W2 ⟨g, yv0⟩
    have l0 := e1.size
    have yv0 := yv0.back (w0 := w) (by have := hE.size; omega)
    have e2 := e1.trans g
    simp only [x0 _ e2, x1 _ e2, y0 _ e2, y1 _ e2, p0 _ e2, p1 _ e2, true_and]
    refine cm_pool_alike (alike_ok ⟨pn1, pn2⟩ ⟨h31, h32⟩ _) ?_
    rintro _ W3 ⟨rfl, g⟩
    have yv0 := yv0.ext g
    have e3 := e2.trans g
    simp only [x0 _ e3, x1 _ e3, y0 _ e3, y1 _ e3, p0 _ e3, p1 _ e3, true_and]
    refine cm_pool_step (step_ok (by omega) (by omega) qn (by omega) (by omega) _) ?_
    rintro v1 W4 ⟨g, yv1⟩
    have l1 := e3.size
    have yv1 := yv1.back (w0 := w) (by have := hE.size; omega)
    have yv0 := yv0.ext g
    have e4 := e3.trans g
    simp only [y0 _ e4, y1 _ e4, p0 _ e4, p1 _ e4, true_and]
    refine cm_pool_alike (alike_ok ⟨pf1, pf2⟩ ⟨h31, h32⟩ _) ?_
    rintro _ W5 ⟨rfl, g⟩
    have yv0 := yv0.ext g
    have yv1 := yv1.ext g
    have e5 := e4.trans g
    simp only [y0 _ e5, y1 _ e5, p0 _ e5, p1 _ e5, true_and]
    refine cm_pool_step (step_ok (by omega) (by omega) qf (by omega) (by omega) _) ?_
    rintro v2 W6 ⟨g, yv2⟩
    have l2 := e5.size
    have yv2 := yv2.back (w0 := w) (by have := hE.size; omega)
    have yv0 := yv0.ext g
    have yv1 := yv1.ext g
    have e6 := e5.trans g
    simp only [p0 _ e6, p1 _ e6, true_and]
    refine cm_pool_alike (alike_ok ⟨h11, h12⟩ ⟨by omega, by omega⟩ _) ?_
    rintro _ W7 ⟨rfl, g⟩
    have yv0 := yv0.ext g
    have yv1 := yv1.ext g
    have yv2 := yv2.ext g
    have e7 := e6.trans g
    simp only [p0 _ e7, p1 _ e7, true_and]
    refine cm_pool_step (step_ok (by omega) (by omega) h2 (by omega) (by omega) _) ?_
    rintro v3 W8 ⟨g, yv3⟩
    have l3 := e7.size
    have yv3 := yv3.back (w0 := w) (by have := hE.size; omega)
    have yv0 := yv0.ext g
    have yv1 := yv1.ext g
    have yv2 := yv2.ext g
    have e8 := e7.trans g
    refine ⟨⟨yv0.1, yv1.1, yv2.1, yv3.1, trivial⟩, Al_e fun b W9 r9 hb z9 g => ?_⟩
    exact ⟨(hE.trans e8).trans g, b, v0, v1, v2, v3, by trivial, r9, by have := hE.size; have := e8.size; omega, yv0.ext g, yv1.ext g, yv2.ext g, yv3.ext g⟩
  clear hJ
  have c0 : ∀ W, Ext w W → W.cell? (Addr.add ⟨p, 0, none⟩ 0) = some (.int .i64 lo) := fun W f => (h.ext f).cell 0
  have c1 : ∀ W, Ext w W → W.cell? (Addr.add ⟨p, 0, none⟩ 1) = some (.int .i64 hi) := fun W f => (h.ext f).cell 1
  have hI : Inv3 w w.drew [] := ⟨Ext.drew w, fun r hr => by simp at hr, by simp⟩
  simp only [ex_some, Ld_eq, c0 _ (Ext.drew w), c1 _ (Ext.drew w), LdV_some, dec_int]
  repeat' (first
    | (with_reducible refine And.intro ?_ ?_)
    | (with_reducible exact c0 _ hI.ext)
    | (with_reducible exact c1 _ hI.ext)
    | ((with_reducible refine cm_pool_class (class_ok _ _) ?_); rintro _ _ W' ⟨rfl, rfl, f⟩; replace hI := hI.step f)
    | ((with_reducible refine cm_pool_other (other_ok _ _) ?_); rintro _ _ W' ⟨rfl, rfl, f⟩; replace hI := hI.step f)
    | ((with_reducible refine cm_pool_span_both (span_both_ok _ _ _ _ _) ?_); rintro _ _ W' ⟨rfl, rfl, f⟩; replace hI := hI.step f)
    | ((with_reducible refine Inv3.al hI ?_); clear hI; intro b W' hI))
  all_goals
    refine Inv3.end2 (l := two 0 0) (m := two 0 0) hI ?_ ?_ ?_ ?_ ?_ ?_ ?_ fun W' hE rx ry lx ly => hJ' _ _ _ hE rx ry lx ly
    · simp
    · simp
    · have := hI.nd
      simp at this
      omega
    · rfl
    · rfl
    · rfl
    · rfl

end Go.Proofs

/- The ports that are tried, as a function that yields them. -/
namespace Go.Proofs
open Gp
open Gp.Pool (stepL stepL_get alike cls oth wantsL)
set_option maxRecDepth 100000

theorem St_same {w : World} {b i : Nat} {l : List Value} {v : Value} {K : World → Prop} (hr : Row w b l) (h1 : isOne v = true) (hi : l[i]? = some v) (h : ∀ w', Ext w w' → w'.heap.size = w.heap.size → K w') : St w ⟨b, i, none⟩ v K := by
  refine ⟨h1, by rw [hr.cell, hi]; rfl, hr.frozen i, h _ (fun S => ?_) (by simp)⟩
  have hf : Fr8 w (w.setCell ⟨b, i, none⟩ v) (· = b) := Fr8.set w ⟨b, i, none⟩ v rfl
  refine ⟨hf.size, fun c hc _ => ?_, hf.io⟩
  by_cases e : c = b
  · subst e
    obtain ⟨T, ht⟩ := hr
    obtain ⟨hlt, hv⟩ := List.getElem?_eq_some_iff.1 hi
    show (w.heap.modify c _)[c]? = w.heap[c]?
    rw [Array.getElem?_modify, if_pos rfl, ht]
    subst hv
    simp
  · exact hf.same c hc e

theorem mask {x : Int} (h : 0 ≤ x) (h2 : x ≤ 65535) : andI .i64 x 65535 = x := by
  obtain ⟨m, rfl⟩ : ∃ m : Nat, x = (m : Int) := ⟨x.toNat, by omega⟩
  rw [show (65535 : Int) = ((65535 : Nat) : Int) from rfl, and_i64 (by omega) (by decide), show (65535 : Nat) = 2 ^ 16 - 1 from rfl, Nat.and_two_pow_sub_one_eq_mod, Nat.mod_eq_of_lt (by omega)]

theorem filt_get {A B X : List Int} {f : Int → Bool} {i : Nat} {x : Int} (hx : X[i]? = some x) (hp : f x = true) : (A ++ (X.filter f ++ B))[A.length + ((X.take i).filter f).length]? = some x := by
  obtain ⟨hlt, rfl⟩ := List.getElem?_eq_some_iff.1 hx
  have hX : X.filter f = (X.take i).filter f ++ (X[i] :: (X.drop (i + 1)).filter f) := by
    conv => lhs; rw [← List.take_append_drop i X, List.filter_append, List.drop_eq_getElem_cons hlt, List.filter_cons_of_pos hp]
  rw [List.getElem?_append_right (by omega), hX]
  simp

theorem filt_succ {X : List Int} {f : Int → Bool} {i : Nat} {x : Int} (hx : X[i]? = some x) : ((X.take (i + 1)).filter f).length = ((X.take i).filter f).length + (if f x then 1 else 0) := by
  rw [List.take_add_one, hx]
  by_cases h : f x = true <;> simp [List.filter_append, h]

/-- The rows, and which of their ports are tried. -/
def rowsL (lo hi want : Int) (cl cl' : Int × Int) : List (List Int) :=
  [stepL (min hi cl.2) (max (want + 2) (alike (max lo cl.1) want)) 2, stepL (min hi cl.2) (alike (max lo cl.1) want) 2, stepL (min hi cl'.2) (alike (max lo cl'.1) want) 2, stepL hi (alike lo (want + 1)) 2]
def keepF (want : Int) (j : Nat) (p : Int) : Bool := decide (p ≠ want ∧ ¬ (j = 1 ∧ want ≤ p))
def headL (lo hi want : Int) : List Int := if lo ≤ want ∧ want ≤ hi then [want] else []
/-- What is tried from a row on. -/
def fromL (want : Int) : Nat → List (List Int) → List Int
  | _, [] => []
  | j, r :: rs => r.filter (keepF want j) ++ fromL want (j + 1) rs

theorem wantsL_eq (lo hi want : Int) (cl cl' : Int × Int) : wantsL lo hi want cl cl' = headL lo hi want ++ fromL want 0 (rowsL lo hi want cl cl') := by
  unfold wantsL headL rowsL fromL fromL fromL fromL fromL keepF
  simp

theorem fromL_app (want : Int) : ∀ (a b : List (List Int)) (k : Nat), fromL want k (a ++ b) = fromL want k a ++ fromL want (k + a.length) b := by
  intro a
  induction a with
  | nil => intro b k; simp [fromL]
  | cons x a ih =>
    intro b k
    simp only [List.cons_append, fromL, ih, List.append_assoc, List.length_cons]
    rw [show k + 1 + a.length = k + (a.length + 1) by omega]

/-- What is tried ahead of a row. -/
def preL (want : Int) (h : List Int) (rs : List (List Int)) (j : Nat) : List Int := h ++ fromL want 0 (rs.take j)

theorem preL_all {want : Int} {h : List Int} {rs : List (List Int)} {j : Nat} {r : List Int} (hr : rs[j]? = some r) :
    h ++ fromL want 0 rs = preL want h rs j ++ (r.filter (keepF want j) ++ fromL want (j + 1) (rs.drop (j + 1))) := by
  obtain ⟨hlt, rfl⟩ := List.getElem?_eq_some_iff.1 hr
  have e : rs = rs.take j ++ (rs[j] :: rs.drop (j + 1)) := by rw [← List.drop_eq_getElem_cons hlt, List.take_append_drop]
  unfold preL
  conv => lhs; rw [e, fromL_app, List.length_take, Nat.min_eq_left (by omega), fromL, Nat.zero_add]
  simp only [List.append_assoc]

theorem preL_succ {want : Int} {h : List Int} {rs : List (List Int)} {j : Nat} {r : List Int} (hr : rs[j]? = some r) :
    (preL want h rs (j + 1)).length = (preL want h rs j).length + (r.filter (keepF want j)).length := by
  obtain ⟨hlt, rfl⟩ := List.getElem?_eq_some_iff.1 hr
  unfold preL
  rw [List.take_add_one, List.getElem?_eq_getElem hlt, fromL_app, List.length_take, Nat.min_eq_left (by omega)]
  simp [fromL]
  omega

theorem wants_iter {p g f0 f1 f2 : Nat} {lo hi want n : Int} {s : SliceV} (hn : n = 6 ∨ n = 17) (h1 : IntP lo) (h2 : IntP hi) (h3 : 0 ≤ want) (h4 : want ≤ 65535) :
    IterFn2 Try.prog [.one (.int .i64)] (Value.func (.func n_pool_Pool_Wants_1) #[] #[(Value.pointer (some ⟨f0, 0, none⟩)), (Value.pointer (some ⟨f1, 0, none⟩)), (Value.pointer (some ⟨f2, 0, none⟩))])
      (fun W => Row W f0 [.pointer (some ⟨p, 0, none⟩)] ∧ Row W f1 [.int .i64 n] ∧ Row W f2 [.int .i64 want] ∧ Row W p (poolV lo hi s g)) (yP (wantsL lo hi want (cls want) (oth want))) := by
  refine ⟨by kernel_rfl, fun l w Q D hC hQ hD hy h0 => ?_⟩
  refine Calls.mono (ok_pool_Pool_Wants_1 (a0 := .func (.yield l) #[] #[]) (f0 := ⟨f0, 0, none⟩) (f1 := ⟨f1, 0, none⟩) (f2 := ⟨f2, 0, none⟩) (K := fun w' => Q (yP (wantsL lo hi want (cls want) (oth want))).length w' ∨ D w') ?_) (fun e w' h => h)
  have hlen : (yP (wantsL lo hi want (cls want) (oth want))).length = (preL want (headL lo hi want) (rowsL lo hi want (cls want) (oth want)) 4).length := by
    simp only [yP, List.length_map, wantsL_eq, preL, rowsL, List.take]
  rw [hlen]
  unfold s_pool_Pool_Wants_1
  refine ⟨rfl, Al_e fun b3 w1 r3 e3 z3 x3 => ?_⟩
  have up : ∀ {i W W'}, Q i W → Ext W W' → Q i W' := fun hq hx => hQ _ _ _ hq (hx _)
  have q1 := up h0 x3
  intro J4
  suffices hJ4 : J4 false w1 by
    obtain ⟨c0, c1, c2, c3⟩ := hC _ _ q1
    simp only [Ld_eq, List.getElem?_cons_zero, LdV_some, dec_ptr, c0.cell]
    refine cm_pool_Pool_ready (ready_ok c3) ?_
    rintro _ w' ⟨rfl, hw⟩
    subst hw
    simp only [Bool.not_true, cond_false, List.getElem?_cons_zero, LdV_some, dec_int, c1.cell]
    refine cm_pool_proto (proto_ok n _) ?_
    rintro _ w' ⟨rfl, hw⟩
    subst hw
    have : (n = 1 ∨ n = 6 ∨ n = 17) := .inr hn
    simp only [this, decide_true, Bool.not_true]
    exact hJ4
  obtain ⟨c0, c1, c2, c3⟩ := hC _ _ q1
  simp -zeta only [J4, cond_false, cond_false, Ld_eq, List.getElem?_cons_zero, LdV_some, dec_int, c2.cell, mask h3 h4]
  refine St_same c2 rfl rfl fun w8 x8 z8 => ?_
  have q8 := up q1 x8
  have r8 := r3.ext x8
  intro J9
  have hJ9 : ∀ W, Q (headL lo hi want).length W → Row W b3 [.func (.yield l) #[] #[]] → w.heap.size ≤ W.heap.size → J9 false W := by
    intro W hq hb3 hs
    simp -zeta only [J9, cond_false]
    obtain ⟨c0, c1, c2, c3⟩ := hC _ _ hq
    simp -zeta only [List.getElem?_cons_zero, LdV_some, dec_int, dec_ptr, c0.cell, c1.cell, c2.cell]
    refine cm_pool_Pool_rows (rows_ok c3 (by omega) h1 h2 ⟨h3, by omega⟩ h4) ?_
    rintro _ W1 ⟨xr, b, v0, v1, v2, v3, rfl, rb, lb, y0, y1, y2, y3⟩
    have q1' := up hq xr
    have hb3' := hb3.ext xr
    have sr := xr.size
    have hy4 : ∀ j, j < 4 → ∃ v r, (rowsL lo hi want (cls want) (oth want))[j]? = some r ∧ [v0, v1, v2, v3][j]? = some v ∧ YieldsP W W1 v r := by
      intro j hj
      match j, hj with
      | 0, _ => exact ⟨v0, _, rfl, rfl, y0⟩
      | 1, _ => exact ⟨v1, _, rfl, rfl, y1⟩
      | 2, _ => exact ⟨v2, _, rfl, rfl, y2⟩
      | 3, _ => exact ⟨v3, _, rfl, rfl, y3⟩
    rw [wantsL_eq] at hy
    generalize rowsL lo hi want (cls want) (oth want) = R at hy4 hy ⊢
    generalize headL lo hi want = H at hq q1' hy ⊢
    have b3w : b3 < W1.heap.size := hb3'.lt
    refine LoopP_inv (fun st W' => ∃ j : Nat, j ≤ 4 ∧ st.1.1 = (j : Int) ∧ Q (preL want H R j).length W' ∧ Fr8 W1 W' (· < w.heap.size) ∧ (∀ d ∈ st.2, W1.heap.size ≤ d ∧ d < W'.heap.size ∧ W'.heap[d]? = some (.deferred (some []))) ∧ st.2.Nodup)
      (fun st _ => (4 - st.1.1).toNat) ⟨0, by omega, rfl, by simpa [preL, fromL] using q1', Fr8.refl _ _, by simp, by simp⟩ ?_
    rintro ⟨⟨jj, ⟨⟩⟩, ds⟩ W2 ⟨j, hj, hjj, hq2, f2', hd2, nd2⟩ next hnext
    simp only at hjj hd2 nd2
    subst hjj
    have s2 := f2'.size
    by_cases hj4 : j < 4
    · obtain ⟨v, r, hr, hv, hyv⟩ := hy4 j hj4
      have rb2 := rb.fr f2' (by omega)
      have hlt : ((j : Int) < ((4 : Nat) : Int)) := by omega
      simp only [hlt, decide_true, cond_true]
      refine AtIx_row (b := b) (o := 0) rfl (by omega) (by simp only; omega) ?_
      simp only [Int.toNat_natCast, Nat.zero_add, Nat.mul_one]
      have rv : W2.cell? ⟨b, j, none⟩ = some v := by rw [rb2.cell]; exact hv
      simp only [cond_false, LdV_some, dec_any, rv]
      refine Al_e fun a23 W3 r23 e23 z23 x23 => ?_
      refine St_row r23 rfl (by simp) fun W4 r24 f24 z24 => ?_
      have x24 : Ext W2 W4 := x23.new (f24 (· = a23) rfl) fun x hx e => by omega
      simp only [List.set_cons_zero] at r24
      have q4 := up hq2 x24
      have f4 : Fr8 W1 W4 (· < w.heap.size) := f2'.ext x24
      have r34 : Row W4 b3 _ := hb3'.fr f4 (by omega)
      obtain ⟨_, C, hit, hCk⟩ := hyv
      refine rng_iter hit (fun i W' => Q ((preL want H R j).length + ((r.take i).filter (keepF want j)).length) W' ∧ Fr8 W4 W' (· < w.heap.size)) (fun e W' => e = .ret ∧ D W' ∧ Fr8 W4 W' (· < w.heap.size)) (by simp) ?_ ?_ ?_ ?_ ?_ ?_ ?_ ?_ ?_
      · exact fun W' hx _ => ⟨by simpa using up q4 hx, hx _⟩
      · exact fun i W' hI => hCk W' _ (f4.trans hI.2 fun _ _ e => e) fun x hx hlt => by omega
      · exact fun i W' W'' hI hf => ⟨hQ _ _ _ hI.1 (hf.mono fun x e => by simp only [lAt] at e; simp at e; omega), hI.2.trans hf fun x hx e => by simp [lAt] at e; omega⟩
      · exact fun e W' W'' hI hf => ⟨hI.1, hD _ _ hI.2.1 (hf.mono fun x e => by simp only [lAt] at e; simp at e; omega), hI.2.2.trans hf fun x hx e => by simp [lAt] at e; omega⟩
      · exact fun e W' hI => .inl hI.1
      · rintro i ⟨p', ⟨⟩⟩ W' Kb hx ⟨hqi, hfi⟩ hlt2 hn2 hj2
        rw [yP_get] at hx
        obtain ⟨p'', hp, he⟩ := Option.map_eq_some_iff.1 hx
        have hpe : p'' = p' := congrArg Prod.fst he
        subst hpe
        have lq : lAt none W4 = W4.heap.size + 1 := rfl
        have s24 := x24.size
        rw [lq] at hlt2 hn2 hj2 ⊢
        refine ⟨by trivial, ?_⟩
        have qb : Q _ (busyW W' (W4.heap.size + 1)) := hQ _ _ _ hqi ((Fr8.busyW W' _).mono fun x e => by omega)
        obtain ⟨d0, d1, d2, d3⟩ := hC _ _ qb
        have hfb : Fr8 W4 (busyW W' (W4.heap.size + 1)) (· < w.heap.size) := hfi.trans (Fr8.busyW W' _) fun x hx e => by omega
        have ra := r24.fr hfb (by omega)
        have rb3 := r34.fr hfb (by omega)
        have skip : keepF want j p'' = false → Kb .normal (busyW W' (W4.heap.size + 1)) := fun hk =>
          hn2 _ (fun _ => False) (Fr8.refl _ _) (by simp) ⟨by rw [filt_succ hp, hk]; simpa using qb, hfb⟩
        have go : keepF want j p'' = true → CallV Try.prog [.one .bool] (.func (.yield l) #[] #[]) [.int .i64 p''] (busyW W' (W4.heap.size + 1)) fun r34 w35 =>
            ∃ r36 : Bool, r34 = (Value.bool r36) ∧ (bif (!r36) then Kb .ret w35 else Kb .normal w35) := fun hk =>
          callV_yield (hy ((preL want H R j).length + ((r.take i).filter (keepF want j)).length) (p'', ()) _ _ (by rw [yP_get, preL_all hr, filt_get hp hk]; rfl) qb
            (fun W'' hq'' hf'' => ⟨true, rfl, hn2 W'' (· < w.heap.size) hf'' (fun x h1 h2 h3 => by omega) ⟨by rw [filt_succ hp, hk]; exact hq'', hfb.trans hf'' fun _ _ e => e⟩⟩)
            (fun W'' hd hf'' => ⟨false, rfl, hj2 .ret W'' (· < w.heap.size) hf'' (fun x h1 h2 h3 => by omega) ⟨rfl, hd, hfb.trans hf'' fun _ _ e => e⟩⟩))
        have hn1 : (n != 1) = true := by rcases hn with rfl | rfl <;> rfl
        simp only [cond_true, List.getElem?_cons_zero, LdV_some, dec_int, dec_any, ra.cell, rb3.cell, d1.cell, d2.cell, hn1]
        by_cases hw : p'' = want
        · have hb : (p'' == want) = true := by simp [hw]
          simp only [hb, cond_true, Bool.cond_self]
          exact skip (by simp [keepF, hw])
        · have hb : (p'' == want) = false := by simp [hw]
          simp only [hb, cond_false]
          by_cases hj1 : j = 1
          · have hb2 : ((j : Int) == 1) = true := by simp [hj1]
            simp only [hb2, cond_true]
            by_cases hge : p'' ≥ want
            · simp only [hge, decide_true, cond_true]
              exact skip (by simp [keepF, hj1]; omega)
            · simp only [hge, decide_false, cond_false]
              exact go (by simp [keepF, hw]; omega)
          · have hb2 : ((j : Int) == 1) = false := by simp; omega
            simp only [hb2, cond_false]
            exact go (by simp [keepF, hw, hj1])
      · rintro W' ⟨hqi, hfi⟩ hm
        have hm := hm rfl
        have s24 := x24.size
        have s4 := hfi.size
        rw [wrap_i64 (by omega) (by omega)]
        refine hnext _ _ ⟨j + 1, by omega, by simp, ?_, f4.trans hfi fun _ _ e => e, ?_, ?_⟩ (by simp only; omega)
        · rw [preL_succ hr]
          rwa [List.take_of_length_le (by simp [yP])] at hqi
        · intro d hd
          rcases List.mem_cons.1 hd with rfl | hd
          · exact ⟨by omega, (Array.getElem?_eq_some_iff.1 hm).1, hm⟩
          · obtain ⟨g1, g2, g3⟩ := hd2 d hd
            exact ⟨g1, by omega, by rw [hfi.same d (by omega) (by omega), (x24 fun _ => False).same d (by omega) (by simp)]; exact g3⟩
        · simp only [List.nodup_cons]
          exact ⟨fun hd => by have := hd2 _ hd; omega, nd2⟩
      · rintro W' ⟨_, hd, hfi⟩ hm
        have hm := hm rfl
        have s24 := x24.size
        refine closeP_ok (n := w.heap.size) _ W' ?_ ?_ fun w6 f6 z6 => .inr (hD _ _ hd f6)
        · intro d hd
          rcases List.mem_cons.1 hd with rfl | hd
          · exact ⟨by omega, hm⟩
          · obtain ⟨g1, g2, g3⟩ := hd2 d hd
            exact ⟨by omega, by rw [hfi.same d (by omega) (by omega), (x24 fun _ => False).same d (by omega) (by simp)]; exact g3⟩
        · simp only [List.nodup_cons]
          exact ⟨fun hd => by have := hd2 _ hd; omega, nd2⟩
      · rintro id W' ⟨h, _⟩
        cases h
    · have hj' : j = 4 := by omega
      subst hj'
      have hlt : ¬ (((4 : Nat) : Int) < ((4 : Nat) : Int)) := by omega
      simp only [hlt, decide_false, cond_false]
      refine closeP_ok (n := w.heap.size) ds W2 (fun d hd => ⟨by have := hd2 d hd; omega, (hd2 d hd).2.2⟩) nd2 fun w6 f6 z6 => .inl (hQ _ _ _ hq2 f6)
  obtain ⟨c0, c1, c2, c3⟩ := hC _ _ (up q8 (Ext.drew w8))
  simp only [ex_some, List.getElem?_cons_zero, List.getElem?_cons_succ, LdV_some, dec_int, dec_ptr, add_mk, Nat.zero_add, Nat.add_zero, c0.cell, c2.cell, c3.cell]
  refine cm_pool_span_has (span_has_ok lo hi want _) ?_
  rintro _ w52 ⟨rfl, x52⟩
  have q52 := up (up q8 (Ext.drew w8)) x52
  have r52 := (r8.ext (Ext.drew w8)).ext x52
  have s52 := x52.size
  have s8 := x8.size
  have s3 := x3.size
  have sd := (Ext.drew w8).size
  by_cases hin : lo ≤ want ∧ want ≤ hi
  · have hh : headL lo hi want = [want] := by unfold headL; rw [if_pos hin]
    obtain ⟨c0, c1, c2, c3⟩ := hC _ _ q52
    simp only [hin, decide_true, and_self, cond_true, cond_true, List.getElem?_cons_zero, LdV_some, dec_int, dec_any, r52.cell, c2.cell]
    refine callV_yield (hy 0 (want, ()) w52 _ ?_ q52 ?_ ?_)
    · rw [yP_get, wantsL_eq, hh]; rfl
    · intro W' hq' hf'
      exact ⟨true, rfl, hJ9 W' (by rw [hh]; exact hq') (r52.fr hf' (by omega)) (by have := hf'.size; omega)⟩
    · intro W' hd hf'
      refine ⟨false, rfl, ?_⟩
      show (bif true then _ else _)
      exact .inr hd
  · have hh : headL lo hi want = [] := by unfold headL; rw [if_neg hin]
    simp only [hin, decide_false, cond_false]
    exact hJ9 w52 (by rw [hh]; exact q52) r52 (by omega)

end Go.Proofs

/- The pool's calls. -/
namespace Go.Proofs
open Gp
open Gp.Pool (stepL stepL_get alike cls oth wantsL take)
set_option maxRecDepth 100000

theorem wants_ok {w : World} {p g : Nat} {lo hi want n : Int} {s : SliceV} (h : Row w p (poolV lo hi s g)) (hn : n = 6 ∨ n = 17) (h1 : IntP lo) (h2 : IntP hi) (h3 : 0 ≤ want) (h4 : want ≤ 65535) :
    c_pool_Pool_Wants (some ⟨p, 0, none⟩) n want w fun v w' => Ext w w' ∧ ∃ C, IterFn2 Try.prog [.one (.int .i64)] v C (yP (wantsL lo hi want (cls want) (oth want))) ∧
      ∀ W S, Fr8 w' W S → (∀ b, w.heap.size ≤ b → b < w'.heap.size → ¬ S b) → ¬ S p → C W := by
  apply ok_pool_Pool_Wants
  unfold s_pool_Pool_Wants
  refine ⟨rfl, Al_e fun a w1 r1 e1 z1 f1 => ⟨rfl, Al_e fun b w2 r2 e2 z2 f2 => ⟨rfl, Al_e fun t w3 r3 e3 z3 f3 => ?_⟩⟩⟩
  have r1 := (r1.ext f2).ext f3
  have r2 := r2.ext f3
  have hp := ((h.ext f1).ext f2).ext f3
  exact ⟨(f1.trans f2).trans f3, _, wants_iter hn h1 h2 h3 h4, fun W S hf hs hps => ⟨r1.fr hf (hs _ (by omega) (by omega)), r2.fr hf (hs _ (by omega) (by omega)), r3.fr hf (hs _ (by omega) (by omega)), hp.fr hf hps⟩⟩

abbrev O3 := Int × Int × Int
def encO (x : O3) : Value := .agg ⟨[.int .i64 x.1, .int .i64 x.2.1, .int .i64 x.2.2]⟩

theorem ibeq (a b : Int) : (a == b) = decide (a = b) := rfl

theorem eqO (a b : O3) : eqT Try.prog 16 32 (encO a) (encO b) = some (decide (a = b)) := by
  have h : eqT Try.prog 16 32 (encO a) (encO b) = some ((a.1 == b.1) && ((a.2.1 == b.2.1) && ((a.2.2 == b.2.2) && true))) := by kernel_rfl
  rw [h]
  obtain ⟨a1, a2, a3⟩ := a
  obtain ⟨b1, b2, b3⟩ := b
  simp [ibeq, Bool.decide_and]

theorem keyO_ok (a : O3) : keyOK Try.prog 32 (encO a) = true := by
  unfold keyOK
  rw [eqO]
  rfl

theorem eqP (a b : Int) : eqT Try.prog 16 3 (.int .i64 a) (.int .i64 b) = some (decide (a = b)) := by
  have h : eqT Try.prog 16 3 (.int .i64 a) (.int .i64 b) = some (a == b) := by kernel_rfl
  rw [h]; rfl
theorem keyP_ok (a : Int) : keyOK Try.prog 3 (.int .i64 a) = true := by
  unfold keyOK
  rw [eqP]
  rfl

theorem right_ok (k : Int) (w : World) : c_four_Right k w fun r w' => r = decide (0 ≤ k ∧ k < 4294967296) ∧ w' = w := by
  apply ok_four_Right
  unfold s_four_Right
  by_cases h : 0 ≤ k
  · simp [h]
  · simp [h]

end Go.Proofs

/- Take, of a pool with one address. -/
namespace Go.Proofs
open Gp
open Gp.Pool (stepL stepL_get alike cls oth wantsL)
set_option maxRecDepth 100000

/-- The first port that is not given. -/
def freeP (n ad : Int) (G : List O3) (xs : List Int) : Option Int := xs.find? fun q => decide ((n, ad, q) ∉ G)

theorem busy_fr {w w' : World} {S : Nat → Prop} (h : Fr8 w w' S) (l : Nat) : Fr8 (busyW w l) (busyW w' l) S := by
  refine ⟨by simpa [busyW] using h.size, fun b hb hn => ?_, h.io⟩
  have := h.same b (by simpa [busyW] using hb) hn
  simp only [busyW, Array.getElem?_modify, this]

theorem freeP_at {n ad : Int} {G : List O3} {xs : List Int} {i : Nat} {q : Int} (hq : ∀ x ∈ xs.take i, (n, ad, x) ∈ G) (hx : xs[i]? = some q) (hn : (n, ad, q) ∉ G) : freeP n ad G xs = some q := by
  obtain ⟨hlt, rfl⟩ := List.getElem?_eq_some_iff.1 hx
  unfold freeP
  rw [List.find?_eq_some_iff_append]
  refine ⟨by simpa using hn, xs.take i, xs.drop (i + 1), by rw [← List.drop_eq_getElem_cons hlt, List.take_append_drop], fun x hx => ?_⟩
  simpa using hq x hx

theorem take_ok {w : World} {p a g c : Nat} {pad : List Value} {lo hi ad want n : Int} {G : List O3} (hp : Row w p (poolV lo hi ⟨some ⟨a, 0, none⟩, 1, c⟩ g)) (ha : Row w a (.int .i64 ad :: pad)) (hg : MapB encO w g G) (hpg : p ≠ g) (hag : a ≠ g)
    (hn : n = 6 ∨ n = 17) (h1 : IntP lo) (h2 : IntP hi) (h3 : 0 ≤ want) (h4 : want ≤ 65535) :
    c_pool_Pool_Take (some ⟨p, 0, none⟩) n want 0 w fun x y z e w' => Fr8 w w' (· = g) ∧
      ((∃ q, freeP n ad G (wantsL lo hi want (cls want) (oth want)) = some q ∧ x = n ∧ y = ad ∧ z = q ∧ e = 0 ∧ MapB encO w' g (G ++ [(n, ad, q)])) ∨
        (freeP n ad G (wantsL lo hi want (cls want) (oth want)) = none ∧ e = 12 ∧ MapB encO w' g G)) := by
  apply ok_pool_Pool_Take
  unfold s_pool_Pool_Take
  refine ⟨rfl, Al_e fun b6 w1 r6 e6 z6 f1 => Al_e fun b8 w2 r8 e8 z8 f2 => Al_e fun b10 w3 r10 e10 z10 f3 => ?_⟩
  have x3 := (f1.trans f2).trans f3
  have r6 := (r6.ext f2).ext f3
  have r8 := r8.ext f3
  have hp3 := hp.ext x3
  have ha3 := ha.ext x3
  have hg3 := hg.ext x3
  have lg := hg.lt
  have lp := hp.lt
  have la := ha.lt
  simp only [Ld_eq, List.getElem?_cons_zero, LdV_some, dec_ptr, add_mk, Nat.zero_add, Nat.add_zero, r6.cell]
  refine cm_pool_Pool_ready (ready_ok hp3) ?_
  rintro _ w' ⟨rfl, hw⟩
  subst hw
  simp only [Bool.not_true, cond_false]
  refine cm_pool_proto (proto_ok n _) ?_
  rintro _ w' ⟨rfl, hw⟩
  subst hw
  have hn' : (n = 1 ∨ n = 6 ∨ n = 17) := .inr hn
  simp only [hn', decide_true, Bool.not_true, cond_false, ex_some, List.getElem?_cons_zero, List.getElem?_cons_succ, LdV_some, dec_slice, dec_ptr, add_mk, Nat.zero_add, r6.cell, hp3.cell]
  refine ⟨by omega, by omega, ?_⟩
  refine LoopP_inv (fun st W => (st = ((0, ()), []) ∧ W = w') ∨ (st.1.1 = 1 ∧ Fr8 w' W (fun _ => False) ∧ freeP n ad G (wantsL lo hi want (cls want) (oth want)) = none ∧ (∀ d ∈ st.2, w'.heap.size ≤ d ∧ W.heap[d]? = some (.deferred (some []))) ∧ st.2.Nodup))
    (fun st _ => (1 - st.1.1).toNat) (.inl ⟨rfl, rfl⟩) ?_
  rintro st W (⟨rfl, rfl⟩ | ⟨e1, f4, hnone, hd, nd⟩) next hnext
  · have hlt : ((0 : Int) < ((1 : Nat) : Int)) := by omega
    have x3d := x3.trans (Ext.drew W)
    simp only [hlt, decide_true, cond_true, cond_true, ex_some, List.getElem?_cons_zero, List.getElem?_cons_succ, LdV_some, dec_slice, dec_ptr, AtIx_some, add_mk, Nat.zero_add, r6.drew.cell, hp3.drew.cell]
    refine ⟨by omega, ?_⟩
    have hi0 : (Int.tmod (IntKind.i64.wrap ((Int.tmod (IntKind.i64.wrap ((Int.tmod 0 ((1 : Nat) : Int)) + ((1 : Nat) : Int))) ((1 : Nat) : Int)) + 0)) ((1 : Nat) : Int)) = 0 := by kernel_rfl
    rw [hi0]
    refine ⟨by omega, by omega, ?_⟩
    have hd := Ext.drew W
    have ha3d := ha3.ext hd
    have hp3d := hp3.ext hd
    have r6d := r6.ext hd
    simp only [Int.toNat_zero, Nat.zero_mul, List.getElem?_cons_zero, LdV_some, dec_int, ha3d.cell]
    refine Al_e fun b40 w4 r40 e40 z40 x4 => ?_
    have ha4 := ha3d.ext x4
    have hp4 := hp3d.ext x4
    have r64 := r6d.ext x4
    have sd := hd.size
    have l6 := r6.lt
    have l8 := r8.lt
    have l10 := r10.lt
    simp only [ha4.cell, hp4.cell, r64.cell, true_and, List.getElem?_cons_zero, List.getElem?_cons_succ, add_mk, Nat.zero_add, Nat.add_zero]
    refine StN_full r40 rfl rfl fun w5 r40 f5 z5 => ?_
    have x5 : Ext W w5 := (hd.trans x4).new (f5 (· = b40) rfl) fun x hx e => by omega
    have r65 := r6.ext x5
    have hp5 := hp3.ext x5
    simp only [List.getElem?_cons_zero, LdV_some, dec_ptr, r65.cell]
    refine cm_pool_Pool_Wants (wants_ok hp5 hn h1 h2 h3 h4) ?_
    rintro v w6 ⟨x6, C, hit, hC⟩
    have r40 := r40.ext x6
    have s5 := x5.size
    have s6 := x6.size
    have s1 := f1.size
    have s2 := f2.size
    have x56 := x5.trans x6
    have l40 : W.heap.size ≤ b40 := by omega
    have l40' : b40 < w5.heap.size := by omega
    generalize hxs : wantsL lo hi want (cls want) (oth want) = xs at hit hnext ⊢
    refine rng_iter2 hit (fun i W' => ∃ z : Int, Row W' b40 [.int .i64 n, .int .i64 ad, .int .i64 z] ∧ Fr8 w6 W' (· = b40) ∧ ∀ q ∈ xs.take i, (n, ad, q) ∈ G)
      (fun e W' => e = .ret ∧ ∃ q, freeP n ad G xs = some q ∧ Row W' b8 [.int .i64 n, .int .i64 ad, .int .i64 q] ∧ Row W' b10 [.int .i64 0] ∧ MapB encO W' g (G ++ [(n, ad, q)]) ∧ Fr8 w6 W' (fun b => b = b40 ∨ b = g ∨ b = b8 ∨ b = b10)) (by simp) ?_ ?_ ?_ ?_ ?_ ?_ ?_ ?_ ?_
    · exact fun W' hx _ => ⟨0, r40.ext hx, hx _, by simp⟩
    · rintro i W' ⟨z, _, hf, _⟩
      exact hC W' _ hf (fun b h1 h2 e => by omega) (by omega)
    · rintro i W' W'' ⟨z, hr, hf, hq⟩ hf'
      have lq : lAt none w6 = w6.heap.size + 1 := rfl
      rw [lq] at hf'
      exact ⟨z, hr.fr hf' (by omega), hf.trans hf' fun x hx e => by omega, hq⟩
    · rintro e W' W'' ⟨he, q, h1, h2, h3, h4, h5⟩ hf'
      have lq : lAt none w6 = w6.heap.size + 1 := rfl
      rw [lq] at hf'
      exact ⟨he, q, h1, h2.fr hf' (by omega), h3.fr hf' (by omega), h4.fr hf' (by omega), h5.trans hf' fun x hx e => by omega⟩
    · exact fun e W' hJ => .inl hJ.1
    · rintro i ⟨q, ⟨⟩⟩ W' Kb hx ⟨z, hr, hf, hq⟩ hlt2 hn2 hj2
      rw [yP_get] at hx
      obtain ⟨q', hq', he⟩ := Option.map_eq_some_iff.1 hx
      have hqe : q' = q := congrArg Prod.fst he
      subst hqe
      have lq : lAt none w6 = w6.heap.size + 1 := rfl
      rw [lq] at hlt2 hn2 hj2 ⊢
      simp only []
      refine St_row hr rfl (by simp) fun W2 r2 f2' z2 => ?_
      refine ⟨(f2' (· = b40) rfl).same _ hlt2 (by omega), ?_⟩
      simp only [List.set_cons_succ, List.set_cons_zero] at r2
      have fb : Fr8 w6 (busyW W2 (w6.heap.size + 1)) (· = b40) := (hf.trans (f2' (· = b40) rfl) fun _ _ e => e).trans (Fr8.busyW W2 _) fun x hx e => by omega
      have fc : Fr8 (busyW W' (w6.heap.size + 1)) (busyW W2 (w6.heap.size + 1)) (· = b40) := busy_fr (f2' (· = b40) rfl) _
      have rb40 : Row (busyW W2 (w6.heap.size + 1)) b40 _ := r2.fr (Fr8.busyW W2 _) (by omega)
      generalize busyW W2 (w6.heap.size + 1) = W3 at fb fc rb40 ⊢
      have k6 := (r6.ext x56).fr fb (by omega)
      have k8 := (r8.ext x56).fr fb (by omega)
      have k10 := (r10.ext x56).fr fb (by omega)
      have kp := (hp3.ext x56).fr fb (by omega)
      have kg := (hg3.ext x56).fr fb (by omega)
      have fd : Fr8 W3 W3.drew (· = b40) := Fr8.drew _ _
      simp only [ex_some, List.getElem?_cons_zero, List.getElem?_cons_succ, LdV_some, dec_int, dec_ptr, dec_map, add_mk, Nat.zero_add, k6.drew.cell, kp.drew.cell, rb40.drew.cell]
      refine MapGet_B (kg.ext (Ext.drew W3)) eqO (n, ad, q') (keyO_ok _) ?_
      by_cases hm : (n, ad, q') ∈ G
      · simp only [hm, decide_true, cond_true]
        refine hn2 _ (· = b40) (fc.trans fd fun _ _ e => e) (fun b e => by omega) ⟨q', rb40.drew, fb.trans fd fun _ _ e => e, fun x hx' => ?_⟩
        rw [List.take_add_one, hq'] at hx'
        rcases List.mem_append.1 hx' with hx' | hx'
        · exact hq x hx'
        · have : x = q' := by simpa using hx'
          rw [this]; exact hm
      · simp only [hm, decide_false, cond_false]
        simp only [ex_some, List.getElem?_cons_zero, List.getElem?_cons_succ, LdV_some, dec_int, dec_ptr, dec_map, add_mk, Nat.zero_add, k6.drew.drew.cell, kp.drew.drew.cell, rb40.drew.drew.cell]
        refine MapSet_B ((kg.ext (Ext.drew W3)).ext (Ext.drew _)) eqO (n, ad, q') (keyO_ok _) hm fun W4 m4 f4 z4 => ?_
        have q40 := rb40.drew.drew.fr f4 (by omega)
        simp only [List.getElem?_cons_zero, List.getElem?_cons_succ, LdV_some, dec_int, q40.cell]
        refine StN_full (k8.drew.drew.fr f4 (by omega)) rfl rfl fun W5 q8 g8 z8' => ?_
        have j10 := (k10.drew.drew.fr f4 (by omega)).fr (g8 (· = b8) rfl) (by omega)
        refine St_row j10 rfl (by simp) fun W6 q10 g10 z10' => ?_
        simp only [List.set_cons_zero] at q10
        have ft : Fr8 W3 W6 (fun b => b = b40 ∨ b = g ∨ b = b8 ∨ b = b10) :=
          ((((Fr8.drew W3 _).trans (Fr8.drew _ _) fun _ _ e => e).trans (f4.mono (S' := fun b => b = b40 ∨ b = g ∨ b = b8 ∨ b = b10) fun b e => by omega) fun _ _ e => e).trans ((g8 (· = b8) rfl).mono (S' := fun b => b = b40 ∨ b = g ∨ b = b8 ∨ b = b10) fun b e => by omega) fun _ _ e => e).trans
            ((g10 (· = b10) rfl).mono (S' := fun b => b = b40 ∨ b = g ∨ b = b8 ∨ b = b10) fun b e => by omega) fun _ _ e => e
        refine hj2 .ret W6 (fun b => b = b40 ∨ b = g ∨ b = b8 ∨ b = b10) ((fc.mono fun b e => .inl e).trans ft fun _ _ e => e) (fun b e => by omega) ⟨rfl, q', freeP_at hq hq' hm, q8.fr (g10 (· = b10) rfl) (by omega), q10, ?_, (fb.mono fun b e => .inl e).trans ft fun _ _ e => e⟩
        exact (m4.fr (g8 (· = b8) rfl) (by omega)).fr (g10 (· = b10) rfl) (by omega)
    · rintro W' ⟨z, hr, hf, hq⟩ hm
      have hm := hm rfl
      refine hnext _ _ (.inr ⟨by rw [wrap_i64 (by omega) (by omega)]; rfl, ?_, ?_, ?_, by simp⟩) ?_
      · exact (x56.new hf fun b hb e => by omega) _
      · unfold freeP
        rw [List.find?_eq_none]
        intro q hq'
        have := hq q (by rw [List.take_of_length_le (by simp [yP])]; exact hq')
        simpa using this
      · intro d hd
        simp only [List.mem_singleton] at hd
        subst hd
        exact ⟨by omega, hm⟩
      · simp only; rw [wrap_i64 (by omega) (by omega)]; omega
    · rintro W' ⟨_, q, h1, h2, h3, h4, h5⟩ hm
      have hm := hm rfl
      refine closeP_ok (n := w6.heap.size) _ W' (fun d hd => ?_) (by simp) fun w7 f7 z7 => ?_
      · simp only [List.mem_singleton] at hd
        subst hd
        exact ⟨Nat.le_refl _, hm⟩
      · have g8 := h2.fr f7 (by omega)
        have g10 := h3.fr f7 (by omega)
        simp only [List.getElem?_cons_zero, List.getElem?_cons_succ, LdV_some, dec_int, g8.cell, g10.cell]
        refine ⟨?_, .inl ⟨q, h1, by trivial, by trivial, by trivial, by trivial, h4.fr f7 (by omega)⟩⟩
        have ha : Fr8 w w7 (fun b => b = b40 ∨ b = g ∨ b = b8 ∨ b = b10 ∨ w6.heap.size ≤ b) := ((x3.trans x56).fr (h5.mono (S' := fun b => b = b40 ∨ b = g ∨ b = b8 ∨ b = b10 ∨ w6.heap.size ≤ b) fun b e => by omega)).trans (f7.mono (S' := fun b => b = b40 ∨ b = g ∨ b = b8 ∨ b = b10 ∨ w6.heap.size ≤ b) fun b e => by omega) fun _ _ e => e
        exact ⟨ha.size, fun b hb hne => ha.same b hb (by omega), ha.io⟩
    · rintro id W' ⟨h, _⟩
      cases h
  · have hlt : ¬ (st.1.1 < ((1 : Nat) : Int)) := by omega
    have q8 := r8.fr f4 (by simp)
    have q10 := r10.fr f4 (by simp)
    simp only [hlt, decide_false, cond_false]
    refine StN_full q8 rfl rfl fun w5 r5 f5 z5 => ?_
    refine St_row (q10.fr (f5 (· = b8) rfl) (by omega)) rfl (by simp) fun w6 r6' f6 z6' => ?_
    have r5 := r5.fr (f6 (· = b10) rfl) (by omega)
    simp only [List.set_cons_zero] at r6'
    have fz : Fr8 w' w6 (fun b => b = b8 ∨ b = b10) := ((f4.mono (S' := fun b => b = b8 ∨ b = b10) fun _ e => e.elim).trans ((f5 (· = b8) rfl).mono (S' := fun b => b = b8 ∨ b = b10) fun b e => .inl e) fun _ _ e => e).trans ((f6 (· = b10) rfl).mono (S' := fun b => b = b8 ∨ b = b10) fun b e => .inr e) fun _ _ e => e
    have lb8 := r8.lt
    have lb10 := r10.lt
    refine closeP_ok (n := w'.heap.size) st.2 w6 (fun d hdd => ⟨(hd d hdd).1, ?_⟩) nd fun w7 f7 z7 => ?_
    · have hdl : d < W.heap.size := (Array.getElem?_eq_some_iff.1 (hd d hdd).2).1
      have := (hd d hdd).1
      rw [(f6 (· = b10) rfl).same d (by omega) (by omega), (f5 (· = b8) rfl).same d hdl (by omega)]
      exact (hd d hdd).2
    · have g5 := r5.fr f7 (by omega)
      have g6 := r6'.fr f7 (by omega)
      simp only [List.getElem?_cons_zero, List.getElem?_cons_succ, LdV_some, dec_int, g5.cell, g6.cell]
      have hgW : Fr8 w' w7 (fun b => b = b8 ∨ b = b10) := fz.trans f7 fun x hx e => by omega
      have s1 := f1.size
      have s2 := f2.size
      exact ⟨(x3.new hgW fun b hb e => by omega) _, .inr ⟨hnone, by trivial, hg3.fr hgW (by omega)⟩⟩

end Go.Proofs

/- A new pool of one address. -/
namespace Go.Proofs
open Gp
open Gp.Pool (stepL stepL_get alike cls oth wantsL)
set_option maxRecDepth 100000

theorem block_ok {x y a : Int} (hy : 0 ≤ y) (hy2 : y ≤ 32) (w : World) : c_four_block_has x y a w fun r w' => r = (decide (0 ≤ a ∧ a < 4294967296) && (shrI .i64 a (32 - y) == shrI .i64 x (32 - y))) ∧ Ext w w' := by
  apply ok_four_block_has
  unfold s_four_block_has
  refine Al_e fun t w1 r1 e1 z1 f1 => ?_
  simp only [Ld_eq, List.getElem?_cons_zero, List.getElem?_cons_succ, LdV_some, dec_int, add_mk, Nat.zero_add, r1.cell]
  refine cm_four_Right (right_ok a _) ?_
  rintro _ w' ⟨rfl, hw⟩
  subst hw
  have f2 := f1.trans (Ext.drew w1)
  by_cases h : 0 ≤ a ∧ a < 4294967296
  · rw [wrap_i64 (by omega) (by omega)]
    simp only [h, decide_true, cond_true, cond_true, List.getElem?_cons_zero, LdV_some, dec_int, r1.drew.cell, and_self, Bool.true_and]
    exact ⟨by omega, by omega, by trivial, f2⟩
  · simp only [h, decide_false, cond_false, Bool.false_and]
    exact ⟨by trivial, f2⟩

theorem contains_nil {a : Option Addr} {c : Nat} (x : Int) (w : World) : c_slices_Contains_int_int ⟨a, 0, c⟩ x w fun r w' => r = false ∧ w' = w := by
  apply ok_slices_Contains_int_int
  unfold s_slices_Contains_int_int
  refine cm_slices_Index_int_int (K := fun r w' => r = -1 ∧ w' = w) ?_ ?_
  · apply ok_slices_Index_int_int
    unfold s_slices_Index_int_int
    refine LoopP_inv (fun st W => st.1 = 0 ∧ W = w) (fun _ _ => 0) ⟨rfl, rfl⟩ ?_
    rintro ⟨i, ⟨⟩⟩ W ⟨rfl, rfl⟩ next _
    simp
  · rintro _ w' ⟨rfl, rfl⟩
    exact ⟨rfl, rfl⟩

/-- An address that lies in none of the blocks that are no host's. -/
def hostA (a : Int) : Prop := 0 ≤ a ∧ a < 4294967296 ∧ (shrI .i64 a 24 == shrI .i64 0 24) = false ∧ (shrI .i64 a 24 == shrI .i64 2130706432 24) = false ∧ (shrI .i64 a 29 == shrI .i64 3758096384 29) = false

theorem host_ok {a : Int} (h : hostA a) (w : World) : c_four_Host a w fun r w' => r = true ∧ Ext w w' := by
  obtain ⟨h1, h2, h3, h4, h5⟩ := h
  apply ok_four_Host
  unfold s_four_Host
  refine cm_four_Right (right_ok a _) ?_
  rintro _ w' ⟨rfl, hw⟩
  subst hw
  have hr : (0 ≤ a ∧ a < 4294967296) := ⟨h1, h2⟩
  simp only [hr, and_self, decide_true, Bool.not_true, cond_false]
  refine Al_e fun t w1 r1 e1 z1 f1 => ?_
  refine cm_four_one (K := fun r w2 => r = false ∧ Ext w1 w2) ?_ ?_
  · apply ok_four_one
    unfold s_four_one
    refine LoopP_inv (fun st W => ∃ j : Nat, j ≤ 3 ∧ st.1 = (j : Int) ∧ Ext w1 W) (fun st _ => (3 - st.1).toNat) ⟨0, by omega, rfl, Ext.refl _⟩ ?_
    rintro ⟨i, ⟨⟩⟩ W ⟨j, hj, hi, hx⟩ next hnext
    simp only at hi
    subst hi
    have r := r1.ext hx
    by_cases hlt : j < 3
    · have hl : ((j : Int) < ((3 : Nat) : Int)) := by omega
      have hxy : ∃ x y : Int, 0 ≤ y ∧ y ≤ 32 ∧ (shrI .i64 a (32 - y) == shrI .i64 x (32 - y)) = false ∧ W.cell? ⟨t, j * 2, none⟩ = some (.int .i64 x) ∧ W.cell? ⟨t, j * 2 + 1, none⟩ = some (.int .i64 y) := by
        match j, hlt with
        | 0, _ => exact ⟨0, 8, by omega, by omega, h3, r.cell 0, r.cell 1⟩
        | 1, _ => exact ⟨2130706432, 8, by omega, by omega, h4, r.cell 2, r.cell 3⟩
        | 2, _ => exact ⟨3758096384, 3, by omega, by omega, h5, r.cell 4, r.cell 5⟩
      obtain ⟨x, y, hy, hy2, hs, c0, c1⟩ := hxy
      simp only [hl, decide_true, cond_true, cond_true, Ld_eq, LdV_some, dec_int, AtIx_some, add_mk, Nat.zero_add, Nat.add_zero, Int.toNat_natCast, c0, c1]
      refine ⟨by first | trivial | omega, by first | trivial | omega, ?_⟩
      refine Al_f rfl rfl fun b w3 r3 e3 z3 x3 => ?_
      simp only [List.getElem?_cons_zero, List.getElem?_cons_succ, LdV_some, dec_int, add_mk, Nat.zero_add, Nat.add_zero, r3.cell]
      refine cm_four_block_has (block_ok hy hy2 _) ?_
      rintro _ w4 ⟨rfl, x4⟩
      simp only [hs, Bool.and_false, cond_false]
      rw [wrap_i64 (by omega) (by omega)]
      exact hnext _ _ ⟨j + 1, by omega, by simp, (hx.trans x3).trans x4⟩ (by simp only; omega)
    · have hl : ¬ ((j : Int) < ((3 : Nat) : Int)) := by omega
      simp only [hl, decide_false, cond_false]
      exact ⟨by trivial, hx⟩
  · rintro _ w2 ⟨rfl, f2⟩
    exact ⟨rfl, f1.trans f2⟩

end Go.Proofs

/- Clone of one number; a new pool. -/
namespace Go.Proofs
open Gp
open Gp.Pool (stepL stepL_get alike cls oth wantsL)
set_option maxRecDepth 100000

theorem clone1_ok {w : World} {b : Nat} {x : Int} (h : Row w b [.int .i64 x]) : c_slices_Clone_int_int ⟨some ⟨b, 0, none⟩, 1, 1⟩ w fun r w' => Ext w w' ∧ ∃ a c pad, r = ⟨some ⟨a, 0, none⟩, 1, c⟩ ∧ Row w' a (.int .i64 x :: pad) ∧ w.heap.size ≤ a := by
  apply ok_slices_Clone_int_int
  unfold s_slices_Clone_int_int
  simp only [Option.isNone_some, cond_false]
  refine Al_e fun a w1 r1 e1 z1 f1 => ?_
  have hb := h.ext f1
  refine AppSl_bufN (α := Int) (n := 1) (f := fun y => [.int .i64 y]) (xs := []) (ys := [x]) (fun _ => rfl) ⟨rfl, .inr ⟨a, [], rfl, rfl, r1⟩⟩ ⟨rfl, ?_, by simp⟩ rfl (by omega) (fun _ v hv => by simp at hv; subst hv; rfl) (by simp) (by simp) fun s' w2 hs' f2 hat => ?_
  · refine ⟨rfl, fun j hj => ?_⟩
    have : j = 0 := by simpa using hj
    subst this
    exact hb.cell 0
  · obtain ⟨l', m⟩ := hs'
    rcases m with ⟨_, m, _⟩ | ⟨d, pad, hd, _, hr⟩
    · simp at m
    · obtain ⟨q, ql, qc⟩ := s'
      simp only at hd l'
      subst hd
      simp at l'
      subst l'
      have hs := f1.size
      have hat := hat d ⟨0, rfl⟩
      refine ⟨f1.new f2 fun b hb' ⟨o, e⟩ => ?_, d, qc, pad, rfl, by simpa using hr, ?_⟩
      · simp at e; omega
      · rcases hat with ⟨o, e⟩ | e
        · simp at e; omega
        · omega

theorem Al_map {w : World} {K : Addr → World → Prop} (h : ∀ w1, (∀ (α : Type) (enc : α → Value), MapB enc w1 w.heap.size []) → w1.heap.size = w.heap.size + 1 → Ext w w1 → K ⟨w.heap.size, 0, none⟩ w1) : Al w (.map #[] 0) K :=
  h _ (fun _ enc => MapB.new w enc) (by simp) (fun S => Fr8.alloc w _ S)

theorem new_ok {w : World} {b : Nat} {ad lo hi : Int} (hb : Row w b [.int .i64 ad]) (hh : hostA ad) (h1 : 1 ≤ lo) (h2 : lo ≤ hi) (h3 : hi < 65536) :
    c_pool_New ⟨some ⟨b, 0, none⟩, 1, 1⟩ lo hi w fun r e w' => Ext w w' ∧ e = 0 ∧ ∃ p a g c pad, r = some ⟨p, 0, none⟩ ∧ Row w' p (poolV lo hi ⟨some ⟨a, 0, none⟩, 1, c⟩ g) ∧ Row w' a (.int .i64 ad :: pad) ∧ MapB encO w' g [] ∧
      p ≠ g ∧ a ≠ g ∧ w.heap.size ≤ p ∧ w.heap.size ≤ a ∧ w.heap.size ≤ g := by
  apply ok_pool_New
  unfold s_pool_New
  have t1 : ¬ (((1 : Nat) : Int) < 1) := by omega
  have t2 : ¬ (((1 : Nat) : Int) > 16) := by omega
  have t3 : ¬ (lo < 1) := by omega
  have t4 : ¬ (hi < lo) := by omega
  have t5 : ¬ (hi ≥ 65536) := by omega
  simp only [t1, t2, t3, t4, t5, decide_false, cond_false]
  refine LoopP_inv (fun st W => Ext w W ∧ (st.1 = 0 ∨ st.1 = 1)) (fun st _ => (1 - st.1).toNat) ⟨Ext.refl w, .inl rfl⟩ ?_
  rintro ⟨i, ⟨⟩⟩ W ⟨hx, hi'⟩ next hnext
  simp only at hi'
  rcases hi' with rfl | rfl
  · have hl : ((0 : Int) < ((1 : Nat) : Int)) := by omega
    have rb := hb.ext hx
    simp only [hl, decide_true, cond_true, cond_true, Ld_eq, List.getElem?_cons_zero, LdV_some, dec_int, AtIx_some, add_mk, Nat.add_zero, Int.toNat_zero, Nat.zero_mul, rb.cell]
    refine ⟨by first | trivial | omega, by first | trivial | omega, ?_⟩
    refine cm_four_Host (host_ok hh _) ?_
    rintro _ w2 ⟨rfl, x2⟩
    simp only [Bool.not_true, cond_false]
    refine ⟨by omega, by omega, by omega, ?_⟩
    refine cm_slices_Contains_int_int (contains_nil ad w2) ?_
    rintro _ w' ⟨rfl, hw⟩
    subst hw
    simp only [cond_false]
    exact hnext _ _ ⟨hx.trans x2, .inr (by rw [wrap_i64 (by omega) (by omega)]; rfl)⟩ (by simp only; rw [wrap_i64 (by omega) (by omega)]; omega)
  · have hl : ¬ ((1 : Int) < ((1 : Nat) : Int)) := by omega
    have rb := hb.ext hx
    simp only [hl, decide_false, cond_false]
    refine cm_slices_Clone_int_int (clone1_ok rb) ?_
    rintro _ w2 ⟨x2, a, c, pad, rfl, ra, la⟩
    refine Al_map fun w3 hm z3 x3 => ?_
    refine Al_e fun p w4 rp ep zp x4 => ?_
    have l1 := ra.lt
    have l2 := hx.size
    have l3 := x2.size
    exact ⟨((hx.trans x2).trans x3).trans x4, by trivial, p, a, w2.heap.size, c, pad, rfl, rp, (ra.ext x3).ext x4, (hm _ _).ext x4, by omega, by omega, by omega, by omega, by omega⟩

end Go.Proofs
