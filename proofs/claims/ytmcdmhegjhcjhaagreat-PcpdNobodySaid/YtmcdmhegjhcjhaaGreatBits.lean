import Derived.Test.YtmcdmhegjhcjhaaGreatBytes
/- Bits of numbers. -/
namespace Gp
open Go

theorem bits64 : IntKind.bits .i64 = 64 := rfl

theorem and_i64 {a b : Nat} (ha : a < 2 ^ 63) (hb : b < 2 ^ 63) : andI .i64 (a : Int) (b : Int) = ((a &&& b : Nat) : Int) := by
  unfold andI
  have h1 : (BitVec.ofInt (IntKind.bits .i64) (a : Int)).toNat = a := by rw [bits64, BitVec.toNat_ofInt]; omega
  have h2 : (BitVec.ofInt (IntKind.bits .i64) (b : Int)).toNat = b := by rw [bits64, BitVec.toNat_ofInt]; omega
  rw [BitVec.toNat_and, h1, h2]
  have : a &&& b ≤ a := Nat.and_le_left
  rw [wrap_i64 (by omega) (by omega)]

theorem or_i64 {a b : Nat} (ha : a < 2 ^ 63) (hb : b < 2 ^ 63) : orI .i64 (a : Int) (b : Int) = ((a ||| b : Nat) : Int) := by
  unfold orI
  have h1 : (BitVec.ofInt (IntKind.bits .i64) (a : Int)).toNat = a := by rw [bits64, BitVec.toNat_ofInt]; omega
  have h2 : (BitVec.ofInt (IntKind.bits .i64) (b : Int)).toNat = b := by rw [bits64, BitVec.toNat_ofInt]; omega
  rw [BitVec.toNat_or, h1, h2]
  have : a ||| b < 2 ^ 63 := Nat.or_lt_two_pow ha hb
  rw [wrap_i64 (by omega) (by omega)]

theorem and_u8 {a b : Nat} (ha : a < 256) (hb : b < 256) : andI .u8 (a : Int) (b : Int) = ((a &&& b : Nat) : Int) := by
  unfold andI
  have e : IntKind.bits .u8 = 8 := rfl
  have h1 : (BitVec.ofInt (IntKind.bits .u8) (a : Int)).toNat = a := by rw [e, BitVec.toNat_ofInt]; omega
  have h2 : (BitVec.ofInt (IntKind.bits .u8) (b : Int)).toNat = b := by rw [e, BitVec.toNat_ofInt]; omega
  rw [BitVec.toNat_and, h1, h2]
  have : a &&& b ≤ a := Nat.and_le_left
  rw [IntKind.wrap_u8]; omega

theorem shr_i64 {a k : Nat} (hk : k ≤ 64) : shrI .i64 (a : Int) (k : Int) = ((a / 2 ^ k : Nat) : Int) := by
  unfold shrI
  have e : (2 : Int) ^ (min (k : Int).toNat (IntKind.bits .i64)) = ((2 ^ k : Nat) : Int) := by
    rw [bits64, Int.toNat_natCast, Nat.min_eq_left hk]; simp
  rw [e, Int.fdiv_eq_ediv_of_nonneg _ (Int.natCast_nonneg _), Int.natCast_ediv]

theorem shr_u8 {a k : Nat} (hk : k ≤ 8) : shrI .u8 (a : Int) (k : Int) = ((a / 2 ^ k : Nat) : Int) := by
  unfold shrI
  have e : (2 : Int) ^ (min (k : Int).toNat (IntKind.bits .u8)) = ((2 ^ k : Nat) : Int) := by
    rw [show IntKind.bits .u8 = 8 from rfl, Int.toNat_natCast, Nat.min_eq_left hk]; simp
  rw [e, Int.fdiv_eq_ediv_of_nonneg _ (Int.natCast_nonneg _), Int.natCast_ediv]

theorem shl_i64 {a k : Nat} (hk : k ≤ 64) (h : a * 2 ^ k < 2 ^ 63) : shlI .i64 (a : Int) (k : Int) = ((a * 2 ^ k : Nat) : Int) := by
  unfold shlI
  have e : (2 : Int) ^ (min (k : Int).toNat (IntKind.bits .i64)) = ((2 ^ k : Nat) : Int) := by
    rw [bits64, Int.toNat_natCast, Nat.min_eq_left hk]; simp
  rw [e, ← Int.natCast_mul, wrap_i64 (by omega) (by omega)]

theorem and_bit (a k : Nat) : a &&& 2 ^ k = a / 2 ^ k % 2 * 2 ^ k := by
  apply Nat.eq_of_testBit_eq
  intro i
  rw [Nat.testBit_and, Nat.testBit_two_pow]
  have h2 : a.testBit k = decide (a / 2 ^ k % 2 = 1) := Nat.testBit_eq_decide_div_mod_eq
  have hc : a / 2 ^ k % 2 = 0 ∨ a / 2 ^ k % 2 = 1 := by omega
  by_cases hk : k = i
  · subst hk
    rcases hc with h | h
    · simp [h2, h]
    · rw [h2, h]; simp
  · rcases hc with h | h
    · simp [h, hk]
    · rw [h, Nat.one_mul, Nat.testBit_two_pow]; simp [hk]

theorem and_low (a k : Nat) : a &&& (2 ^ k - 1) = a % 2 ^ k := Nat.and_two_pow_sub_one_eq_mod a k

theorem or_add {a k b : Nat} (hb : b < 2 ^ k) : a * 2 ^ k ||| b = a * 2 ^ k + b := by
  have := Nat.two_pow_add_eq_or_of_lt (i := k) (b := b) hb a
  rw [Nat.mul_comm a, this]

/-- The calls that are put off are closed. -/
theorem closeP_ok {n : Nat} {K : World → Prop} : ∀ (ds : List Nat) (w : World), (∀ d ∈ ds, n ≤ d ∧ w.heap[d]? = some (.deferred (some []))) → ds.Nodup → (∀ w', Fr8 w w' (fun b => n ≤ b) → w'.heap.size = w.heap.size → K w') → CloseP ds w K := by
  intro ds
  induction ds with
  | nil => intro w _ _ h; exact h w (Fr8.refl _ _) rfl
  | cons d ds ih =>
    intro w h1 h2 h
    refine ⟨(h1 d (List.mem_cons_self ..)).2, ih _ ?_ (List.nodup_cons.1 h2).2 ?_⟩
    · intro e he
      have := h1 e (List.mem_cons_of_mem _ he)
      refine ⟨this.1, ?_⟩
      have hne : ¬ d = e := fun x => (List.nodup_cons.1 h2).1 (x ▸ he)
      simp [World.putObj, hne, this.2]
    · intro w' f z
      exact h w' (((Fr8.putDef w d _).mono fun b e => by have := (h1 d (List.mem_cons_self ..)).1; omega).trans f fun _ _ e => e) (by simpa [World.putObj] using z)
end Gp
