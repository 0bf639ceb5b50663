import Derived.Test.YtmcdmhegjhcjhaaGreatDraw
namespace Gp
open Go

/-! ### Small lemmas on lists -/
theorem memN_iff {x : Nat} {l : List Nat} : memN x l = true ↔ x ∈ l := by
  induction l with
  | nil => simp [memN]
  | cons y r ih =>
    simp only [memN]
    by_cases h : y = x
    · subst h; simp
    · have : Nat.beq y x = false := by cases hb : Nat.beq y x; rfl; exact absurd (Nat.eq_of_beq_eq_true hb) h
      simp [this, ih, Ne.symm h]

theorem mem_enum {o : Oper} {i : Nat} : ∀ (l : List Oper) (k : Nat), (i, o) ∈ enumFrom k l ↔ ∃ j, l[j]? = some o ∧ i = k + j := by
  intro l
  induction l with
  | nil => intro k; simp [enumFrom]
  | cons p l ih =>
    intro k
    simp only [enumFrom, List.mem_cons, Prod.mk.injEq, ih]
    constructor
    · rintro (⟨rfl, rfl⟩ | ⟨j, h1, h2⟩)
      · exact ⟨0, by simp, by omega⟩
      · exact ⟨j + 1, by simpa using h1, by omega⟩
    · rintro ⟨j, h1, h2⟩
      cases j with
      | zero => simp at h1; exact .inl ⟨by omega, h1.symm⟩
      | succ j => exact .inr ⟨j, by simpa using h1, by omega⟩

theorem mem_enum0 {ops : Array Oper} {o : Oper} {i : Nat} : (i, o) ∈ enumFrom 0 ops.toList ↔ ops[i]? = some o := by
  rw [mem_enum]
  constructor
  · rintro ⟨j, h1, h2⟩
    have : i = j := by omega
    subst this
    simpa using h1
  · intro h
    exact ⟨i, by simpa using h, by omega⟩

theorem firstNE_some {P : Program} {done : List Nat} {i : Nat} {o : Oper} : ∀ (l : List (Nat × Oper)), firstNE P done l = some (i, o) →
    (i, o) ∈ l ∧ i ∉ done ∧ isEff P o = false ∧ okPreds done o = true := by
  intro l
  induction l with
  | nil => intro h; simp [firstNE] at h
  | cons x l ih =>
    obtain ⟨j, p⟩ := x
    intro h
    simp only [firstNE] at h
    cases hb : (!memN j done && (!isEff P p && okPreds done p)) with
    | true =>
      rw [hb] at h
      simp only [cond_true, Option.some.injEq, Prod.mk.injEq] at h
      obtain ⟨rfl, rfl⟩ := h
      simp only [Bool.and_eq_true, Bool.not_eq_true'] at hb
      exact ⟨by simp, fun hm => by rw [memN_iff.2 hm] at hb; simp at hb, hb.2.1, hb.2.2⟩
    | false =>
      rw [hb] at h
      obtain ⟨h1, h2⟩ := ih h
      exact ⟨by simp [h1], h2⟩

theorem firstNE_none {P : Program} {done : List Nat} : ∀ (l : List (Nat × Oper)), firstNE P done l = none → ∀ i o, (i, o) ∈ l → i ∉ done → okPreds done o = true → isEff P o = true := by
  intro l
  induction l with
  | nil => intro _ i o h; cases h
  | cons x l ih =>
    obtain ⟨j, p⟩ := x
    intro h i o hm hd hp
    simp only [firstNE] at h
    cases hb : (!memN j done && (!isEff P p && okPreds done p)) with
    | true => rw [hb] at h; simp at h
    | false =>
      rw [hb] at h
      cases hm with
      | head =>
        have : memN j done = false := by cases hx : memN j done; rfl; exact absurd (memN_iff.1 hx) hd
        simp [this, hp] at hb
        exact hb
      | tail _ hm => exact ih h i o hm hd hp

theorem readyE_mem {P : Program} {done : List Nat} {i : Nat} {o : Oper} : ∀ (l : List (Nat × Oper)), (i, o) ∈ readyE P done l ↔ (i, o) ∈ l ∧ i ∉ done ∧ isEff P o = true ∧ okPreds done o = true := by
  intro l
  induction l with
  | nil => simp [readyE]
  | cons x l ih =>
    obtain ⟨j, p⟩ := x
    simp only [readyE]
    cases hb : (!memN j done && (isEff P p && okPreds done p)) with
    | true =>
      simp only [Bool.and_eq_true, Bool.not_eq_true'] at hb
      have hnd : j ∉ done := fun hm => by rw [memN_iff.2 hm] at hb; simp at hb
      simp only [cond_true, List.mem_cons, Prod.mk.injEq, ih]
      constructor
      · rintro (⟨rfl, rfl⟩ | h)
        · exact ⟨.inl ⟨rfl, rfl⟩, hnd, hb.2⟩
        · exact ⟨.inr h.1, h.2⟩
      · rintro ⟨h1 | h1, h2⟩
        · exact .inl h1
        · exact .inr ⟨h1, h2⟩
    | false =>
      simp only [cond_false, List.mem_cons, Prod.mk.injEq, ih]
      constructor
      · intro h; exact ⟨.inr h.1, h.2⟩
      · rintro ⟨h1 | h1, h2, h3, h4⟩
        · obtain ⟨rfl, rfl⟩ := h1
          have : memN i done = false := by cases hx : memN i done; rfl; exact absurd (memN_iff.1 hx) h2
          simp [this, h3, h4] at hb
        · exact ⟨h1, h2, h3, h4⟩

theorem allOf_mem {α : Type} {f : α → Prop} : ∀ (l : List α), allOf f l → ∀ x ∈ l, f x := by
  intro l
  induction l with
  | nil => intro _ x hx; cases hx
  | cons y r ih =>
    intro h x hx
    cases r with
    | nil => simp at hx; subst hx; exact h
    | cons z r =>
      cases hx with
      | head => exact h.1
      | tail _ hx => exact ih h.2 x hx

/-! ### Who stands before whom -/
def Dir (ops : Array Oper) (j i : Nat) : Prop := ∃ o, ops[i]? = some o ∧ ∃ e ∈ o.after.toList, Region.binds .any e = true ∧ e.on = j

inductive Pre (ops : Array Oper) : Nat → Nat → Prop
  | one {j i : Nat} : Dir ops j i → Pre ops j i
  | tail {j k i : Nat} : Pre ops j k → Dir ops k i → Pre ops j i

theorem bitsOf_test {acc : List Nat} {j : Nat} : ∀ (es : List Edge), (bitsOf acc es).testBit j = true → ∃ e ∈ es, Region.binds .any e = true ∧ (e.on = j ∨ (acc.getD e.on 0).testBit j = true) := by
  intro es
  induction es with
  | nil => intro h; simp [bitsOf] at h
  | cons e es ih =>
    intro h
    simp only [bitsOf] at h
    cases hb : Region.binds .any e with
    | false =>
      rw [hb] at h
      obtain ⟨e', h1, h2⟩ := ih h
      exact ⟨e', by simp [h1], h2⟩
    | true =>
      rw [hb] at h
      simp only [cond_true, Nat.testBit_or, Bool.or_eq_true, Nat.testBit_two_pow, decide_eq_true_eq] at h
      rcases h with h | h | h
      · exact ⟨e, by simp, hb, .inl h⟩
      · exact ⟨e, by simp, hb, .inr h⟩
      · obtain ⟨e', h1, h2⟩ := ih h
        exact ⟨e', by simp [h1], h2⟩

theorem preBits_test {ops : Array Oper} : ∀ (l : List Oper) (acc : List Nat), ops.toList.drop acc.length = l → (∀ i j, (acc.getD i 0).testBit j = true → Pre ops j i) →
    ∀ i j, ((preBits l acc).getD i 0).testBit j = true → Pre ops j i := by
  intro l
  induction l with
  | nil => intro acc _ h; exact h
  | cons o l ih =>
    intro acc hl h
    simp only [preBits]
    have ho : ops[acc.length]? = some o := by
      have := congrArg (fun l : List Oper => l[0]?) hl
      simpa using this
    refine ih _ ?_ ?_
    · have := congrArg List.tail hl
      simpa [List.tail_drop] using this
    · intro i j hb
      rcases Nat.lt_trichotomy i acc.length with hi | hi | hi
      · rw [List.getD_eq_getElem?_getD, List.getElem?_append_left hi, ← List.getD_eq_getElem?_getD] at hb
        exact h i j hb
      · subst hi
        rw [List.getD_eq_getElem?_getD, List.getElem?_append_right (Nat.le_refl _)] at hb
        simp only [Nat.sub_self, List.getElem?_cons_zero, Option.getD_some] at hb
        obtain ⟨e, h1, h2, h3⟩ := bitsOf_test _ hb
        rcases h3 with h3 | h3
        · exact .one ⟨o, ho, e, h1, h2, h3⟩
        · exact .tail (h _ _ h3) ⟨o, ho, e, h1, h2, rfl⟩
      · rw [List.getD_eq_getElem?_getD, List.getElem?_eq_none (by simp; omega)] at hb
        simp at hb

theorem pre_bits {ops : Array Oper} {i j : Nat} (h : ((preBits ops.toList []).getD i 0).testBit j = true) : Pre ops j i :=
  preBits_test ops.toList [] rfl (fun i j h => by simp at h) i j h

theorem pre_closed {ops : Array Oper} {D : Nat → Prop} (hD : ∀ i j, D i → Dir ops j i → D j) {i j : Nat} (h : Pre ops j i) : D i → D j := by
  induction h with
  | one h => exact fun hi => hD _ _ hi h
  | tail _ h ih => exact fun hi => ih (hD _ _ hi h)

theorem pre_preds {ops : Array Oper} {D : Nat → Prop} (hD : ∀ i j, D i → Dir ops j i → D j) {i : Nat} (hi : ∀ j, Dir ops j i → D j) {j : Nat} (h : Pre ops j i) : D j := by
  cases h with
  | one h => exact hi _ h
  | tail h1 h2 => exact pre_closed hD h1 (hi _ h2)

/-! ### The static checks -/
theorem noDup_spec : ∀ (ops : List Oper), noDup (dsts ops) = true → ∀ (i j : Nat) (oi oj : Oper) (s : Nat), ops[i]? = some oi → ops[j]? = some oj → oi.dst = some s → oj.dst = some s → i = j := by
  intro ops
  induction ops with
  | nil => intro _ i j oi oj s hi; simp at hi
  | cons o r ih =>
    intro h i j oi oj s hi hj hsi hsj
    have hmem : ∀ (k : Nat) (x : Oper), r[k]? = some x → x.dst = some s → s ∈ dsts r := fun k x hk hx => List.mem_filterMap.2 ⟨x, List.mem_of_getElem? hk, hx⟩
    cases hd : o.dst with
    | none =>
      have h' : noDup (dsts r) = true := by simpa [dsts, hd] using h
      cases i with
      | zero => simp at hi; subst hi; rw [hd] at hsi; cases hsi
      | succ i => cases j with
        | zero => simp at hj; subst hj; rw [hd] at hsj; cases hsj
        | succ j => rw [ih h' i j oi oj s (by simpa using hi) (by simpa using hj) hsi hsj]
    | some d =>
      have h0 : noDup (d :: dsts r) = true := by simpa [dsts, hd] using h
      simp only [noDup, Bool.and_eq_true, Bool.not_eq_true'] at h0
      have hnd : d ∉ dsts r := fun hm => by rw [memN_iff.2 hm] at h0; simp at h0
      cases i with
      | zero =>
        simp at hi; subst hi
        rw [hd] at hsi; cases hsi
        cases j with
        | zero => rfl
        | succ j => exact absurd (hmem j oj (by simpa using hj) hsj) hnd
      | succ i => cases j with
        | zero =>
          simp at hj; subst hj
          rw [hd] at hsj; cases hsj
          exact absurd (hmem i oi (by simpa using hi) hsi) hnd
        | succ j => rw [ih h0.2 i j oi oj s (by simpa using hi) (by simpa using hj) hsi hsj]

theorem looksL_eq (ops : Array Oper) (o : Oper) : looksL ops.toList o = o.looksAt ops := by
  unfold looksL Oper.looksAt
  congr 1
  cases o.guard <;> simp

theorem apartOk_spec {ops : List Oper} {pbs : List Nat} {i : Nat} {o : Oper} : ∀ (l : List (Nat × Oper)), apartOk ops pbs i o l = true → ∀ j p d, (j, p) ∈ l → p.dst = some d → d ∈ looksL ops o →
    i = j ∨ (pbs.getD i 0).testBit j = true ∨ (pbs.getD j 0).testBit i = true := by
  intro l
  induction l with
  | nil => intro _ j p d h; cases h
  | cons x l ih =>
    obtain ⟨k, q⟩ := x
    intro h j p d hm hd hl
    simp only [apartOk, Bool.and_eq_true] at h
    cases hm with
    | head =>
      rw [hd] at h
      simp only [Bool.or_eq_true, Bool.not_eq_true', Nat.beq_eq] at h
      rcases h.1 with (h1 | h1) | h1
      · exact .inl h1
      · rw [memN_iff.2 hl] at h1; cases h1
      · exact .inr h1
    | tail _ hm => exact ih h.2 j p d hm hd hl

structure ROk (ops : Array Oper) : Prop where
  dst : ∀ (i j : Nat) (oi oj : Oper) (s : Nat), ops[i]? = some oi → ops[j]? = some oj → oi.dst = some s → oj.dst = some s → i = j
  apart : ∀ (i j : Nat) (oi oj : Oper) (s : Nat), ops[i]? = some oi → ops[j]? = some oj → oj.dst = some s → s ∈ oi.looksAt ops → i = j ∨ Pre ops j i ∨ Pre ops i j
  back : ∀ i j, Dir ops j i → j < i

theorem regionOk_spec {ops : Array Oper} (h : regionOk ops.toList (preBits ops.toList []) = true) : ROk ops := by
  simp only [regionOk, Bool.and_eq_true, List.all_eq_true] at h
  refine ⟨fun i j oi oj s hi hj => noDup_spec _ h.1 i j oi oj s (by simpa using hi) (by simpa using hj), fun i j oi oj s hi hj hs hl => ?_, fun i j hd => ?_⟩
  · have := (h.2 (i, oi) (mem_enum0.2 hi)).2
    rcases apartOk_spec _ this j oj s (mem_enum0.2 hj) hs (by rw [looksL_eq]; exact hl) with h1 | h1 | h1
    · exact .inl h1
    · exact .inr (.inl (pre_bits h1))
    · exact .inr (.inr (pre_bits h1))
  · obtain ⟨o, ho, e, he, hb, rfl⟩ := hd
    have := (h.2 (i, o) (mem_enum0.2 ho)).1
    simp only [backOk, List.all_eq_true, Bool.or_eq_true, Bool.not_eq_true', Nat.blt_eq] at this
    rcases this e he with h1 | h1
    · rw [hb] at h1; cases h1
    · exact h1
end Gp
