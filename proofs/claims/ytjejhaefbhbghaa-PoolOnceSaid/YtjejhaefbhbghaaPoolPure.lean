/- The order in which a pool tries ports: plain lists. -/
namespace Gp.Pool

/-- The numbers from a on, by so many, up to hi. -/
def stepL (hi a by_ : Int) : List Int := (List.range ((hi - a) / by_ + 1).toNat).map fun i : Nat => a + by_ * (i : Int)

theorem lt_iff {hi a b : Int} (hb : 0 < b) (i : Nat) : i < ((hi - a) / b + 1).toNat ↔ a + b * (i : Int) ≤ hi := by
  have h : ((i : Int) ≤ (hi - a) / b) ↔ (i : Int) * b ≤ hi - a := Int.le_ediv_iff_mul_le hb
  rw [Int.mul_comm b]
  omega

theorem stepL_get {hi a b : Int} (hb : 0 < b) (i : Nat) : (stepL hi a b)[i]? = if a + b * (i : Int) ≤ hi then some (a + b * (i : Int)) else none := by
  unfold stepL
  rw [List.getElem?_map]
  by_cases h : a + b * (i : Int) ≤ hi
  · rw [if_pos h, List.getElem?_range ((lt_iff hb i).2 h)]; rfl
  · rw [if_neg h, List.getElem?_eq_none]; rfl
    rw [List.length_range]
    have := (lt_iff (hi := hi) (a := a) hb i).1
    omega

theorem mem_stepL {hi a b x : Int} (hb : 0 < b) : x ∈ stepL hi a b ↔ a ≤ x ∧ x ≤ hi ∧ (x - a) % b = 0 := by
  unfold stepL
  rw [List.mem_map]
  constructor
  · rintro ⟨i, hi', rfl⟩
    have h := (lt_iff (hi := hi) (a := a) hb i).1 (List.mem_range.1 hi')
    have h0 : 0 ≤ b * (i : Int) := Int.mul_nonneg (by omega) (by omega)
    refine ⟨by omega, h, ?_⟩
    rw [show a + b * (i : Int) - a = b * (i : Int) by omega]
    exact Int.mul_emod_right _ _
  · rintro ⟨h1, h2, h3⟩
    have hd := Int.emod_add_mul_ediv (x - a) b
    rw [h3] at hd
    have hq : 0 ≤ (x - a) / b := Int.ediv_nonneg (by omega) (by omega)
    refine ⟨((x - a) / b).toNat, List.mem_range.2 ((lt_iff hb _).2 ?_), ?_⟩
    · rw [Int.toNat_of_nonneg hq]; omega
    · rw [Int.toNat_of_nonneg hq]; omega

/-- The first number from lo on with the parity of want. -/
def alike (lo want : Int) : Int := lo + (lo + want) % 2

/-- The ports that are tried, for one of the span that is wanted: with this one's class and the other one's. -/
def wantsL (lo hi want : Int) (cl cl' : Int × Int) : List Int :=
  (if lo ≤ want ∧ want ≤ hi then [want] else []) ++
    (((stepL (min hi cl.2) (max (want + 2) (alike (max lo cl.1) want)) 2).filter fun p => p ≠ want) ++
    (((stepL (min hi cl.2) (alike (max lo cl.1) want) 2).filter fun p => p ≠ want ∧ ¬ (want ≤ p)) ++
    (((stepL (min hi cl'.2) (alike (max lo cl'.1) want) 2).filter fun p => p ≠ want) ++
    ((stepL hi (alike lo (want + 1)) 2).filter fun p => p ≠ want))))

structure Good (lo hi want : Int) (xs : List Int) : Prop where
  inn : ∀ x ∈ xs, lo ≤ x ∧ x ≤ hi
  all : ∀ x, lo ≤ x → x ≤ hi → x ∈ xs
  par : ∀ l r x, xs = l ++ x :: r → x % 2 ≠ want % 2 → ∀ y, lo ≤ y → y ≤ hi → y % 2 = want % 2 → y ∈ l

/-- The class of a port, and the other one. -/
def cls (want : Int) : Int × Int := if want < 1024 then (0, 1023) else (1024, 65535)
def oth (want : Int) : Int × Int := if want < 1024 then (1024, 65535) else (0, 1023)

theorem par_of {A B : List Int} {want lo hi : Int} (hA : ∀ x ∈ A, x % 2 = want % 2) (hall : ∀ y, lo ≤ y → y ≤ hi → y % 2 = want % 2 → y ∈ A) :
    ∀ l r x, A ++ B = l ++ x :: r → x % 2 ≠ want % 2 → ∀ y, lo ≤ y → y ≤ hi → y % 2 = want % 2 → y ∈ l := by
  intro l r x h hx y h1 h2 h3
  rcases List.append_eq_append_iff.1 h with ⟨t, h4, _⟩ | ⟨t, h4, h5⟩
  · rw [h4]; exact List.mem_append_left _ (hall y h1 h2 h3)
  · cases t with
    | nil => rw [List.append_nil] at h4; rw [← h4]; exact hall y h1 h2 h3
    | cons z t =>
      simp only [List.cons_append, List.cons.injEq] at h5
      exact absurd (hA x (by rw [h4, h5.1]; simp)) hx

theorem wants_good {lo hi want : Int} (h1 : 0 ≤ lo) (h2 : hi ≤ 65535) (h3 : 0 ≤ want) (h4 : want ≤ 65535) : Good lo hi want (wantsL lo hi want (cls want) (oth want)) := by
  have key : ∀ x, x ∈ wantsL lo hi want (cls want) (oth want) ↔ lo ≤ x ∧ x ≤ hi := by
    intro x
    unfold wantsL cls oth alike
    simp only [List.mem_append, List.mem_filter, mem_stepL (b := 2) (by omega), decide_eq_true_eq, List.mem_ite_nil_right, List.mem_singleton]
    split <;> simp only [] <;> omega
  refine ⟨fun x hx => (key x).1 hx, fun x ha hb => (key x).2 ⟨ha, hb⟩, ?_⟩
  unfold wantsL
  rw [← List.append_assoc, ← List.append_assoc, ← List.append_assoc]
  refine par_of ?_ ?_
  · intro x hx
    unfold cls oth alike at hx
    simp only [List.mem_append, List.mem_filter, mem_stepL (b := 2) (by omega), decide_eq_true_eq, List.mem_ite_nil_right, List.mem_singleton] at hx
    split at hx <;> simp only [] at hx <;> omega
  · intro y ha hb hp
    unfold cls oth alike
    simp only [List.mem_append, List.mem_filter, mem_stepL (b := 2) (by omega), decide_eq_true_eq, List.mem_ite_nil_right, List.mem_singleton]
    split <;> simp only [] <;> omega

/-- What is taken: the first port that is not given. -/
def take (G xs : List Int) : Option Int := xs.find? fun p => decide (p ∉ G)

theorem take_some {lo hi want : Int} {G xs : List Int} {x : Int} (h : Good lo hi want xs) (ht : take G xs = some x) :
    x ∉ G ∧ lo ≤ x ∧ x ≤ hi ∧ (x % 2 ≠ want % 2 → ∀ y, lo ≤ y → y ≤ hi → y % 2 = want % 2 → y ∈ G) := by
  obtain ⟨hx, l, r, hl, hn⟩ := List.find?_eq_some_iff_append.1 ht
  have hm := h.inn x (by rw [hl]; simp)
  refine ⟨by simpa using hx, hm.1, hm.2, fun hp y h1 h2 h3 => ?_⟩
  have := hn y (h.par l r x hl hp y h1 h2 h3)
  simpa using this

theorem take_none {lo hi want : Int} {G xs : List Int} (h : Good lo hi want xs) (ht : take G xs = none) : ∀ y, lo ≤ y → y ≤ hi → y ∈ G := by
  intro y h1 h2
  have := List.find?_eq_none.1 ht y (h.all y h1 h2)
  simpa using this

theorem full_length {G : List Int} {lo : Int} {n : Nat} (hd : G.Nodup) (hi : ∀ x ∈ G, lo ≤ x ∧ x < lo + (n : Int)) (ha : ∀ y, lo ≤ y → y < lo + (n : Int) → y ∈ G) : G.length = n := by
  have hp : G.Perm ((List.range n).map fun i : Nat => lo + (i : Int)) := by
    refine (List.perm_ext_iff_of_nodup hd ?_).2 fun x => ?_
    · exact List.pairwise_map.2 (List.nodup_range.imp fun h e => h (by omega))
    · rw [List.mem_map]
      constructor
      · intro hx
        have := hi x hx
        exact ⟨(x - lo).toNat, List.mem_range.2 (by omega), by omega⟩
      · rintro ⟨i, h, rfl⟩
        exact ha _ (by omega) (by have := List.mem_range.1 h; omega)
  rw [hp.length_eq, List.length_map, List.length_range]

end Gp.Pool
