/- Tables with open addressing, no program in sight. -/
namespace Gp.Hash

abbrev Ent := Option (ByteArray × Int)
def cy (m a : Nat) : Nat := if a < m then a else a - m
def used (L : List Ent) (i : Nat) : Prop := ∃ e : ByteArray × Int, L[i]? = some (some e)
def Has (L : List Ent) (k : ByteArray) (n : Int) : Prop := ∃ i : Nat, L[i]? = some (some (k, n))

structure T (H : ByteArray → Nat) (L : List Ent) (X : Nat → Nat → Prop) : Prop where
  dist : ∀ (i j : Nat) (k : ByteArray) (n n' : Int), L[i]? = some (some (k, n)) → L[j]? = some (some (k, n')) → i = j
  reach : ∀ (i : Nat) (k : ByteArray) (n : Int), L[i]? = some (some (k, n)) → ∃ D, D < L.length ∧ cy L.length (H k + D) = i ∧ ∀ d, d < D → used L (cy L.length (H k + d)) ∨ X i (cy L.length (H k + d))

def Stop (L : List Ent) (h : Nat) (k : ByteArray) (d : Nat) : Prop := L[cy L.length (h + d)]? = some none ∨ ∃ n, L[cy L.length (h + d)]? = some (some (k, n))

structure First (L : List Ent) (h : Nat) (k : ByteArray) (d : Nat) : Prop where
  lt : d < L.length
  stop : Stop L h k d
  first : ∀ d', d' < d → ¬ Stop L h k d'

section
variable {H : ByteArray → Nat} {L : List Ent} {X : Nat → Nat → Prop} {k : ByteArray} {n : Int}

theorem cyc (m a : Nat) : (a < m ∧ cy m a = a) ∨ (m ≤ a ∧ cy m a = a - m) := by
  unfold cy; split <;> omega

theorem cy_lt {m a : Nat} (h : a < 2 * m) : cy m a < m := by unfold cy; split <;> omega

theorem cy_inj {m h d d' : Nat} (hh : h < m) (hd : d < m) (hd' : d' < m) (e : cy m (h + d) = cy m (h + d')) : d = d' := by
  unfold cy at e; split at e <;> split at e <;> omega

theorem get_cases (L : List Ent) {i : Nat} (h : i < L.length) : L[i]? = some none ∨ ∃ k n, L[i]? = some (some (k, n)) := by
  rw [List.getElem?_eq_getElem h]
  cases hx : L[i] with
  | none => exact .inl rfl
  | some e => exact .inr ⟨e.1, e.2, rfl⟩

theorem first_there (t : T H L X) (hX : ∀ i p, ¬ X i p) (hh : H k < L.length) {i : Nat} (hi : L[i]? = some (some (k, n))) {d : Nat} (f : First L (H k) k d) : cy L.length (H k + d) = i := by
  obtain ⟨D, hD, hc, hu⟩ := t.reach i k n hi
  have hs : Stop L (H k) k D := .inr ⟨n, by rw [hc]; exact hi⟩
  have h1 : ¬ D < d := fun hlt => f.first D hlt hs
  by_cases h2 : d < D
  · rcases hu d h2 with ⟨e, he⟩ | hx
    · rcases f.stop with h0 | ⟨n', h0⟩
      · rw [he] at h0; cases h0
      · exact t.dist _ _ _ _ _ h0 hi
    · exact absurd hx (hX _ _)
  · have : d = D := by omega
    rw [this, hc]

theorem first_free (hno : ∀ n, ¬ Has L k n) {h : Nat} (hh : h < L.length) {d : Nat} (f : First L h k d) : L[cy L.length (h + d)]? = some none ∧ ∀ d', d' < d → used L (cy L.length (h + d')) := by
  refine ⟨?_, fun d' hd => ?_⟩
  · rcases f.stop with h0 | ⟨n', h0⟩
    · exact h0
    · exact absurd ⟨_, h0⟩ (hno n')
  · have hlt := f.lt
    rcases get_cases L (cy_lt (m := L.length) (a := h + d') (by omega)) with h0 | ⟨k', n', h0⟩
    · exact absurd (.inl h0) (f.first d' hd)
    · exact ⟨_, h0⟩

theorem get_set (L : List Ent) (q i : Nat) (e : Ent) : (L.set q e)[i]? = if q = i ∧ q < L.length then some e else L[i]? := by
  rw [List.getElem?_set]
  by_cases h1 : q = i
  · subst h1
    by_cases h2 : q < L.length
    · simp [h2]
    · simp [h2]
  · simp [h1]

theorem used_set {q i : Nat} {e : Ent} (hu : used L i) (hn : L[q]? = some none) : used (L.set q e) i := by
  obtain ⟨x, hx⟩ := hu
  refine ⟨x, ?_⟩
  rw [get_set, if_neg]
  · exact hx
  · rintro ⟨rfl, _⟩
    rw [hn] at hx; cases hx

/-- A new key goes to the first free place. -/
theorem insert (t : T H L X) (hno : ∀ n, ¬ Has L k n) (hh : H k < L.length) {d : Nat} (f : First L (H k) k d) : T H (L.set (cy L.length (H k + d)) (some (k, n))) X := by
  obtain ⟨hn, hu⟩ := first_free hno hh f
  have hq : cy L.length (H k + d) < L.length := (List.getElem?_eq_some_iff.1 hn).1
  refine ⟨fun i j k' n1 n2 hi hj => ?_, fun i k' n1 hi => ?_⟩
  · rw [get_set] at hi hj
    split at hi <;> split at hj
    · rename_i h1 h2; rw [← h1.1, ← h2.1]
    · cases hi; exact absurd ⟨_, hj⟩ (hno n2)
    · cases hj; exact absurd ⟨_, hi⟩ (hno n1)
    · exact t.dist _ _ _ _ _ hi hj
  · rw [get_set] at hi
    simp only [List.length_set]
    split at hi
    · rename_i h1
      cases hi
      exact ⟨d, f.lt, h1.1, fun d' hd => .inl (used_set (hu d' hd) hn)⟩
    · obtain ⟨D, hD, hc, hx⟩ := t.reach i k' n1 hi
      exact ⟨D, hD, hc, fun d' hd => (hx d' hd).imp (fun h => used_set h hn) id⟩

theorem has_insert {q : Nat} (hn : L[q]? = some none) (hno : ∀ n, ¬ Has L k n) (k' : ByteArray) (n' : Int) : Has (L.set q (some (k, n))) k' n' ↔ (k' = k ∧ n' = n) ∨ (k' ≠ k ∧ Has L k' n') := by
  have hq : q < L.length := (List.getElem?_eq_some_iff.1 hn).1
  constructor
  · rintro ⟨i, hi⟩
    rw [get_set] at hi
    split at hi
    · cases hi; exact .inl ⟨rfl, rfl⟩
    · refine .inr ⟨?_, i, hi⟩
      rintro rfl
      exact hno _ ⟨i, hi⟩
  · rintro (⟨rfl, rfl⟩ | ⟨hk, i, hi⟩)
    · exact ⟨q, by rw [get_set, if_pos ⟨rfl, hq⟩]⟩
    · refine ⟨i, ?_⟩
      rw [get_set, if_neg]
      · exact hi
      · rintro ⟨rfl, _⟩
        rw [hn] at hi; cases hi

/-- An old key gets a new number. -/
theorem update (t : T H L X) {q : Nat} {n0 : Int} (hq : L[q]? = some (some (k, n0))) : T H (L.set q (some (k, n))) X := by
  have hlt : q < L.length := (List.getElem?_eq_some_iff.1 hq).1
  have old : ∀ (i : Nat) (k' : ByteArray) (n1 : Int), (L.set q (some (k, n)))[i]? = some (some (k', n1)) → ∃ n2 : Int, L[i]? = some (some (k', n2)) := by
    intro i k' n1 hi
    rw [get_set] at hi
    split at hi
    · rename_i h1; cases hi; exact ⟨n0, by rw [← h1.1]; exact hq⟩
    · exact ⟨n1, hi⟩
  have us : ∀ i, used L i → used (L.set q (some (k, n))) i := by
    rintro i ⟨e, he⟩
    by_cases h : q = i
    · exact ⟨_, by rw [get_set, if_pos ⟨h, hlt⟩]⟩
    · exact ⟨e, by rw [get_set, if_neg (fun x => h x.1)]; exact he⟩
  refine ⟨fun i j k' n1 n2 hi hj => ?_, fun i k' n1 hi => ?_⟩
  · obtain ⟨_, h1⟩ := old _ _ _ hi
    obtain ⟨_, h2⟩ := old _ _ _ hj
    exact t.dist _ _ _ _ _ h1 h2
  · obtain ⟨_, h1⟩ := old _ _ _ hi
    simp only [List.length_set]
    obtain ⟨D, hD, hc, hx⟩ := t.reach i k' _ h1
    exact ⟨D, hD, hc, fun d' hd => (hx d' hd).imp (us _) id⟩

theorem has_update (t : T H L X) {q : Nat} {n0 : Int} (hq : L[q]? = some (some (k, n0))) (k' : ByteArray) (n' : Int) : Has (L.set q (some (k, n))) k' n' ↔ (k' = k ∧ n' = n) ∨ (k' ≠ k ∧ Has L k' n') := by
  have hlt : q < L.length := (List.getElem?_eq_some_iff.1 hq).1
  constructor
  · rintro ⟨i, hi⟩
    rw [get_set] at hi
    split at hi
    · cases hi; exact .inl ⟨rfl, rfl⟩
    · rename_i h1
      refine .inr ⟨?_, i, hi⟩
      rintro rfl
      exact h1 ⟨t.dist _ _ _ _ _ hq hi, hlt⟩
  · rintro (⟨rfl, rfl⟩ | ⟨hk, i, hi⟩)
    · exact ⟨q, by rw [get_set, if_pos ⟨rfl, hlt⟩]⟩
    · refine ⟨i, ?_⟩
      rw [get_set, if_neg]
      · exact hi
      · rintro ⟨rfl, _⟩
        rw [hq] at hi; cases hi; exact hk rfl

/-! ### Taking out -/
def off (m at_ i : Nat) : Nat := if at_ ≤ i then i - at_ else i + m - at_
theorem offc (m at_ i : Nat) : (at_ ≤ i ∧ off m at_ i = i - at_) ∨ (i < at_ ∧ off m at_ i = i + m - at_) := by
  unfold off; split <;> omega

/-- While the places behind a hole are put anew: those from j on, short of e, may have holes at less than j on their way. -/
def Xj (m at_ e j i p : Nat) : Prop := j ≤ off m at_ i ∧ off m at_ i < e ∧ off m at_ p < j

structure Zone (L : List Ent) (at_ e j : Nat) : Prop where
  at_lt : at_ < L.length
  e1 : e < L.length
  je : j ≤ e
  full : ∀ d, j ≤ d → d < e → used L (cy L.length (at_ + d))
  free : L[cy L.length (at_ + e)]? = some none

theorem no_X0 (m at_ e i p : Nat) : ¬ Xj m at_ e 0 i p := fun h => by have := h.2.2; omega
theorem no_Xe (m at_ e i p : Nat) : ¬ Xj m at_ e e i p := fun h => by have := h.1; have := h.2.1; omega

theorem way {m at_ e j h d D : Nat} (hat : at_ < m) (he : e < m) (hje : j < e) (hh : h < m) (hD : D < m) (hd : d < D) (hp : cy m (at_ + j) = cy m (h + d))
    (hz : ¬ (j ≤ off m at_ (cy m (h + D)) ∧ off m at_ (cy m (h + D)) < e)) : (cy m (at_ + e) = cy m (h + (d + (e - j))) ∧ d + (e - j) < D) ∨ cy m (at_ + e) = cy m (h + D) := by
  have c1 := cyc m (at_ + j)
  have c2 := cyc m (h + d)
  have c3 := cyc m (h + D)
  have c4 := cyc m (at_ + e)
  have c5 := cyc m (h + (d + (e - j)))
  have o1 := offc m at_ (cy m (h + D))
  omega

theorem clear {at_ e j : Nat} (z : Zone L at_ e j) (hj : j < e) (hH : ∀ k, H k < L.length) (t : T H L (Xj L.length at_ e j)) : T H (L.set (cy L.length (at_ + j)) none) (Xj L.length at_ e (j + 1)) := by
  have hat := z.at_lt
  have he := z.e1
  have hp : cy L.length (at_ + j) < L.length := cy_lt (by omega)
  have old : ∀ (i : Nat) (k' : ByteArray) (n1 : Int), (L.set (cy L.length (at_ + j)) none)[i]? = some (some (k', n1)) → L[i]? = some (some (k', n1)) ∧ cy L.length (at_ + j) ≠ i := by
    intro i k' n1 hi
    rw [get_set] at hi
    split at hi
    · cases hi
    · rename_i h1; exact ⟨hi, fun h => h1 ⟨h, hp⟩⟩
  refine ⟨fun i j' k' n1 n2 hi hj' => t.dist _ _ _ _ _ (old _ _ _ hi).1 (old _ _ _ hj').1, fun i k' n1 hi => ?_⟩
  obtain ⟨hi, hne⟩ := old _ _ _ hi
  simp only [List.length_set]
  obtain ⟨D, hD, hc, hx⟩ := t.reach i k' n1 hi
  have hh := hH k'
  have hlt : i < L.length := (List.getElem?_eq_some_iff.1 hi).1
  have hoff : off L.length at_ i ≠ j := by
    intro h; apply hne; unfold off at h; unfold cy; split at h <;> split <;> omega
  refine ⟨D, hD, hc, fun d hd => ?_⟩
  by_cases hpd : cy L.length (at_ + j) = cy L.length (H k' + d)
  · -- the cleared place lies on the way
    right
    have o1 : off L.length at_ (cy L.length (H k' + d)) = j := by rw [← hpd]; unfold off cy; split <;> split <;> omega
    refine ⟨?_, ?_, by omega⟩
    all_goals
      by_cases hz : j ≤ off L.length at_ i ∧ off L.length at_ i < e
      · omega
      · exfalso
        -- the free place at e lies on the way as well
        have hfree := z.free
        have key := way hat he hj hh hD hd hpd (by rw [hc]; exact hz)
        rcases key with ⟨k1, k2⟩ | k1
        · rcases hx _ k2 with ⟨x, hu⟩ | hX
          · rw [← k1, hfree] at hu; cases hu
          · exact hz ⟨hX.1, hX.2.1⟩
        · rw [k1, hc, hi] at hfree; cases hfree
  · rcases hx d hd with ⟨x, hu⟩ | hX
    · exact .inl ⟨x, by rw [get_set, if_neg (fun h => hpd h.1)]; exact hu⟩
    · exact .inr ⟨by have := hX.1; omega, hX.2.1, by have := hX.2.2; omega⟩

theorem least {p : Nat → Prop} (h : ∃ n, p n) : ∃ n, p n ∧ ∀ m, m < n → ¬ p m := by
  obtain ⟨n, hn⟩ := h
  induction n using Nat.strongRecOn with
  | _ n ih =>
    by_cases hx : ∃ m, m < n ∧ p m
    · obtain ⟨m, hm, hp⟩ := hx
      exact ih m hm hp
    · exact ⟨n, hn, fun m hm hp => hx ⟨m, hm, hp⟩⟩

theorem first_of {h : Nat} (hs : ∃ d, d < L.length ∧ Stop L h k d) : ∃ d, First L h k d := by
  obtain ⟨d, ⟨h1, h2⟩, h3⟩ := least hs
  exact ⟨d, h1, h2, fun d' hd hx => h3 d' hd ⟨by omega, hx⟩⟩

theorem cy_off {m h i : Nat} (hh : h < m) (hi : i < m) : off m h i < m ∧ cy m (h + off m h i) = i := by
  have c1 := cyc m (h + off m h i)
  have o1 := offc m h i
  omega

theorem stop_of_free {h i : Nat} (hh : h < L.length) (hi : L[i]? = some none) : ∃ d, d < L.length ∧ Stop L h k d := by
  have hlt : i < L.length := (List.getElem?_eq_some_iff.1 hi).1
  obtain ⟨h1, h2⟩ := cy_off hh hlt
  exact ⟨_, h1, .inl (by rw [h2]; exact hi)⟩

def cnt : List Ent → Nat
  | [] => 0
  | none :: r => cnt r
  | some _ :: r => cnt r + 1

theorem cnt_le : ∀ L : List Ent, cnt L ≤ L.length
  | [] => Nat.le_refl _
  | none :: r => by have := cnt_le r; simp only [cnt, List.length_cons]; omega
  | some _ :: r => by have := cnt_le r; simp only [cnt, List.length_cons]; omega

theorem free_of : ∀ {L : List Ent}, cnt L < L.length → ∃ i : Nat, L[i]? = some none
  | [], h => by simp [cnt] at h
  | none :: _, _ => ⟨0, rfl⟩
  | some _ :: r, h => by
    obtain ⟨i, hi⟩ := free_of (L := r) (by simp only [cnt, List.length_cons] at h; omega)
    exact ⟨i + 1, by simpa using hi⟩

theorem cnt_put : ∀ {L : List Ent} {i : Nat} {e : ByteArray × Int}, L[i]? = some none → cnt (L.set i (some e)) = cnt L + 1
  | [], _, _, h => by simp at h
  | x :: r, 0, e, h => by simp at h; subst h; rfl
  | x :: r, i + 1, e, h => by
    have := cnt_put (L := r) (i := i) (e := e) (by simpa using h)
    cases x <;> simp only [List.set_cons_succ, cnt, this]

theorem cnt_take : ∀ {L : List Ent} {i : Nat} {e : ByteArray × Int}, L[i]? = some (some e) → cnt (L.set i none) + 1 = cnt L
  | [], _, _, h => by simp at h
  | x :: r, 0, e, h => by simp at h; subst h; rfl
  | x :: r, i + 1, e, h => by
    have := cnt_take (L := r) (i := i) (e := e) (by simpa using h)
    cases x <;> simp only [List.set_cons_succ, cnt] <;> omega

theorem cnt_same : ∀ {L : List Ent} {i : Nat} {e e' : ByteArray × Int}, L[i]? = some (some e) → cnt (L.set i (some e')) = cnt L
  | [], _, _, _, h => by simp at h
  | x :: r, 0, _, _, h => by simp at h; subst h; rfl
  | x :: r, i + 1, e, e', h => by
    have := cnt_same (L := r) (i := i) (e := e) (e' := e') (by simpa using h)
    cases x <;> simp only [List.set_cons_succ, cnt, this]

theorem cnt_rep (n : Nat) : cnt (List.replicate n none) = 0 := by
  induction n with
  | zero => rfl
  | succ n ih => rw [List.replicate_succ]; exact ih

theorem has_clear (t : T H L X) {q : Nat} {n0 : Int} (hq : L[q]? = some (some (k, n0))) (k' : ByteArray) (n' : Int) : Has (L.set q none) k' n' ↔ k' ≠ k ∧ Has L k' n' := by
  have hlt : q < L.length := (List.getElem?_eq_some_iff.1 hq).1
  constructor
  · rintro ⟨i, hi⟩
    rw [get_set] at hi
    split at hi
    · cases hi
    · rename_i h1
      refine ⟨?_, i, hi⟩
      rintro rfl
      exact h1 ⟨t.dist _ _ _ _ _ hq hi, hlt⟩
  · rintro ⟨hk, i, hi⟩
    refine ⟨i, ?_⟩
    rw [get_set, if_neg]
    · exact hi
    · rintro ⟨rfl, _⟩
      rw [hq] at hi; cases hi; exact hk rfl

theorem zone_of {at_ : Nat} (ha : used L at_) (hc : cnt L < L.length) : ∃ e, 0 < e ∧ Zone L at_ e 0 := by
  obtain ⟨x, hx⟩ := ha
  have hat : at_ < L.length := (List.getElem?_eq_some_iff.1 hx).1
  obtain ⟨i, hi⟩ := free_of hc
  have hlt : i < L.length := (List.getElem?_eq_some_iff.1 hi).1
  obtain ⟨h1, h2⟩ := cy_off hat hlt
  obtain ⟨e, ⟨h3, h4⟩, h5⟩ := least (p := fun e => e < L.length ∧ L[cy L.length (at_ + e)]? = some none) ⟨_, h1, by rw [h2]; exact hi⟩
  have h0 : 0 < e := by
    rcases Nat.eq_zero_or_pos e with h | h
    · subst h
      have : cy L.length (at_ + 0) = at_ := by unfold cy; simp [hat]
      rw [this, hx] at h4; cases h4
    · exact h
  refine ⟨e, h0, hat, h3, Nat.zero_le _, fun d _ hd => ?_, h4⟩
  rcases get_cases L (cy_lt (m := L.length) (a := at_ + d) (by omega)) with h | ⟨k', n', h⟩
  · exact absurd ⟨by omega, h⟩ (h5 d hd)
  · exact ⟨_, h⟩

theorem zone_clear {at_ e j : Nat} (z : Zone L at_ e j) (hj : j < e) : Zone (L.set (cy L.length (at_ + j)) none) at_ e (j + 1) := by
  have hat := z.at_lt
  have he := z.e1
  refine ⟨by simpa using hat, by simpa using he, hj, fun d h1 h2 => ?_, ?_⟩
  · obtain ⟨x, hx⟩ := z.full d (by omega) h2
    refine ⟨x, ?_⟩
    rw [List.length_set, get_set, if_neg]
    · exact hx
    · rintro ⟨h, _⟩
      have := cy_inj hat (by omega) (by omega) h
      omega
  · rw [List.length_set, get_set, if_neg]
    · exact z.free
    · rintro ⟨h, _⟩
      have := cy_inj hat (by omega) (by omega) h
      omega

/-- One place behind the hole, put anew. -/
theorem zone_step {at_ e j : Nat} (z : Zone L at_ e j) (hj : j < e) (hH : ∀ k, H k < L.length) (t : T H L (Xj L.length at_ e j)) {n0 : Int} (h0 : L[cy L.length (at_ + j)]? = some (some (k, n0))) :
    (∃ d, First (L.set (cy L.length (at_ + j)) none) (H k) k d) ∧ ∀ d, First (L.set (cy L.length (at_ + j)) none) (H k) k d →
      Zone ((L.set (cy L.length (at_ + j)) none).set (cy L.length (H k + d)) (some (k, n0))) at_ e (j + 1) ∧
      T H ((L.set (cy L.length (at_ + j)) none).set (cy L.length (H k + d)) (some (k, n0))) (Xj L.length at_ e (j + 1)) ∧
      (∀ k' n', Has ((L.set (cy L.length (at_ + j)) none).set (cy L.length (H k + d)) (some (k, n0))) k' n' ↔ Has L k' n') ∧
      cnt ((L.set (cy L.length (at_ + j)) none).set (cy L.length (H k + d)) (some (k, n0))) = cnt L := by
  have hat := z.at_lt
  have he := z.e1
  have hp0 : cy L.length (at_ + j) < L.length := cy_lt (by omega)
  have hln : (L.set (cy L.length (at_ + j)) none).length = L.length := List.length_set
  have hfree : (L.set (cy L.length (at_ + j)) none)[cy L.length (at_ + j)]? = some none := by rw [get_set, if_pos ⟨rfl, hp0⟩]
  refine ⟨first_of (stop_of_free (by rw [hln]; exact hH k) hfree), fun d f => ?_⟩
  have t1 := clear z hj hH t
  have z1 := zone_clear z hj
  have hno : ∀ n, ¬ Has (L.set (cy L.length (at_ + j)) none) k n := fun n h => ((has_clear t h0 k n).1 h).1 rfl
  have hfr := first_free hno (by rw [hln]; exact hH k) f
  have ins := insert (n := n0) t1 hno (by rw [hln]; exact hH k) f
  rw [hln] at hfr ins
  have hd : d < L.length := by have := f.lt; rwa [hln] at this
  have hq := cy_lt (m := L.length) (a := H k + d) (by have := hH k; omega)
  -- the place lies at or ahead of the cleared one
  have hoff : off L.length at_ (cy L.length (H k + d)) ≤ j := by
    obtain ⟨D, hD, hc, hx⟩ := t.reach _ _ _ h0
    have hle : ¬ D < d := fun hlt => by
      obtain ⟨x, hx⟩ := hfr.2 D hlt
      rw [hc, hfree] at hx; cases hx
    by_cases hDd : d = D
    · rw [hDd, hc]
      have c1 := cyc L.length (at_ + j)
      have o1 := offc L.length at_ (cy L.length (at_ + j))
      omega
    · rcases hx d (by omega) with ⟨x, hu⟩ | hX
      · have := hfr.1
        rw [get_set, if_neg] at this
        · rw [hu] at this; cases this
        · rintro ⟨h, _⟩
          rw [← hc] at h
          have := cy_inj (hH k) hD hd h
          omega
      · have := hX.2.2; omega
  have keep : ∀ c, j < c → c ≤ e → ¬ (cy L.length (H k + d) = cy L.length (at_ + c) ∧ cy L.length (H k + d) < (L.set (cy L.length (at_ + j)) none).length) := by
    rintro c h1 h2 ⟨h, _⟩
    rw [h] at hoff
    have c1 := cyc L.length (at_ + c)
    have o1 := offc L.length at_ (cy L.length (at_ + c))
    omega
  refine ⟨⟨by simpa using hat, by simpa using he, hj, fun c h1 h2 => ?_, ?_⟩, ins, fun k' n' => ?_, ?_⟩
  · obtain ⟨x, hx⟩ := z1.full c h1 h2
    rw [hln] at hx
    refine ⟨x, ?_⟩
    simp only [List.length_set]
    rw [get_set, if_neg (keep c (by omega) (by omega))]
    exact hx
  · have := z1.free
    rw [hln] at this
    simp only [List.length_set]
    rw [get_set, if_neg (keep e hj (Nat.le_refl _))]
    exact this
  · rw [has_insert hfr.1 hno, has_clear t h0]
    constructor
    · rintro (⟨rfl, rfl⟩ | ⟨_, _, h⟩)
      · exact ⟨_, h0⟩
      · exact h
    · rintro ⟨i, hi⟩
      by_cases hk : k' = k
      · subst hk
        have := t.dist _ _ _ _ _ h0 hi
        rw [← this, h0] at hi
        cases hi
        exact .inl ⟨rfl, rfl⟩
      · exact .inr ⟨hk, hk, i, hi⟩
  · rw [cnt_put hfr.1]
    exact cnt_take h0
end
end Gp.Hash
