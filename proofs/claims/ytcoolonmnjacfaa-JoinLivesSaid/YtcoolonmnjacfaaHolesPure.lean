/- Parts of a datagram: the plain law. -/
namespace Gp.Hol

/-- A part: where it begins, whether more come behind it, its bytes. -/
abbrev Pc := Int × Bool × List UInt8

def pend (p : Pc) : Int := p.1 + (p.2.2.length : Int)
/-- Two parts have a place that both have. -/
def sh (p q : Pc) : Bool := (p.2.2.isEmpty && q.2.2.isEmpty && decide (p.1 = q.1)) || (!p.2.2.isEmpty && !q.2.2.isEmpty && decide (q.1 < pend p) && decide (p.1 < pend q))
def far (l : List Pc) : Int := l.foldl (fun n q => max n (pend q)) 0
/-- Where the last part ends; below 0: it did not come. -/
def lastE : List Pc → Int
  | [] => -1
  | p :: l => if p.2.1 = false then pend p else lastE l
def sum (l : List Pc) : Int := (l.map fun p => (p.2.2.length : Int)).sum
/-- The answer of putting a part in. -/
def may (p : Pc) : Int := if p.1 < 0 ∨ (p.2.1 = true ∧ (p.2.2.length = 0 ∨ p.2.2.length % 8 ≠ 0)) then 4 else if p.1 > 65535 - (p.2.2.length : Int) then 6 else 0

theorem sh_comm (p q : Pc) : sh p q = sh q p := by
  unfold sh
  have h : decide (p.1 = q.1) = decide (q.1 = p.1) := decide_eq_decide.2 eq_comm
  cases p.2.2.isEmpty <;> cases q.2.2.isEmpty <;> simp [h, Bool.and_comm]

/-- What all parts that came have in common. -/
structure Good (L : List Pc) : Prop where
  ok : ∀ p ∈ L, 0 ≤ p.1 ∧ pend p ≤ 65535 ∧ (p.2.1 = true → p.2.2 ≠ [])
  apart : L.Pairwise fun p q => sh p q = false
  last : ∀ p ∈ L, p.2.1 = false → ∀ q ∈ L, pend q ≤ pend p
  one : L.Pairwise fun p q => p.2.1 = true ∨ q.2.1 = true

theorem Good.nil : Good [] := ⟨by simp, by simp, by simp, by simp⟩

theorem Good.perm {L L' : List Pc} (h : Good L) (hp : L.Perm L') : Good L' :=
  ⟨fun p hm => h.ok p (hp.mem_iff.2 hm), h.apart.perm hp (fun {p q} e => by rw [sh_comm]; exact e), fun p hm e q hq => h.last p (hp.mem_iff.2 hm) e q (hp.mem_iff.2 hq), h.one.perm hp (fun {p q} e => e.symm)⟩

theorem lastE_none {L : List Pc} : (∀ p ∈ L, p.2.1 = true) → lastE L = -1 := by
  induction L with
  | nil => intro _; rfl
  | cons p l ih =>
    intro h
    unfold lastE
    rw [if_neg (by rw [h p (by simp)]; simp)]
    exact ih fun q hq => h q (by simp [hq])

theorem lastE_some {L : List Pc} (h1 : L.Pairwise fun p q => p.2.1 = true ∨ q.2.1 = true) {p : Pc} (hp : p ∈ L) (hm : p.2.1 = false) : lastE L = pend p := by
  induction L with
  | nil => simp at hp
  | cons q l ih =>
    unfold lastE
    by_cases hq : q.2.1 = false
    · rw [if_pos hq]
      rcases List.mem_cons.1 hp with rfl | hp
      · rfl
      · rcases (List.pairwise_cons.1 h1).1 p hp with h | h
        · rw [hq] at h; cases h
        · rw [hm] at h; cases h
    · rw [if_neg hq]
      rcases List.mem_cons.1 hp with rfl | hp
      · exact absurd hm hq
      · exact ih (List.pairwise_cons.1 h1).2 hp

theorem lastE_perm {L L' : List Pc} (h : L.Pairwise fun p q => p.2.1 = true ∨ q.2.1 = true) (hp : L.Perm L') : lastE L = lastE L' := by
  by_cases he : ∃ p ∈ L, p.2.1 = false
  · obtain ⟨p, hm, hf⟩ := he
    rw [lastE_some h hm hf, lastE_some (h.perm hp (fun {p q} e => e.symm)) (hp.mem_iff.1 hm) hf]
  · have h1 : ∀ p ∈ L, p.2.1 = true := fun p hm => by
      cases hb : p.2.1
      · exact absurd ⟨p, hm, hb⟩ he
      · rfl
    rw [lastE_none h1, lastE_none fun p hm => h1 p (hp.mem_iff.2 hm)]

theorem far_le {L : List Pc} : ∀ {n : Int}, n ≤ L.foldl (fun n q => max n (pend q)) n ∧ ∀ p ∈ L, pend p ≤ L.foldl (fun n q => max n (pend q)) n := by
  induction L with
  | nil => intro n; simp
  | cons q l ih =>
    intro n
    have := @ih (max n (pend q))
    simp only [List.foldl_cons, List.mem_cons]
    refine ⟨by omega, ?_⟩
    rintro p (rfl | hp)
    · omega
    · exact this.2 p hp

theorem far_lub {L : List Pc} : ∀ {n m : Int}, n ≤ m → (∀ p ∈ L, pend p ≤ m) → L.foldl (fun n q => max n (pend q)) n ≤ m := by
  induction L with
  | nil => intro n m h _; simpa using h
  | cons q l ih =>
    intro n m h hp
    simp only [List.foldl_cons]
    have := hp q (by simp)
    exact ih (by omega) fun p h => hp p (by simp [h])

theorem far_perm {L L' : List Pc} (hp : L.Perm L') : far L = far L' := by
  unfold far
  refine Int.le_antisymm (far_lub (far_le).1 fun p hm => (far_le (n := 0)).2 p (hp.mem_iff.1 hm)) (far_lub (far_le).1 fun p hm => (far_le (n := 0)).2 p (hp.mem_iff.2 hm))

theorem far_iff {L : List Pc} {m : Int} (h : 0 ≤ m) : far L ≤ m ↔ ∀ p ∈ L, pend p ≤ m :=
  ⟨fun hf p hm => Int.le_trans ((far_le (n := 0)).2 p hm) hf, fun hp => far_lub h hp⟩

theorem sum_perm {L L' : List Pc} (hp : L.Perm L') : sum L = sum L' := by
  induction hp with
  | nil => rfl
  | cons x _ ih => unfold sum at *; simp only [List.map_cons, List.sum_cons]; omega
  | swap x y l => unfold sum; simp only [List.map_cons, List.sum_cons]; omega
  | trans _ _ i1 i2 => omega

/-- May a part go with the others? -/
def fits (l : List Pc) (last : Int) (p : Pc) : Bool := if p.2.1 = true then decide (last < 0) || decide (pend p ≤ last) else decide (last < 0) && decide (far l ≤ pend p)

/-- The answer, and the parts then. -/
def add (L : List Pc) (p : Pc) : Int × List Pc :=
  if may p ≠ 0 then (may p, L) else if p ∈ L then (0, L) else if L.any (sh p) then (9, L) else if fits L (lastE L) p = false then (4, L) else (0, L ++ [p])

theorem lastE_neg {L : List Pc} (h : Good L) : lastE L < 0 ↔ ∀ p ∈ L, p.2.1 = true := by
  constructor
  · intro hl p hm
    cases hb : p.2.1
    · rw [lastE_some h.one hm hb] at hl
      have := (h.ok p hm).1
      unfold pend at hl
      omega
    · rfl
  · intro h1; rw [lastE_none h1]; omega

theorem may_ok {p : Pc} (h : may p = 0) : 0 ≤ p.1 ∧ pend p ≤ 65535 ∧ (p.2.1 = true → p.2.2 ≠ []) := by
  unfold may at h
  split at h
  · cases h
  · rename_i h1
    split at h
    · cases h
    · rename_i h2
      unfold pend
      refine ⟨by omega, by omega, fun hm he => h1 (.inr ⟨hm, .inl (by rw [he]; rfl)⟩)⟩

theorem Good.add {L : List Pc} (h : Good L) {p : Pc} (h1 : may p = 0) (h2 : L.any (sh p) = false) (h3 : fits L (lastE L) p = true) : Good (L ++ [p]) := by
  have hok := may_ok h1
  have hp0 : 0 ≤ pend p := by unfold pend; omega
  refine ⟨?_, ?_, ?_, ?_⟩
  · intro q hq
    rcases List.mem_append.1 hq with hq | hq
    · exact h.ok q hq
    · rw [List.mem_singleton.1 hq]; exact hok
  · rw [List.pairwise_append]
    refine ⟨h.apart, by simp, fun q hq r hr => ?_⟩
    rw [List.mem_singleton.1 hr, sh_comm]
    have := List.any_eq_false.1 h2 q hq
    simpa using this
  · intro q hq hqm r hr
    unfold fits at h3
    rcases List.mem_append.1 hq with hq | hq
    · have hl := lastE_some h.one hq hqm
      have hl0 : 0 ≤ pend q := by have := (h.ok q hq).1; unfold pend; omega
      rcases List.mem_append.1 hr with hr | hr
      · exact h.last q hq hqm r hr
      · rw [List.mem_singleton.1 hr]
        split at h3
        · simp only [Bool.or_eq_true, decide_eq_true_eq] at h3
          omega
        · simp only [Bool.and_eq_true, decide_eq_true_eq] at h3
          omega
    · have hq := List.mem_singleton.1 hq
      subst hq
      rw [hqm] at h3
      simp only [Bool.false_eq_true, if_false, Bool.and_eq_true, decide_eq_true_eq] at h3
      rcases List.mem_append.1 hr with hr | hr
      · exact (far_iff hp0).1 h3.2 r hr
      · rw [List.mem_singleton.1 hr]; exact Int.le_refl _
  · rw [List.pairwise_append]
    refine ⟨h.one, by simp, fun q hq r hr => ?_⟩
    rw [List.mem_singleton.1 hr]
    cases hb : p.2.1
    · unfold fits at h3
      rw [hb] at h3
      simp only [Bool.false_eq_true, if_false, Bool.and_eq_true, decide_eq_true_eq] at h3
      exact .inl ((lastE_neg h).1 h3.1 q hq)
    · exact .inr rfl

/-- In the order of their places. -/
def le (p q : Pc) : Prop := p.1 < q.1 ∨ (p.1 = q.1 ∧ p.2.2.length ≤ q.2.2.length)
def Chain (l : List Pc) : Prop := l.Pairwise fun p q => pend p ≤ q.1

theorem Good.chain {l : List Pc} (h : Good l) (hs : l.Pairwise le) : Chain l := by
  unfold Chain
  have h1 := h.apart
  have h2 := h.one
  have : ∀ (m : List Pc), (∀ p ∈ m, p ∈ l) → m.Pairwise le → (m.Pairwise fun p q => sh p q = false) → m.Pairwise fun p q => pend p ≤ q.1 := by
    intro m
    induction m with
    | nil => intro _ _ _; simp
    | cons p m ih =>
      intro hm h1 h2
      rw [List.pairwise_cons] at h1 h2 ⊢
      refine ⟨fun q hq => ?_, ih (fun p h => hm p (by simp [h])) h1.2 h2.2⟩
      have a1 := h1.1 q hq
      have a2 := h2.1 q hq
      unfold le at a1
      unfold sh at a2
      by_cases hp : p.2.2 = []
      · unfold pend; rw [hp]; simp only [List.length_nil]; omega
      · by_cases hq' : q.2.2 = []
        · have hqm : q.2.1 = false := by
            cases hb : q.2.1
            · rfl
            · exact absurd hq' ((h.ok q (hm q (by simp [hq]))).2.2 hb)
          have := h.last q (hm q (by simp [hq])) hqm p (hm p (by simp))
          unfold pend at this ⊢
          rw [hq'] at this
          simp only [List.length_nil] at this
          omega
        · have e1 : p.2.2.isEmpty = false := by cases hh : p.2.2 <;> simp_all
          have e2 : q.2.2.isEmpty = false := by cases hh : q.2.2 <;> simp_all
          have lq : 0 < q.2.2.length := List.length_pos_iff.2 hq'
          rw [e1, e2] at a2
          simp only [Bool.false_and, Bool.not_false, Bool.true_and, Bool.false_or, Bool.and_eq_false_iff, decide_eq_false_iff_not] at a2
          unfold pend at a2 ⊢
          omega
  exact this l (fun _ h => h) hs h1

/-- The spans that no part has. -/
def gaps : Int → List Pc → Int → List (Int × Int)
  | at_, [], last => if last > at_ then [(at_, last)] else []
  | at_, p :: l, last => (if p.1 > at_ then [(at_, p.1)] else []) ++ gaps (max at_ (pend p)) l last

/-- All bytes, in the order of their places. -/
def cat (l : List Pc) : List UInt8 := l.flatMap fun p => p.2.2

theorem take_snoc' {l : List Pc} {i : Nat} {x : Pc} (h : l[i]? = some x) : l.take (i + 1) = l.take i ++ [x] := by
  rw [List.take_add_one, h]; rfl

theorem cat_snoc (l : List Pc) (p : Pc) : cat (l ++ [p]) = cat l ++ p.2.2 := by
  unfold cat; rw [List.flatMap_append]; simp

theorem cat_len (l : List Pc) : ((cat l).length : Int) = sum l := by
  induction l with
  | nil => rfl
  | cons p l ih =>
    unfold cat sum at *
    simp only [List.flatMap_cons, List.length_append, List.map_cons, List.sum_cons]
    omega

theorem sum_nonneg (l : List Pc) : 0 ≤ sum l := by rw [← cat_len]; omega

theorem gaps_nil {l : List Pc} : ∀ {a : Int}, Chain l → (∀ p ∈ l, a ≤ p.1) → (last : Int) → (∀ p ∈ l, pend p ≤ last) → a ≤ last →
    (gaps a l last = [] ↔ sum l = last - a) ∧ sum l ≤ last - a := by
  induction l with
  | nil =>
    intro a _ _ last _ h
    unfold gaps
    split
    · refine ⟨⟨fun h => by simp at h, fun h => ?_⟩, by simp [sum]; omega⟩
      simp [sum] at h; omega
    · refine ⟨⟨fun _ => ?_, fun _ => rfl⟩, by simp [sum]; omega⟩
      simp [sum]; omega
  | cons p l ih =>
    intro a hc ha last hl h
    unfold Chain at hc
    rw [List.pairwise_cons] at hc
    have hp := ha p (by simp)
    have hpl := hl p (by simp)
    have hpe : p.1 ≤ pend p := by unfold pend; omega
    have hsum : sum (p :: l) = (p.2.2.length : Int) + sum l := by simp [sum]
    have hmax : max a (pend p) = pend p := by omega
    have := @ih (pend p) hc.2 hc.1 last (fun q hq => hl q (by simp [hq])) hpl
    unfold gaps
    rw [hmax, hsum]
    by_cases hgt : p.1 > a
    · rw [if_pos hgt]
      refine ⟨⟨fun h => by simp at h, fun h => ?_⟩, ?_⟩
      · have := this.2; unfold pend at *; omega
      · have := this.2; unfold pend at *; omega
    · rw [if_neg hgt, List.nil_append, this.1]
      refine ⟨⟨fun h => ?_, fun h => ?_⟩, ?_⟩
      · unfold pend at *; omega
      · unfold pend at *; omega
      · have := this.2; unfold pend at *; omega

/-- Where the bytes of a part stand when there are no gaps. -/
theorem cat_get {l : List Pc} : ∀ {a : Int} {last : Int}, Chain l → (∀ p ∈ l, a ≤ p.1) → gaps a l last = [] → ∀ p ∈ l, ∀ k, k < p.2.2.length → (cat l)[(p.1 - a).toNat + k]? = p.2.2[k]? := by
  induction l with
  | nil => intro a last _ _ _ p hp; simp at hp
  | cons q l ih =>
    intro a last hc ha hg p hp k hk
    unfold Chain at hc
    rw [List.pairwise_cons] at hc
    have hq := ha q (by simp)
    have hpe : q.1 ≤ pend q := by unfold pend; omega
    have hmax : max a (pend q) = pend q := by omega
    unfold gaps at hg
    rw [hmax, List.append_eq_nil_iff] at hg
    have hqa : q.1 = a := by
      have := hg.1
      split at this
      · simp at this
      · omega
    show (q.2.2 ++ cat l)[(p.1 - a).toNat + k]? = _
    rcases List.mem_cons.1 hp with rfl | hp
    · rw [List.getElem?_append_left (by omega)]
      congr 1; omega
    · have h1 := hc.1 p hp
      have := ih hc.2 hc.1 hg.2 p hp k hk
      rw [List.getElem?_append_right (by unfold pend at *; omega), ← this]
      congr 1; unfold pend at *; omega

/-- Each byte is one of a part. -/
theorem cat_of {l : List Pc} : ∀ {a : Int} {last : Int}, Chain l → (∀ p ∈ l, a ≤ p.1) → gaps a l last = [] → ∀ i, i < (cat l).length → ∃ p ∈ l, ∃ k, k < p.2.2.length ∧ (i : Int) = p.1 - a + k := by
  induction l with
  | nil => intro a last _ _ _ i hi; simp [cat] at hi
  | cons q l ih =>
    intro a last hc ha hg i hi
    unfold Chain at hc
    rw [List.pairwise_cons] at hc
    have hq := ha q (by simp)
    have hpe : q.1 ≤ pend q := by unfold pend; omega
    have hmax : max a (pend q) = pend q := by omega
    unfold gaps at hg
    rw [hmax, List.append_eq_nil_iff] at hg
    have hqa : q.1 = a := by
      have := hg.1
      split at this
      · simp at this
      · omega
    have hi' : i < q.2.2.length + (cat l).length := by
      have : (cat (q :: l)).length = q.2.2.length + (cat l).length := by simp [cat]
      omega
    by_cases hlt : i < q.2.2.length
    · exact ⟨q, by simp, i, hlt, by omega⟩
    · obtain ⟨p, hp, k, hk, he⟩ := ih hc.2 hc.1 hg.2 (i - q.2.2.length) (by omega)
      exact ⟨p, by simp [hp], k, hk, by unfold pend at he; omega⟩

end Gp.Hol
