/- Timers in slots by when they go off: no program in sight. -/
namespace Gp.Wh

structure Tm where
  id : Int
  a : Nat
  tn : Int
deriving DecidableEq

/-- The level of a time, seen from now. -/
def Lv (now a n : Nat) : Prop := now / 64 ^ (n + 1) = a / 64 ^ (n + 1) ∧ (n = 0 ∨ now / 64 ^ n ≠ a / 64 ^ n)
def dg (a n : Nat) : Nat := a / 64 ^ n % 64

theorem div_succ (a n : Nat) : a / 64 ^ (n + 1) = a / 64 ^ n / 64 := by rw [Nat.pow_succ, Nat.div_div_eq_div_mul]

theorem div_up {x y n m : Nat} (h : x / 64 ^ n = y / 64 ^ n) (hm : n ≤ m) : x / 64 ^ m = y / 64 ^ m := by
  obtain ⟨k, rfl⟩ := Nat.exists_eq_add_of_le hm
  rw [Nat.pow_add, ← Nat.div_div_eq_div_mul, ← Nat.div_div_eq_div_mul, h]

theorem Lv.uniq {now a n m : Nat} (h : Lv now a n) (g : Lv now a m) : n = m := by
  rcases Nat.lt_trichotomy n m with hl | hl | hl
  · exact absurd (div_up h.1 hl) (by rcases g.2 with e | e; omega; exact e)
  · exact hl
  · exact absurd (div_up g.1 hl) (by rcases h.2 with e | e; omega; exact e)

theorem Lv.self (now : Nat) : Lv now now 0 := ⟨rfl, .inl rfl⟩

theorem pow_mono {a n : Nat} (h : a ≤ 2 ^ 40) (hn : 7 ≤ n) : a / 64 ^ n = 0 := by
  refine Nat.div_eq_of_lt (Nat.lt_of_lt_of_le ?_ (Nat.pow_le_pow_right (by omega) hn))
  omega

theorem Lv.lt {now a n : Nat} (h : Lv now a n) (h1 : now ≤ 2 ^ 40) (h2 : a ≤ 2 ^ 40) : n < 7 := by
  rcases h.2 with e | e
  · omega
  · refine Classical.byContradiction fun hn => e ?_
    rw [pow_mono h1 (by omega), pow_mono h2 (by omega)]

/-- Higher up, and the digit there. -/
theorem Lv.dig {now a n : Nat} (h : Lv now a n) (hle : now ≤ a) : dg now n ≤ dg a n ∧ (0 < n → dg now n < dg a n) := by
  have h1 := h.1
  rw [div_succ, div_succ] at h1
  have h2 : now / 64 ^ n ≤ a / 64 ^ n := Nat.div_le_div_right hle
  unfold dg
  refine ⟨by omega, fun hn => ?_⟩
  rcases h.2 with e | e
  · omega
  · omega

theorem le_of_div {x y n : Nat} (h : x / 64 ^ n < y / 64 ^ n) : x < y := by
  refine Classical.byContradiction fun hx => ?_
  have := Nat.div_le_div_right (c := 64 ^ n) (Nat.le_of_not_lt hx)
  omega

/-- One that is on a lower level goes off first. -/
theorem Lv.first {now a b n m : Nat} (h : Lv now a n) (g : Lv now b m) (hn : n < m) (hb : now ≤ b) : a < b := by
  have h1 := div_up h.1 (show n + 1 ≤ m by omega)
  have h2 := (g.dig hb).2 (by omega)
  have g1 := g.1
  rw [div_succ, div_succ] at g1
  unfold dg at h2
  exact le_of_div (n := m) (by omega)

/-- And one in a lower slot. -/
theorem Lv.slot {now a b n : Nat} (h : Lv now a n) (g : Lv now b n) (hd : dg a n < dg b n) : a < b := by
  have h1 := h.1
  have g1 := g.1
  rw [div_succ, div_succ] at h1 g1
  unfold dg at hd
  exact le_of_div (n := n) (by omega)

abbrev Fs := Nat → Nat → List Tm
abbrev Ps := Int → Option Tm
def updF (F : Fs) (n k : Nat) (l : List Tm) : Fs := fun n' k' => if n' = n ∧ k' = k then l else F n' k'
def updP (P : Ps) (id : Int) (o : Option Tm) : Ps := fun id' => if id' = id then o else P id'

structure WI (now : Nat) (P : Ps) (F : Fs) : Prop where
  pl : ∀ id t, P id = some t → t.id = id ∧ now ≤ t.a ∧ t.a ≤ 2 ^ 40
  nw : now ≤ 2 ^ 40
  mem : ∀ n k t, n < 7 → k < 64 → (t ∈ F n k ↔ P t.id = some t ∧ Lv now t.a n ∧ dg t.a n = k)
  nd : ∀ n k, n < 7 → k < 64 → ((F n k).map Tm.id).Nodup

variable {now : Nat} {P : Ps} {F : Fs}

theorem dg_lt (a n : Nat) : dg a n < 64 := Nat.mod_lt _ (by omega)

/-- There is a level. -/
theorem lv_ex (now a : Nat) (h1 : now ≤ 2 ^ 40) (h2 : a ≤ 2 ^ 40) : ∃ n, n < 7 ∧ Lv now a n := by
  have : ∀ m, now / 64 ^ m = a / 64 ^ m → ∃ n, n ≤ m ∧ Lv now a n := by
    intro m
    induction m with
    | zero => intro h; exact ⟨0, Nat.le_refl _, div_up h (by omega), .inl rfl⟩
    | succ m ih =>
      intro h
      by_cases e : now / 64 ^ m = a / 64 ^ m
      · obtain ⟨n, hn, hl⟩ := ih e
        exact ⟨n, by omega, hl⟩
      · exact ⟨m, by omega, h, .inr e⟩
  obtain ⟨n, _, hl⟩ := this 7 (by rw [pow_mono h1 (by omega), pow_mono h2 (by omega)])
  exact ⟨n, hl.lt h1 h2, hl⟩

theorem WI.at_ (h : WI now P F) {id : Int} {t : Tm} (ht : P id = some t) : ∃ n, n < 7 ∧ Lv now t.a n ∧ t ∈ F n (dg t.a n) := by
  obtain ⟨g1, g2, g3⟩ := h.pl id t ht
  obtain ⟨n, hn, hl⟩ := lv_ex now t.a h.nw g3
  exact ⟨n, hn, hl, (h.mem n _ t hn (dg_lt _ _)).2 ⟨by rw [g1]; exact ht, hl, rfl⟩⟩

theorem WI.take (h : WI now P F) {id : Int} {t : Tm} {n : Nat} (ht : P id = some t) (hl : Lv now t.a n) : WI now (updP P id none) (updF F n (dg t.a n) ((F n (dg t.a n)).filter fun x => !(x.id == id))) := by
  obtain ⟨g1, g2, g3⟩ := h.pl id t ht
  refine ⟨fun id' u hu => ?_, h.nw, fun n' k' u hn hk => ?_, fun n' k' hn hk => ?_⟩
  · unfold updP at hu
    split at hu
    · cases hu
    · exact h.pl id' u hu
  · unfold updF updP
    split
    · rename_i e
      obtain ⟨rfl, rfl⟩ := e
      rw [List.mem_filter, h.mem n' _ u hn hk]
      by_cases e : u.id = id
      · rw [if_pos e]; simp [e]
      · rw [if_neg e]; simp [e]
    · rename_i e
      rw [h.mem n' k' u hn hk]
      by_cases eu : u.id = id
      · rw [if_pos eu]
        constructor
        · rintro ⟨h1, h2, h3⟩
          rw [eu, ht] at h1
          cases h1
          exact absurd ⟨h2.uniq hl, by rw [← h3, h2.uniq hl]⟩ e
        · rintro ⟨h1, _⟩; cases h1
      · rw [if_neg eu]
  · unfold updF
    split
    · rename_i e
      obtain ⟨rfl, rfl⟩ := e
      exact (h.nd n' _ hn hk).sublist (List.filter_sublist.map _)
    · exact h.nd n' k' hn hk

theorem WI.put (h : WI now P F) {t : Tm} {n : Nat} (hp : P t.id = none) (h1 : now ≤ t.a) (h2 : t.a ≤ 2 ^ 40) (hl : Lv now t.a n) : WI now (updP P t.id (some t)) (updF F n (dg t.a n) (F n (dg t.a n) ++ [t])) := by
  refine ⟨fun id' u hu => ?_, h.nw, fun n' k' u hn hk => ?_, fun n' k' hn hk => ?_⟩
  · unfold updP at hu
    split at hu
    · rename_i e; cases hu; exact ⟨e.symm, h1, h2⟩
    · exact h.pl id' u hu
  · unfold updF updP
    split
    · rename_i e
      obtain ⟨rfl, rfl⟩ := e
      rw [List.mem_append, List.mem_singleton, h.mem n' _ u hn hk]
      by_cases e : u.id = t.id
      · rw [if_pos e]
        constructor
        · rintro (⟨g1, _⟩ | rfl)
          · rw [e, hp] at g1; cases g1
          · exact ⟨rfl, hl, rfl⟩
        · rintro ⟨g1, _⟩; cases g1; exact .inr rfl
      · rw [if_neg e]
        constructor
        · rintro (g | rfl)
          · exact g
          · exact absurd rfl e
        · exact .inl
    · rename_i e
      rw [h.mem n' k' u hn hk]
      by_cases eu : u.id = t.id
      · rw [if_pos eu]
        constructor
        · rintro ⟨g1, _⟩; rw [eu, hp] at g1; cases g1
        · rintro ⟨g1, g2, g3⟩; cases g1
          exact absurd ⟨g2.uniq hl, by rw [← g3, g2.uniq hl]⟩ e
      · rw [if_neg eu]
  · unfold updF
    split
    · rename_i e
      obtain ⟨rfl, rfl⟩ := e
      rw [List.map_append, List.nodup_append]
      refine ⟨h.nd n' _ hn hk, by simp, fun x hx y hy e => ?_⟩
      simp only [List.map_cons, List.map_nil, List.mem_singleton] at hy
      subst hy; subst e
      obtain ⟨u, hu, hx⟩ := List.mem_map.1 hx
      have := ((h.mem n' _ u hn hk).1 hu).1
      rw [hx, hp] at this; cases this
    · exact h.nd n' k' hn hk

/-- The first slot in which there is one has the first that goes off. -/
theorem WI.next (h : WI now P F) {n k : Nat} {t : Tm} (hn : n < 7) (hk : k < 64) (e1 : ∀ n' k', n' < n → k' < 64 → dg now n' ≤ k' → F n' k' = []) (e2 : ∀ k', k' < k → dg now n ≤ k' → F n k' = [])
    (ht : t ∈ F n k) (hm : ∀ u ∈ F n k, t.a ≤ u.a) : P t.id = some t ∧ now ≤ t.a ∧ ∀ id u, P id = some u → t.a ≤ u.a := by
  obtain ⟨g1, g2, g3⟩ := (h.mem n k t hn hk).1 ht
  refine ⟨g1, (h.pl _ _ g1).2.1, fun id u hu => ?_⟩
  obtain ⟨_, p2, p3⟩ := h.pl id u hu
  obtain ⟨m, hm7, hl, hmem⟩ := h.at_ hu
  rcases Nat.lt_trichotomy m n with hmn | rfl | hmn
  · have := e1 m (dg u.a m) hmn (dg_lt _ _) (hl.dig p2).1
    rw [this] at hmem; simp at hmem
  · rcases Nat.lt_trichotomy (dg u.a m) k with hd | hd | hd
    · have := e2 (dg u.a m) hd (hl.dig p2).1
      rw [this] at hmem; simp at hmem
    · rw [hd] at hmem; exact hm u hmem
    · exact Nat.le_of_lt (g2.slot hl (by rw [g3]; exact hd))
  · exact Nat.le_of_lt (g2.first hl hmn p2)

theorem WI.none (h : WI now P F) (e1 : ∀ n' k', n' < 7 → k' < 64 → dg now n' ≤ k' → F n' k' = []) (id : Int) : P id = none := by
  cases hp : P id with
  | none => rfl
  | some u =>
    obtain ⟨m, hm7, hl, hmem⟩ := h.at_ hp
    have := e1 m (dg u.a m) hm7 (dg_lt _ _) (hl.dig (h.pl _ _ hp).2.1).1
    rw [this] at hmem; simp at hmem

/-! ### Time passes -/
/-- Below the level of a time that is no later than any, there is nothing. -/
theorem WI.low (h : WI now P F) {to m : Nat} (h1 : now ≤ to) (hto : ∀ id u, P id = some u → to ≤ u.a) (hm : Lv now to m) {n k : Nat} (hn : n < m) (hn7 : n < 7) (hk : k < 64) : F n k = [] := by
  cases hf : F n k with
  | nil => rfl
  | cons u r =>
    obtain ⟨g1, g2, _⟩ := (h.mem n k u hn7 hk).1 (by rw [hf]; simp)
    have := g2.first hm hn h1
    have := hto _ _ g1
    omega

/-- Those that stay where they are. -/
def rest (P : Ps) (M : List Tm) : Ps := fun id => match P id with | some t => if t ∈ M then none else some t | none => none

theorem rest_some {P : Ps} {M : List Tm} {id : Int} {t : Tm} : rest P M id = some t ↔ P id = some t ∧ t ∉ M := by
  unfold rest
  cases hp : P id with
  | none => simp
  | some u =>
    by_cases hu : u ∈ M
    · simp only [hu, if_true]
      constructor
      · intro h; cases h
      · rintro ⟨h, h2⟩; cases h; exact absurd hu h2
    · simp only [hu, if_false, Option.some.injEq]
      constructor
      · rintro rfl; exact ⟨rfl, hu⟩
      · rintro ⟨h, _⟩; exact h

theorem rest_nil (P : Ps) : rest P [] = P := by
  funext id
  unfold rest
  cases P id <;> simp

theorem WI.turn (h : WI now P F) {to m : Nat} (h1 : now ≤ to) (h2 : to ≤ 2 ^ 40) (hto : ∀ id u, P id = some u → to ≤ u.a) (hm : Lv now to m) :
    WI to (rest P (if m = 0 then [] else F m (dg to m))) (if m = 0 then F else updF F m (dg to m) []) := by
  have m7 := hm.lt h.nw h2
  have low := fun {n k : Nat} => h.low (n := n) (k := k) h1 hto hm
  -- the level, seen from the later time
  have lvl : ∀ u n, (∃ id, P id = some u) → Lv now u.a n → n < 7 → (n < m → False) ∧ (m < n → Lv to u.a n) ∧ (n = m → (m = 0 ∨ dg u.a m ≠ dg to m) → Lv to u.a n) := by
    rintro u n ⟨id, hu⟩ hl hn7
    refine ⟨fun hlt => ?_, fun hlt => ?_, fun e hd => ?_⟩
    · have := (h.mem n (dg u.a n) u hn7 (dg_lt _ _)).2 ⟨by rw [(h.pl _ _ hu).1]; exact hu, hl, rfl⟩
      rw [low hlt hn7 (dg_lt _ _)] at this
      simp at this
    · refine ⟨?_, .inr ?_⟩
      · rw [← hl.1]; exact (div_up hm.1 (by omega)).symm
      · rw [← div_up hm.1 (show m + 1 ≤ n by omega)]
        rcases hl.2 with e | e
        · omega
        · exact e
    · subst e
      refine ⟨?_, ?_⟩
      · rw [← hl.1]; exact hm.1.symm
      · rcases hd with e | e
        · exact .inl e
        · refine .inr fun he => e ?_
          unfold dg; rw [he]
  have back : ∀ u n, (∃ id, P id = some u) → Lv to u.a n → n < 7 → (m < n → Lv now u.a n) ∧ (n = m → m = 0 ∨ Lv now u.a m) := by
    rintro u n ⟨id, hu⟩ hl hn7
    obtain ⟨k, hk7, hk⟩ := lv_ex now u.a h.nw (h.pl _ _ hu).2.2
    have := lvl u k ⟨id, hu⟩ hk hk7
    refine ⟨fun hlt => ?_, fun e => ?_⟩
    · rcases Nat.lt_trichotomy k m with hkm | hkm | hkm
      · exact (this.1 hkm).elim
      · by_cases hz : m = 0 ∨ dg u.a m ≠ dg to m
        · have := (this.2.2 hkm hz).uniq hl; omega
        · exfalso
          simp only [not_or, Classical.not_not] at hz
          have e1 := hk.1
          rw [hkm] at e1
          have e2 : to / 64 ^ m = u.a / 64 ^ m := by
            have e3 := hm.1
            rw [div_succ, div_succ] at e1 e3
            unfold dg at hz
            omega
          have := div_up e2 (show m ≤ n by omega)
          rcases hl.2 with e | e
          · omega
          · exact e this
      · have := (this.2.1 hkm).uniq hl; rw [← this]; exact hk
    · subst e
      rcases Nat.lt_trichotomy k n with hkm | hkm | hkm
      · exact (this.1 hkm).elim
      · subst hkm; exact .inr hk
      · have := (this.2.1 hkm).uniq hl; omega
  refine ⟨fun id u hu => ?_, h2, fun n k u hn hk => ?_, fun n k hn hk => ?_⟩
  · obtain ⟨g1, _⟩ := rest_some.1 hu
    exact ⟨(h.pl id u g1).1, hto id u g1, (h.pl id u g1).2.2⟩
  · rw [rest_some]
    by_cases hz : m = 0
    · rw [if_pos hz, if_pos hz, h.mem n k u hn hk]
      constructor
      · rintro ⟨g1, g2, g3⟩
        refine ⟨⟨g1, by simp⟩, ?_, g3⟩
        rcases Nat.lt_trichotomy n m with hnm | hnm | hnm
        · omega
        · exact (lvl u n ⟨_, g1⟩ g2 hn).2.2 hnm (.inl hz)
        · exact (lvl u n ⟨_, g1⟩ g2 hn).2.1 hnm
      · rintro ⟨⟨g1, _⟩, g2, g3⟩
        refine ⟨g1, ?_, g3⟩
        rcases Nat.lt_trichotomy n m with hnm | hnm | hnm
        · omega
        · subst hnm; subst hz
          refine ⟨?_, .inl rfl⟩
          rw [hm.1]; exact g2.1
        · exact (back u n ⟨_, g1⟩ g2 hn).1 hnm
    · rw [if_neg hz, if_neg hz]
      have inM : ∀ u, u ∈ F m (dg to m) ↔ P u.id = some u ∧ Lv now u.a m ∧ dg u.a m = dg to m := fun u => h.mem m _ u m7 (dg_lt _ _)
      unfold updF
      split
      · rename_i e
        obtain ⟨rfl, rfl⟩ := e
        constructor
        · intro hx; simp at hx
        · rintro ⟨⟨g1, g2⟩, g3, g4⟩
          exfalso
          rcases (back u n ⟨_, g1⟩ g3 hn).2 rfl with e | e
          · exact hz e
          · exact g2 ((inM u).2 ⟨g1, e, g4⟩)
      · rename_i hne
        rw [h.mem n k u hn hk]
        constructor
        · rintro ⟨g1, g2, g3⟩
          have hnot : u ∉ F m (dg to m) := fun hx => by
            obtain ⟨_, q2, q3⟩ := (inM u).1 hx
            have := g2.uniq q2
            exact hne ⟨this, by rw [← g3, this, q3]⟩
          refine ⟨⟨g1, hnot⟩, ?_, g3⟩
          rcases Nat.lt_trichotomy n m with hnm | hnm | hnm
          · exact ((lvl u n ⟨_, g1⟩ g2 hn).1 hnm).elim
          · refine (lvl u n ⟨_, g1⟩ g2 hn).2.2 hnm (.inr fun e => hne ⟨hnm, ?_⟩)
            rw [← g3, hnm, e]
          · exact (lvl u n ⟨_, g1⟩ g2 hn).2.1 hnm
        · rintro ⟨⟨g1, g2⟩, g3, g4⟩
          refine ⟨g1, ?_, g4⟩
          rcases Nat.lt_trichotomy n m with hnm | hnm | hnm
          · exfalso
            obtain ⟨j, hj7, hj⟩ := lv_ex now u.a h.nw (h.pl _ _ g1).2.2
            have := lvl u j ⟨_, g1⟩ hj hj7
            rcases Nat.lt_trichotomy j m with q | q | q
            · exact this.1 q
            · by_cases hd : dg u.a m = dg to m
              · exact g2 ((inM u).2 ⟨g1, q ▸ hj, hd⟩)
              · have := (this.2.2 q (.inr hd)).uniq g3; omega
            · have := (this.2.1 q).uniq g3; omega
          · rcases (back u n ⟨_, g1⟩ g3 hn).2 hnm with e | e
            · exact absurd e hz
            · rw [hnm]; exact e
          · exact (back u n ⟨_, g1⟩ g3 hn).1 hnm
  · by_cases hz : m = 0
    · rw [if_pos hz]; exact h.nd n k hn hk
    · rw [if_neg hz]
      unfold updF
      split
      · simp
      · exact h.nd n k hn hk

/-- Those that were moved come back one by one. -/
theorem rest_cons {P : Ps} {t : Tm} {M : List Tm} (hp : P t.id = some t) (hid : ∀ id u, P id = some u → u.id = id) (ht : t ∉ M) : updP (rest P (t :: M)) t.id (some t) = rest P M := by
  funext id
  unfold updP
  split
  · rename_i e; subst e
    exact (rest_some.2 ⟨hp, ht⟩).symm
  · rename_i e
    unfold rest
    cases hu : P id with
    | none => rfl
    | some u =>
      have : u ≠ t := fun h => e (by rw [← hid id u hu, h])
      simp [this]

/-! ### Who goes off -/
theorem WI.due_mem (h : WI now P F) {t : Tm} : t ∈ F 0 (dg now 0) ↔ P t.id = some t ∧ t.a = now := by
  rw [h.mem 0 _ t (by omega) (dg_lt _ _)]
  constructor
  · rintro ⟨h1, h2, h3⟩
    refine ⟨h1, ?_⟩
    have := h2.1
    unfold dg at h3
    simp only [Nat.pow_zero, Nat.div_one, Nat.zero_add, Nat.pow_one] at h3 this
    omega
  · rintro ⟨h1, h2⟩
    rw [h2]
    exact ⟨h1, Lv.self now, rfl⟩

theorem WI.due (h : WI now P F) : WI now (rest P (F 0 (dg now 0))) (updF F 0 (dg now 0) []) := by
  refine ⟨fun id u hu => h.pl id u (rest_some.1 hu).1, h.nw, fun n k u hn hk => ?_, fun n k hn hk => ?_⟩
  · rw [rest_some]
    unfold updF
    split
    · rename_i e
      obtain ⟨rfl, rfl⟩ := e
      constructor
      · intro hx; simp at hx
      · rintro ⟨⟨g1, g2⟩, g3, g4⟩
        exact (g2 ((h.mem 0 _ u hn hk).2 ⟨g1, g3, g4⟩)).elim
    · rename_i hne
      rw [h.mem n k u hn hk]
      constructor
      · rintro ⟨g1, g2, g3⟩
        refine ⟨⟨g1, fun hx => ?_⟩, g2, g3⟩
        obtain ⟨_, q2, q3⟩ := (h.mem 0 _ u (by omega) (dg_lt _ _)).1 hx
        have := g2.uniq q2
        exact hne ⟨this, by rw [← g3, this, q3]⟩
      · rintro ⟨⟨g1, _⟩, g2, g3⟩
        exact ⟨g1, g2, g3⟩
  · unfold updF
    split
    · simp
    · exact h.nd n k hn hk
end Gp.Wh
