import Derived.Test.YtmcdmhegjhcjhaaGreatRn5
/- A machine that runs closed code over named blocks: reading and writing. -/
namespace Gp.Rn
open Go Gp

/-- What comes behind an operation. -/
def KK (lp : Bool) (w0 : World) (ρ : Nm) (s : St) (w : World) (k : AV → St → Bool) (K : Value → World → Prop) : Prop :=
  ∀ v s', k v s' = true → ∀ ρ' w' v', Le ρ ρ' → Rel w0 ρ' s' w' → VR ρ' v v' → (lp = true → Lp ρ s w s' w') → K v' w'

section
variable {lp : Bool} {w0 w : World} {ρ : Nm} {s : St} {k : AV → St → Bool} {K : Value → World → Prop}

theorem KK.pure (hK : KK lp w0 ρ s w k K) (hr : Rel w0 ρ s w) {v : AV} {v' : Value} (h : k v s = true) (hv : VR ρ v v') : K v' w := hK v s h ρ w v' (Le.refl ρ) hr hv fun _ => Lp.refl ρ s w

/-- One more step in the same memory. -/
theorem KK.of (hK : KK lp w0 ρ s w k K) {v : AV} {s' : St} {w' : World} {ρ' : Nm} {v' : Value} (h : k v s' = true) (hl : Le ρ ρ') (hr : Rel w0 ρ' s' w') (hv : VR ρ' v v') (hp : Lp ρ s w s' w') : K v' w' := hK v s' h ρ' w' v' hl hr hv fun _ => hp

theorem takeE_ok {α : Type} : ∀ {n : Nat} {l r : List α}, takeE n l = some r → r = l.take n ∧ n ≤ l.length
  | 0, l, r, h => by cases h; simp
  | n + 1, [], r, h => by cases h
  | n + 1, x :: l, r, h => by
    unfold takeE at h
    split at h
    · rename_i q hq
      cases h
      obtain ⟨rfl, h2⟩ := takeE_ok hq
      exact ⟨rfl, by simp; omega⟩
    · cases h

theorem Rel.row (hr : Rel w0 ρ s w) {i : Nat} {x : Loc} (hx : ρ i = some x) {cs : List AV} {z : Nat} {p : Bool} (hg : s.h.get i = some (.row cs z p)) : ∃ vs pad, VsR ρ cs vs ∧ RowF w x.b (vs ++ pad) ∧ cond p (x.c * z = vs.length + pad.length) (pad = []) := hr.br i _ x hg hx

theorem rdC_ok (hr : Rel w0 ρ s w) {i o n : Nat} {x : Loc} (hx : ρ i = some x) {vs : List AV} (h : rdC s i o n = some vs) : ∃ us, VsR ρ vs us ∧ us.length = n ∧ Cells w ⟨x.b, o, none⟩ us ∧ x.b < w.heap.size := by
  unfold rdC at h
  split at h
  · rename_i cs z p hg
    obtain ⟨vs', pad, h1, h2, _⟩ := hr.row hx hg
    obtain ⟨rfl, h3⟩ := takeE_ok h
    have hl := h1.len
    rw [List.length_drop] at h3
    refine ⟨(vs'.drop o).take n, (h1.drop o).take n, by rw [List.length_take, List.length_drop]; omega, fun j hj => ?_, h2.lt⟩
    rw [List.length_take, List.length_drop] at hj
    rw [add_mk, h2.cell, List.getElem?_append_left (by omega), List.getElem?_take_of_lt (by omega), List.getElem?_drop]
  · cases h

theorem LdN_of {φ : List Value → Prop} {a : Addr} : ∀ (ks : List Kind) (vs : List AV) (us : List Value) (i : Nat), VsR ρ vs us → ksOk ks vs = true → (∀ j, j < us.length → w.cell? (a.add (i + j)) = us[j]?) → φ us → LdN ks w a i φ := by
  intro ks
  induction ks generalizing φ with
  | nil =>
    intro vs us i h h1 _ hp
    cases vs with
    | nil => cases h; exact hp
    | cons _ _ => cases h1
  | cons k ks ih =>
    intro vs us i h h1 hc hp
    cases h with
    | nil => cases h1
    | cons g g' =>
      rename_i b v bs us
      unfold ksOk at h1
      rw [Bool.and_eq_true] at h1
      obtain ⟨y, rfl⟩ := kOk_ok g h1.1
      refine ⟨y, by have := hc 0 (by simp); simpa using this, ih bs us (i + 1) g' h1.2 (fun j hj => ?_) hp⟩
      have := hc (j + 1) (by simpa using hj)
      rw [show i + 1 + j = i + (j + 1) by omega]
      simpa using this

theorem ldC_ok {P : Program} {t : TypeId} {x : AV} {x' : Value} (h : ldC P t x s k = true) (hr : Rel w0 ρ s w) (hx : VR ρ x x') (hK : KK lp w0 ρ s w k K) :
    (match (generalizing := false) x', shapeOf P t, sizeOf? P t with
    | .pointer (some a), some sh, some n => cond (Nat.beq sh.cells n) (sh.ld w a fun v => K v w) False
    | _, _, _ => False) := by
  unfold ldC at h
  split at h
  · rename_i i a kd n h1 h2
    cases hx with
    | ptr hx =>
    obtain ⟨hb, h⟩ := cond_ok h
    rw [h1, h2]
    simp only [Shape.cells, hb, cond_true, Shape.ld]
    split at h
    · rename_i v hv
      obtain ⟨h3, h⟩ := cond_ok h
      obtain ⟨us, g1, g2, g3, _⟩ := rdC_ok hr hx hv
      cases g1 with
      | cons g g' =>
        cases g'
        obtain ⟨y, rfl⟩ := kOk_ok g h3
        refine ⟨y, ?_, hK.pure hr h g⟩
        have := g3 0 (by simp)
        rwa [add_mk] at this
    · cases h
  · rename_i i a ks n h1 h2
    cases hx with
    | ptr hx =>
    obtain ⟨hb, h⟩ := cond_ok h
    rw [h1, h2]
    simp only [Shape.cells, hb, cond_true, Shape.ld]
    split at h
    · rename_i vs hv
      obtain ⟨h3, h⟩ := cond_ok h
      obtain ⟨us, g1, g2, g3, _⟩ := rdC_ok hr hx hv
      exact LdN_of ks vs us 0 g1 h3 (fun j hj => by rw [Nat.zero_add]; exact g3 j hj) (hK.pure hr h (.agg g1))
    · cases h
  · cases h

theorem splK_ok : ∀ {cs : List AV} {o : Nat} {vs : List AV} {k : List AV → Bool}, splK cs o vs k = true → ∃ cs', k cs' = true ∧ ((vs = [] ∧ cs' = cs) ∨ (o + vs.length ≤ cs.length ∧ cs' = cs.take o ++ vs ++ cs.drop (o + vs.length)))
  | [], o, vs, k, h => by
    unfold splK at h
    cases vs with
    | nil => exact ⟨[], h, .inl ⟨rfl, rfl⟩⟩
    | cons _ _ => cases h
  | c :: cs, o, vs, k, h => by
    unfold splK at h
    cases o with
    | succ m =>
      obtain ⟨cs', h1, h2⟩ := splK_ok (cs := cs) (o := m) h
      refine ⟨c :: cs', h1, ?_⟩
      rcases h2 with ⟨rfl, rfl⟩ | ⟨h2, rfl⟩
      · exact .inl ⟨rfl, rfl⟩
      · refine .inr ⟨by simp; omega, ?_⟩
        rw [show m + 1 + vs.length = (m + vs.length) + 1 by omega]
        simp
    | zero =>
      cases vs with
      | nil => exact ⟨_, h, .inl ⟨rfl, rfl⟩⟩
      | cons v vs =>
        obtain ⟨cs', h1, h2⟩ := splK_ok (cs := cs) (o := 0) h
        refine ⟨v :: cs', h1, ?_⟩
        rcases h2 with ⟨rfl, rfl⟩ | ⟨h2, rfl⟩
        · exact .inr ⟨by simp, by simp⟩
        · refine .inr ⟨by simp at h2 ⊢; omega, ?_⟩
          simp

/-- Cells are written. -/
theorem wrC_ok (hr : Rel w0 ρ s w) {i o : Nat} {x : Loc} (hx : ρ i = some x) {vs : List AV} {us : List Value} (hv : VsR ρ vs us) {k : St → Bool} (h : wrC s i o vs k = true) :
    ∃ s', k s' = true ∧ Rel w0 ρ s' (setCells w ⟨x.b, o, none⟩ us 0) ∧ Lp ρ s w s' (setCells w ⟨x.b, o, none⟩ us 0) ∧ Writable w ⟨x.b, o, none⟩ us.length ∧ (∀ v ∈ us, isOne v = true) ∧ ∀ K : World → Prop, K (setCells w ⟨x.b, o, none⟩ us 0) → StN us w ⟨x.b, o, none⟩ 0 K := by
  unfold wrC at h
  obtain ⟨h1, h⟩ := cond_ok h
  have hone := allOne_ok hv h1
  split at h
  · rename_i cs z p hg
    obtain ⟨vs', pad, g1, g2, g3⟩ := hr.row hx hg
    obtain ⟨cs', h, h2⟩ := splK_ok h
    obtain ⟨s', h, q1, q2⟩ := putB_ok h
    have hl := g1.len
    have hvl := hv.len
    refine ⟨s', h, ?_⟩
    rcases h2 with ⟨rfl, rfl⟩ | ⟨h2, rfl⟩
    · cases hv
      have e : setCells w ⟨x.b, o, none⟩ [] 0 = w := rfl
      rw [e]
      exact ⟨hr.chg hx hg trivial q1 q2 (Fr8.refl _ _) ⟨vs', pad, g1, g2, g3⟩, hr.chgL hx hg trivial trivial q2 (Fr8.refl _ _), fun j hj => by simp at hj, hone, fun K hK => hK⟩
    · obtain ⟨r1, f1, _⟩ := setCells_rowF us w (vs' ++ pad) o 0 g2 (by simp; omega)
      rw [Nat.add_zero, List.take_append_of_le_length (by omega), List.drop_append_of_le_length (by omega), ← List.append_assoc] at r1
      refine ⟨hr.chg hx hg trivial q1 q2 (f1 _ rfl) ⟨vs'.take o ++ us ++ vs'.drop (o + us.length), pad, ?_, r1, ?_⟩, hr.chgL hx hg trivial trivial q2 (f1 _ rfl), fun j hj => ?_, hone, fun K hK => StN_rowF us w _ o 0 g2 hone (by simp; omega) hK⟩
      · rw [hvl]
        exact ((g1.take o).app hv).app (g1.drop _)
      · have hlen : (vs'.take o ++ us ++ vs'.drop (o + us.length)).length = vs'.length := by simp; omega
        rw [hlen]; exact g3
      · rw [add_mk, g2.cell, g2.frozen (by simp; omega)]
        simp
        omega
  · cases h

theorem stC_ok {P : Program} {t : TypeId} {x y : AV} {x' y' : Value} (h : stC P t x y s k = true) (hr : Rel w0 ρ s w) (hx : VR ρ x x') (hy : VR ρ y y') (hK : KK lp w0 ρ s w k K) :
    (match (generalizing := false) x', shapeOf P t, sizeOf? P t with
    | .pointer (some a), some (.one _), some n => cond (Nat.beq n 1) (Gp.St w a y' fun w' => K undef w') False
    | .pointer (some a), some (.agg _), some n => match (generalizing := false) y' with
      | .agg cs => cond (Nat.beq cs.toList.length n) (StN cs.toList w a 0 fun w' => K undef w') False
      | _ => False
    | _, _, _ => False) := by
  unfold stC at h
  split at h
  · rename_i i a kd n h1 h2
    cases hx with
    | ptr hx =>
    obtain ⟨hb, h⟩ := cond_ok h
    rw [h1, h2]
    simp only [hb, cond_true]
    obtain ⟨s', h, r1, l1, w1, o1, st⟩ := wrC_ok hr hx (.cons hy .nil) h
    have := st (fun w' => K undef w') (hK.of h (Le.refl ρ) r1 (.tup .nil) l1)
    have e : ∀ b, StN [y'] w ⟨b, a, none⟩ 0 (fun w' => K undef w') = Gp.St w ((⟨b, a, none⟩ : Addr).add 0) y' fun w' => K undef w' := fun _ => rfl
    rw [e, add_mk] at this
    exact this
  · rename_i i a ks n h1 h2
    cases hx with
    | ptr hx =>
    rw [h1, h2]
    split at h
    · cases hy with
      | agg hy =>
      obtain ⟨hb, h⟩ := cond_ok h
      rw [hy.len] at hb
      simp only [hb, cond_true]
      obtain ⟨s', h, r1, l1, w1, o1, st⟩ := wrC_ok hr hx hy h
      exact st _ (hK.of h (Le.refl ρ) r1 (.tup .nil) l1)
    · cases h
  · cases h

/-! ### Slices -/
theorem slLen_ok {v : AV} {v' : Value} {m : Nat} (h : slLen v = some m) (hv : VR ρ v v') : ∃ a c, v' = .slice a m c := by
  cases hv <;> first | (cases h; exact ⟨_, _, rfl⟩) | cases h

theorem slC_ok (hr : Rel w0 ρ s w) {size n : Nat} {v : AV} {vs : List AV} (h : slC s size n v = some vs) {a : Option Addr} {l c : Nat} (hv : VR ρ v (.slice a l c)) : ∃ us, VsR ρ vs us ∧ CellsO w a (n * size) us ∧ us.length = n * size ∧ n ≤ l := by
  unfold slC at h
  cases hv with
  | sl0 =>
    dsimp only at h
    cases hb : Nat.beq n 0 with
    | false => rw [hb] at h; cases h
    | true =>
      rw [hb] at h
      have := Nat.eq_of_beq_eq_true hb
      subst this
      cases h
      exact ⟨[], .nil, rfl, by simp, Nat.le_refl _⟩
  | sl hx =>
    dsimp only at h
    cases hb : Nat.ble n l with
    | false => rw [hb] at h; cases h
    | true =>
      rw [hb] at h
      obtain ⟨us, g1, g2, g3, _⟩ := rdC_ok hr hx h
      exact ⟨us, g1, ⟨g2, g3⟩, g2, Nat.le_of_ble_eq_true hb⟩
  | slo hx =>
    dsimp only at h
    cases hb : Nat.ble n l with
    | false => rw [hb] at h; cases h
    | true =>
      rw [hb] at h
      obtain ⟨us, g1, g2, g3, _⟩ := rdC_ok hr hx h
      exact ⟨us, g1, ⟨g2, g3⟩, g2, Nat.le_of_ble_eq_true hb⟩
  | slE hx =>
    dsimp only at h
    cases hb : Nat.beq n 0 with
    | false => rw [hb] at h; cases h
    | true =>
      rw [hb] at h
      have := Nat.eq_of_beq_eq_true hb
      subst this
      cases h
      exact ⟨[], .nil, ⟨by simp, fun j hj => by simp at hj⟩, by simp, Nat.le_refl _⟩

/-- A row is laid behind all others. -/
theorem Rel.newRow {cs : List AV} {us : List Value} {z : Nat} {p : Bool} {s' : St} {i : Nat} (hr : Rel w0 ρ s w) (hc : VsR ρ cs us) (h0 : s.h.get i = none) (h1 : s'.h.get i = some (.row cs z p)) (h2 : ∀ j, j ≠ i → s'.h.get j = s.h.get j)
    (pad : List Value) (e : TypeId) (fr : Nat × Nat) (hf : (us ++ pad).length ≤ fr.1 ∨ fr = (0, 0)) (c : Nat) (hp : cond p (c * z = us.length + pad.length) (pad = [])) :
    Rel w0 (upd ρ i ⟨w.heap.size, c, fun _ _ _ => False⟩) s' (w.alloc (.cells ⟨us ++ pad⟩ e fr)) ∧ Le ρ (upd ρ i ⟨w.heap.size, c, fun _ _ _ => False⟩) ∧ Lp ρ s w s' (w.alloc (.cells ⟨us ++ pad⟩ e fr)) :=
  hr.alloc (x := ⟨w.heap.size, c, fun _ _ _ => False⟩) h0 h1 h2 rfl fun ρ' hl _ => ⟨us, pad, hc.mono hl, RowF.new w _ e fr hf, hp⟩

theorem Rel.newRow0 {cs : List AV} {us : List Value} {z : Nat} {s' : St} {i : Nat} (hr : Rel w0 ρ s w) (hc : VsR ρ cs us) (h0 : s.h.get i = none) (h1 : s'.h.get i = some (.row cs z false)) (h2 : ∀ j, j ≠ i → s'.h.get j = s.h.get j) (e : TypeId) :
    Rel w0 (upd ρ i ⟨w.heap.size, 0, fun _ _ _ => False⟩) s' (w.alloc (.cells ⟨us⟩ e)) ∧ Le ρ (upd ρ i ⟨w.heap.size, 0, fun _ _ _ => False⟩) ∧ Lp ρ s w s' (w.alloc (.cells ⟨us⟩ e)) := by
  have := hr.newRow hc h0 h1 h2 [] e (0, 0) (.inr rfl) 0 rfl
  rwa [List.append_nil] at this

theorem Lp.drew {s s' : St} {w' : World} (h : Lp ρ s w.drew s' w') : Lp ρ s w s' w' := h

theorem repCells_len' {z : List Value} : ∀ k, (repCells z k).length = k * z.length
  | 0 => by simp [repCells]
  | k + 1 => by simp [repCells, repCells_len' k, Nat.add_mul]; omega

theorem appC_ok {size bytes : Nat} {z : List Value} {x : AV} {n : Nat} {vs : List AV} {us : List Value} {e : TypeId} {a : Option Addr} {l c : Nat} (h : appC size bytes z.length x n vs s k = true) (hr : Rel w0 ρ s w) (hx : VR ρ x (.slice a l c)) (hv : VsR ρ vs us) (hK : KK lp w0 ρ s w k K) :
    AppVs e size bytes z ⟨a, l, c⟩ n us w fun s' w' => K s'.v w' := by
  unfold appC at h
  obtain ⟨h1, h⟩ := cond_ok h
  rw [Bool.and_eq_true, Bool.and_eq_true, Bool.and_eq_true] at h1
  obtain ⟨h1, h2, h3, h0⟩ := h1
  have h0 : 0 < size := by
    have := Nat.le_of_ble_eq_true h0
    omega
  have h2 := Nat.eq_of_beq_eq_true h2
  have h3 := Nat.eq_of_beq_eq_true h3
  have hone := allOne_ok hv h1
  have hvl := hv.len
  cases hx with
  | sl0 =>
    dsimp only at h
    cases n with
    | zero =>
      have : us = [] := List.length_eq_zero_iff.1 (by omega)
      subst this
      exact .inl ⟨Nat.le_refl _, fun a ha => (by cases ha), hone, hK.pure hr h .sl0⟩
    | succ n =>
      obtain ⟨h4, h⟩ := cond_ok h
      rw [Bool.and_eq_true] at h4
      have h5 := Nat.le_of_ble_eq_true h4.1
      have h6 := Nat.le_of_ble_eq_true h4.2
      obtain ⟨i, s', h, q0, q1, q2⟩ := newB_ok h
      refine .inr ⟨by simp only; omega, by simpa using h5, by simpa using h6, [], rfl, fun c h7 h8 => ?_⟩
      obtain ⟨r1, r2, r3⟩ := hr.drew.newRow hv q0 q1 q2 (repCells z (c - (0 + (n + 1)))) e (0, 0) (.inr rfl) c (by
        show c * size = _
        rw [repCells_len', h2, ← hvl, h3, ← Nat.add_mul]
        congr 1; simp only at h7; omega)
      rw [List.nil_append]
      refine hK.of h r2 r1 ?_ (Lp.drew r3)
      have := VR.slo (ρ := upd ρ i ⟨w.drew.heap.size, c, fun _ _ _ => False⟩) (o := 0) (n := n + 1) (d := 0) (upd_self ρ i ⟨w.drew.heap.size, c, fun _ _ _ => False⟩)
      simpa [SliceV.v] using this
  | @sl i o _ _ y hy =>
    dsimp only at h
    have h := fN_ok h
    cases hb : Nat.ble (l + n) c with
    | true =>
      rw [hb, cond_true] at h
      obtain ⟨s', h, r1, l1, w1, o1, st⟩ := wrC_ok hr hy hv h
      refine .inl ⟨Nat.le_of_ble_eq_true hb, fun a ha => ?_, hone, ?_⟩
      · cases ha
        rw [add_mk]; exact w1
      · simp only [add_mk]
        exact hK.of h (Le.refl ρ) r1 (.sl hy) l1
    | false =>
      rw [hb, cond_false] at h
      obtain ⟨h4, h⟩ := cond_ok h
      rw [Bool.and_eq_true] at h4
      have h5 := Nat.le_of_ble_eq_true h4.1
      have h6 := Nat.le_of_ble_eq_true h4.2
      have hc : c < l + n := by
        rcases Nat.lt_or_ge c (l + n) with g | g
        · exact g
        · rw [Nat.ble_eq_true_of_le g] at hb; cases hb
      split at h
      · rename_i old ho
        obtain ⟨os, g1, g2, g3, _⟩ := rdC_ok hr hy ho
        obtain ⟨j, s', h, q0, q1, q2⟩ := newB_ok h
        refine .inr ⟨hc, h5, h6, os, ⟨g2, g3⟩, fun c' h7 h8 => ?_⟩
        obtain ⟨r1, r2, r3⟩ := hr.drew.newRow (g1.app hv) q0 q1 q2 (repCells z (c' - (l + n))) e (0, 0) (.inr rfl) c' (by
          show c' * size = _
          rw [repCells_len', h2, List.length_append, g2, ← hvl, h3, ← Nat.add_mul, ← Nat.add_mul]
          congr 1; simp only at h7; omega)
        refine hK.of h r2 r1 ?_ (Lp.drew r3)
        have := VR.slo (ρ := upd ρ j ⟨w.drew.heap.size, c', fun _ _ _ => False⟩) (o := 0) (n := l + n) (d := 0) (upd_self ρ j ⟨w.drew.heap.size, c', fun _ _ _ => False⟩)
        simpa [SliceV.v] using this
      · cases h
  | @slo i o _ d y hy =>
    dsimp only at h
    have h := fN_ok h
    split at h
    · rename_i cs z' hg
      obtain ⟨h4, h⟩ := cond_ok h
      rw [Bool.and_eq_true] at h4
      have h5 := Nat.eq_of_beq_eq_true h4.1
      have h6 := Nat.eq_of_beq_eq_true h4.2
      subst h5
      obtain ⟨vs', pad, g1, g2, g3⟩ := hr.row hy hg
      have g3 : y.c * z' = vs'.length + pad.length := g3
      have gl := g1.len
      have hz : 0 < z' := h0
      cases hb : Nat.ble (o + (l + n) * z') cs.length with
      | true =>
        rw [hb, cond_true] at h
        have hb := Nat.le_of_ble_eq_true hb
        obtain ⟨s', h, r1, l1, w1, o1, st⟩ := wrC_ok hr hy hv h
        have hfit : l + n ≤ y.c - d := by
          have h7 : (d + (l + n)) * z' ≤ y.c * z' := by rw [Nat.add_mul]; omega
          have := Nat.le_of_mul_le_mul_right h7 hz
          omega
        refine .inl ⟨hfit, fun a ha => ?_, hone, ?_⟩
        · cases ha
          rw [add_mk]; exact w1
        · simp only [add_mk]
          exact hK.of h (Le.refl ρ) r1 (.slo hy) l1
      | false =>
        rw [hb, cond_false] at h
        obtain ⟨h7, hq⟩ := cond_ok h
        clear h
        rw [Bool.and_eq_true, Bool.and_eq_true, Bool.and_eq_true, Bool.and_eq_true] at h7
        obtain ⟨h7, h8, h9, h10, h11⟩ := h7
        have h7 := Nat.eq_of_beq_eq_true h7
        have h8 := Nat.eq_of_beq_eq_true h8
        have h9 := Nat.eq_of_beq_eq_true h9
        have h10 := Nat.le_of_ble_eq_true h10
        have h11 := Nat.le_of_ble_eq_true h11
        subst h7 h8
        obtain ⟨s1, hq, p1, p2⟩ := putB_ok hq
        obtain ⟨j, s', h, q0, q1, q2⟩ := newB_ok hq
        have hk := hr.kill hg p1 p2
        have hlp1 : Lp ρ s w s1 w := hr.chgL hy hg trivial trivial p2 (Fr8.refl _ _)
        by_cases hfit : l + n ≤ y.c - 0
        · -- in place
          refine .inl ⟨hfit, fun a ha => ?_, hone, ?_⟩
          · cases ha
            rw [add_mk]
            intro j hj
            have hfit' : (l + n) * z' ≤ y.c * z' := Nat.mul_le_mul_right _ (by omega)
            rw [Nat.add_mul] at hfit'
            rw [add_mk, g2.cell, g2.frozen (by simp; omega)]
            simp
            omega
          · simp only [add_mk, Nat.zero_add]
            have hfit' : (l + n) * z' ≤ y.c * z' := Nat.mul_le_mul_right _ (by omega)
            rw [Nat.add_mul] at hfit'
            obtain ⟨rr, f1, z1⟩ := setCells_rowF us w (vs' ++ pad) (l * z') 0 g2 (by simp; omega)
            rw [Nat.add_zero, h9, gl, List.take_left', List.drop_append, Nat.add_sub_cancel_left] at rr
            · have e1 : vs'.drop (vs'.length + us.length) = [] := List.drop_eq_nil_iff.2 (by omega)
              rw [e1, List.nil_append] at rr
              rw [h9, gl] at f1 z1
              have f1 := f1 (· = y.b) rfl
              have hn := hr.new i y hy
              have hnl : ∀ m b y', s1.h.get m = some b → live b → ρ m = some y' → y'.b ≠ y.b := fun m b y' m1 m2 m3 m4 => by
                have hm : m ≠ i := fun e => by rw [e, p1] at m1; cases m1; exact m2
                rw [p2 m hm] at m1
                exact hm (hr.inj m i b _ y' y m1 hg m2 trivial m3 hy m4)
              obtain ⟨r1, r2⟩ := hk.add (w' := setCells w ⟨y.b, vs'.length, none⟩ us 0) (x := ⟨y.b, y.c, fun _ _ _ => False⟩) q0 q1 q2 ⟨hn.1, by rw [z1]; exact hn.2⟩ (show BR _ _ _ (.row (cs ++ vs) z' true) from ⟨vs' ++ us, pad.drop us.length, (g1.mono (upd_le (hk.fresh j q0) _)).app (hv.mono (upd_le (hk.fresh j q0) _)), rr, by
                show y.c * z' = _
                rw [List.length_append, List.length_drop]; omega⟩) (fun m b y' m1 m2 => by
                  cases b with
                  | dead => trivial
                  | _ => exact (hk.br m _ y' m1 m2).same (f1.same _ (hr.new m y' m2).2 (hnl m _ y' m1 trivial m2))) hnl (by rw [z1]; exact Nat.le_refl _) (hr.ext.new f1 fun b hb e => by omega)
              rw [h9, gl]
              refine hK.of h r2 r1 ?_ (Lp.trans (ρ' := ρ) hlp1 (fun m y' st p m1 m2 => ⟨by rw [q2 m fun e => by rw [e, q0] at m1; cases m1]; exact m1, f1.same _ (hr.new m y' m2).2 (hnl m _ y' m1 trivial m2)⟩) (Le.refl ρ))
              have := VR.slo (ρ := upd ρ j ⟨y.b, y.c, fun _ _ _ => False⟩) (o := 0) (n := l + n) (d := 0) (upd_self ρ j ⟨y.b, y.c, fun _ _ _ => False⟩)
              simpa [SliceV.v] using this
            · rfl
        · refine .inr ⟨by simp only; omega, h10, h11, vs', ⟨by simp only; omega, fun m hm => ?_⟩, fun c' h12 h13 => ?_⟩
          · rw [add_mk, Nat.zero_add, g2.cell, List.getElem?_append_left hm]
          · obtain ⟨r1, r2, r3⟩ := hk.drew.newRow (g1.app hv) q0 q1 q2 (repCells z (c' - (l + n))) e (0, 0) (.inr rfl) c' (by
              show c' * z' = _
              rw [repCells_len', h2, List.length_append, ← gl, ← h9, ← hvl, h3, ← Nat.add_mul, ← Nat.add_mul]
              congr 1; simp only at h12; omega)
            refine hK.of h r2 r1 ?_ (Lp.trans (ρ' := ρ) hlp1 (Lp.drew r3) (Le.refl ρ))
            have := VR.slo (ρ := upd ρ j ⟨w.drew.heap.size, c', fun _ _ _ => False⟩) (o := 0) (n := l + n) (d := 0) (upd_self ρ j ⟨w.drew.heap.size, c', fun _ _ _ => False⟩)
            simpa [SliceV.v] using this
    · cases h
  | slE hy => cases h
end
end Gp.Rn
