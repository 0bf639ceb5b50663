import Derived.Test.YtmcdmhegjhcjhaaGreatFn
/- Reasoning about memory: rows of cells, and what stays. -/
namespace Gp
open Go

/-- Block b is a row of cells that hold l; none is frozen. -/
def Row (w : World) (b : Nat) (l : List Value) : Prop := ∃ T, w.heap[b]? = some (.cells ⟨l⟩ T (0, 0))

/-- What lay in w lies in w' as it lay, but for the blocks of S. -/
structure Fr8 (w w' : World) (S : Nat → Prop) : Prop where
  size : w.heap.size ≤ w'.heap.size
  same : ∀ b, b < w.heap.size → ¬ S b → w'.heap[b]? = w.heap[b]?
  io : w'.os = w.os ∧ w'.tape = w.tape ∧ w'.output = w.output

theorem add_mk (b o n : Nat) : (⟨b, o, none⟩ : Addr).add n = ⟨b, o + n, none⟩ := by
  unfold Addr.add
  by_cases h : n = 0
  · simp [h]
  · simp [h]

section
variable {w w' w1 w2 : World} {b b' i : Nat} {l l' : List Value} {S S' : Nat → Prop}

theorem Row.lt (h : Row w b l) : b < w.heap.size := by
  obtain ⟨T, h⟩ := h
  exact (Array.getElem?_eq_some_iff.1 h).1

theorem Row.cell (h : Row w b l) (i : Nat) : w.cell? ⟨b, i, none⟩ = l[i]? := by
  obtain ⟨T, h⟩ := h
  simp [World.cell?, h]

theorem Row.frozen (h : Row w b l) (i : Nat) : w.frozen? ⟨b, i, none⟩ = false := by
  obtain ⟨T, h⟩ := h
  simp [World.frozen?, h]

theorem Row.unique (h : Row w b l) (h' : Row w b l') : l = l' := by
  obtain ⟨T, h⟩ := h
  obtain ⟨T', h'⟩ := h'
  rw [h] at h'
  simp at h'
  exact h'.1

theorem Fr8.refl (w : World) (S : Nat → Prop) : Fr8 w w S := ⟨Nat.le_refl _, fun _ _ _ => rfl, rfl, rfl, rfl⟩
theorem Fr8.trans (h : Fr8 w w1 S) (h' : Fr8 w1 w2 S') (hs : ∀ b, b < w.heap.size → S' b → S b) : Fr8 w w2 S :=
  ⟨Nat.le_trans h.size h'.size, fun b hb hn => (h'.same b (Nat.lt_of_lt_of_le hb h.size) fun x => hn (hs b hb x)).trans (h.same b hb hn), h'.io.1.trans h.io.1, h'.io.2.1.trans h.io.2.1, h'.io.2.2.trans h.io.2.2⟩
theorem Fr8.mono (h : Fr8 w w1 S) (hs : ∀ b, S b → S' b) : Fr8 w w1 S' := ⟨h.size, fun b hb hn => h.same b hb fun x => hn (hs b x), h.io⟩
theorem Fr8.drew (w : World) (S : Nat → Prop) : Fr8 w w.drew S := ⟨Nat.le_refl _, fun _ _ _ => rfl, rfl, rfl, rfl⟩
theorem Fr8.alloc (w : World) (o : Obj) (S : Nat → Prop) : Fr8 w (w.alloc o) S :=
  ⟨by simp, fun b hb _ => by simp [World.alloc, -World.alloc_eq, Array.getElem?_push]; omega, rfl, rfl, rfl⟩
theorem Fr8.set (w : World) (a : Addr) (v : Value) (hs : S a.block) : Fr8 w (w.setCell a v) S := by
  refine ⟨by simp, fun b hb hn => ?_, rfl, rfl, rfl⟩
  have : ¬ (a.block = b) := fun e => hn (e ▸ hs)
  simp [World.setCell, Array.getElem?_modify, this]

theorem Row.fr (h : Row w b l) (hf : Fr8 w w' S) (hs : ¬ S b) : Row w' b l := by
  have hl := h.lt
  obtain ⟨T, h⟩ := h
  exact ⟨T, (hf.same b hl hs).trans h⟩

theorem Row.drew (h : Row w b l) : Row w.drew b l := h
theorem Row.undrew (h : Row w.drew b l) : Row w b l := h

theorem Row.new (w : World) (l : List Value) (T : TypeId) : Row (w.alloc (.cells ⟨l⟩ T)) w.heap.size l := ⟨T, World.alloc_heap_new w _⟩

theorem Row.set (h : Row w b l) (i : Nat) (v : Value) : Row (w.setCell ⟨b, i, none⟩ v) b (l.set i v) := by
  obtain ⟨T, h⟩ := h
  refine ⟨T, ?_⟩
  simp only [World.setCell, Array.getElem?_modify, if_true, h, Option.map_some]
  congr 2
  simp [Array.setIfInBounds]
  intro hx
  rw [List.set_eq_of_length_le hx]

/-! ### Steps -/
theorem Al_row {T : TypeId} {K : Addr → World → Prop} (h : ∀ b w1, Row w1 b l → b = w.heap.size → w1.heap.size = b + 1 → (∀ S, Fr8 w w1 S) → K ⟨b, 0, none⟩ w1) : Al w (.cells ⟨l⟩ T) K :=
  h _ _ (Row.new w l T) rfl (by simp) (fun S => Fr8.alloc w _ S)

theorem MkSl_row {e size bytes : Nat} {z : List Value} {n c : Int} {K : SliceV → World → Prop} (h0 : 0 ≤ n) (h1 : n ≤ c) (h2 : c ≤ 2 ^ 62) (h3 : (bytes : Int) * c ≤ 2 ^ 48)
    (h : ∀ b w1, Row w1 b (repCells z c.toNat) → b = w.heap.size → w1.heap.size = b + 1 → (∀ S, Fr8 w w1 S) → K ⟨some ⟨b, 0, none⟩, n.toNat, c.toNat⟩ w1) : MkSl e size bytes z n c w K :=
  ⟨h0, h1, h2, h3, h _ _ (Row.new w _ e) rfl (by simp) (fun S => Fr8.alloc w _ S)⟩

theorem St_row {v : Value} {K : World → Prop} (hr : Row w b l) (h1 : isOne v = true) (hi : i < l.length)
    (h : ∀ w1, Row w1 b (l.set i v) → (∀ S : Nat → Prop, S b → Fr8 w w1 S) → w1.heap.size = w.heap.size → K w1) : St w ⟨b, i, none⟩ v K :=
  ⟨h1, by rw [hr.cell]; simp [hi], hr.frozen i, h _ (hr.set i v) (fun S hs => Fr8.set w _ v hs) (by simp)⟩

/-- Many cells from a place on. -/
theorem StN_row {K : World → Prop} : ∀ (vs : List Value) (w : World) (l : List Value) (o i : Nat), Row w b l → (∀ v ∈ vs, isOne v = true) → o + i + vs.length ≤ l.length →
    (∀ w1, Row w1 b (l.take (o + i) ++ vs ++ l.drop (o + i + vs.length)) → (∀ S : Nat → Prop, S b → Fr8 w w1 S) → w1.heap.size = w.heap.size → K w1) → StN vs w ⟨b, o, none⟩ i K := by
  intro vs
  induction vs with
  | nil =>
    intro w l o i hr _ _ h
    exact h w (by simpa using hr) (fun S _ => Fr8.refl _ _) rfl
  | cons v vs ih =>
    intro w l o i hr hv hl h
    simp only [List.length_cons] at hl
    show St w ((⟨b, o, none⟩ : Addr).add i) v _
    rw [add_mk]
    refine St_row hr (hv v (List.mem_cons_self ..)) (by omega) fun w1 r1 f1 z1 => ?_
    refine ih w1 _ o (i + 1) r1 (fun u hu => hv u (List.mem_cons_of_mem _ hu)) (by rw [List.length_set]; omega) fun w2 r2 f2 z2 => ?_
    refine h w2 ?_ (fun S hs => (f1 S hs).trans (f2 S hs) fun _ _ e => e) (by omega)
    have e1 : (l.set (o + i) v).take (o + (i + 1)) = l.take (o + i) ++ [v] := by
      rw [← Nat.add_assoc, List.take_succ_eq_append_getElem (by simp; omega), List.take_set_of_le (by omega)]
      simp
    have e2 : (l.set (o + i) v).drop (o + (i + 1) + vs.length) = l.drop (o + i + (vs.length + 1)) := by
      rw [List.drop_set_of_lt (by omega)]
      congr 1; omega
    rw [e1, e2] at r2
    simpa using r2

/-- A new place, filled at once. -/
theorem Al_fill {T : TypeId} {z vs : List Value} {K : Addr → World → Prop} (hv : ∀ v ∈ vs, isOne v = true) (hl : vs.length = z.length)
    (h : ∀ a w1, Row w1 a vs → w.heap.size ≤ a → (∀ S, Fr8 w w1 S) → K ⟨a, 0, none⟩ w1) : Al w (.cells ⟨z⟩ T) fun a w1 => StN vs w1 a 0 fun w2 => K a w2 := by
  refine Al_row fun a w1 r1 e1 _ f1 => StN_row vs w1 z 0 0 r1 hv (by omega) fun w2 r2 f2 _ => h a w2 ?_ (by omega) fun S => (f1 S).trans (f2 (· = a) rfl) fun x hx e => by omega
  have : List.drop vs.length z = [] := by rw [hl]; simp
  simpa [this] using r2

theorem Ld_row {k : Kind} {x : k.T} {K : k.T → Prop} (hr : Row w b l) (hv : l[i]? = some (k.enc x)) (h : K x) : Ld k w ⟨b, i, none⟩ K := ⟨x, by rw [hr.cell]; exact hv, h⟩

theorem AtIx_row {s : SliceV} {size : Nat} {i : Int} {o : Nat} {K : Addr → Prop} (hs : s.a = some ⟨b, o, none⟩) (h0 : 0 ≤ i) (h1 : i < (s.len : Int)) (h : K ⟨b, o + i.toNat * size, none⟩) : AtIx s size i K :=
  ⟨_, hs, h0, h1, by rw [add_mk]; exact h⟩

theorem LoopP_inv {S : Type} {body : S → World → (S → World → Prop) → Prop} {s : S} (I : S → World → Prop) (μ : S → World → Nat) (h0 : I s w)
    (step : ∀ s w, I s w → ∀ next : S → World → Prop, (∀ s' w', I s' w' → μ s' w' < μ s w → next s' w') → body s w next) : LoopP body s w :=
  ⟨fun n s w => I s w ∧ n = μ s w, ⟨_, h0, rfl⟩, fun n s w hI => step s w hI.1 _ fun s' w' hI' hlt => ⟨_, by rw [hI.2]; exact hlt, hI', rfl⟩⟩
end

/-! ### Rows of elements of one size -/
theorem flat_len {α : Type} (f : α → List Value) (k : Nat) (hf : ∀ x, (f x).length = k) (xs : List α) : (xs.flatMap f).length = xs.length * k := by
  induction xs with
  | nil => simp
  | cons x xs ih => simp [List.flatMap_cons, hf, ih, Nat.add_mul]; omega

theorem flat_get {α : Type} (f : α → List Value) (k : Nat) (hf : ∀ x, (f x).length = k) : ∀ (xs : List α) (i j : Nat), j < k → (xs.flatMap f)[i * k + j]? = (xs[i]?).bind fun x => (f x)[j]? := by
  intro xs
  induction xs with
  | nil => intro i j _; simp
  | cons x xs ih =>
    intro i j hj
    rw [List.flatMap_cons]
    cases i with
    | zero => rw [List.getElem?_append_left (by rw [hf]; omega)]; simp
    | succ i =>
      rw [List.getElem?_append_right (by rw [hf, Nat.add_mul]; omega), hf]
      rw [show (i + 1) * k + j - k = i * k + j by rw [Nat.add_mul]; omega, ih i j hj]
      simp

theorem flat_set {α : Type} (f : α → List Value) (k : Nat) (hf : ∀ x, (f x).length = k) : ∀ (xs : List α) (i j : Nat) (x y : α) (v : Value), j < k → xs[i]? = some x → (f x).set j v = f y →
    (xs.flatMap f).set (i * k + j) v = (xs.set i y).flatMap f := by
  intro xs
  induction xs with
  | nil => intro i j x y v _ h; simp at h
  | cons z xs ih =>
    intro i j x y v hj hx hy
    cases i with
    | zero =>
      simp at hx
      subst hx
      simp only [List.flatMap_cons, List.set_cons_zero, Nat.zero_mul, Nat.zero_add]
      rw [List.set_append_left _ _ (by rw [hf]; exact hj), hy]
    | succ i =>
      simp only [List.flatMap_cons, List.set_cons_succ]
      rw [List.set_append_right _ _ (by rw [hf, Nat.add_mul]; omega), hf]
      rw [show (i + 1) * k + j - k = i * k + j by rw [Nat.add_mul]; omega]
      rw [ih i j x y v hj (by simpa using hx) hy]

theorem wrap_i64 {n : Int} (h1 : -9223372036854775808 ≤ n) (h2 : n ≤ 9223372036854775807) : IntKind.i64.wrap n = n := by
  rw [IntKind.wrap_i64]; omega

/-! ### For simp -/
def LdV (k : Kind) : Option Value → (k.T → Prop) → Prop
  | some v, K => k.dec v K
  | none, _ => False

theorem dec_int (k : IntKind) (n : Int) (K : Int → Prop) : Kind.dec (.int k) (.int k n) K = K n := by cases k <;> rfl
theorem dec_bool (b : Bool) (K : Bool → Prop) : Kind.dec .bool (.bool b) K = K b := rfl
theorem dec_str (b : ByteArray) (K : ByteArray → Prop) : Kind.dec .str (.string b) K = K b := rfl
theorem dec_ptr (a : Option Addr) (K : Option Addr → Prop) : Kind.dec .ptr (.pointer a) K = K a := rfl
theorem dec_slice (a : Option Addr) (l c : Nat) (K : SliceV → Prop) : Kind.dec .slice (.slice a l c) K = K ⟨a, l, c⟩ := rfl
theorem dec_map (r : Option Nat) (K : Option Nat → Prop) : Kind.dec .map (.map r) K = K r := rfl
theorem dec_any (v : Value) (K : Value → Prop) : Kind.dec .any v K = K v := by cases v <;> rfl

theorem dec_self (k : Kind) (x : k.T) (K : k.T → Prop) : k.dec (k.enc x) K = K x := by
  cases k with
  | int k => exact dec_int k x K
  | any => exact dec_any x K
  | _ => rfl

theorem Ld_eq (k : Kind) (w : World) (a : Addr) (K : k.T → Prop) : Ld k w a K ↔ LdV k (w.cell? a) K := by
  constructor
  · rintro ⟨x, hx, h⟩
    rw [hx]
    show k.dec (k.enc x) K
    rw [dec_self]; exact h
  · intro h
    cases hc : w.cell? a with
    | none => rw [hc] at h; exact h.elim
    | some v =>
      rw [hc] at h
      obtain ⟨x, hx, h⟩ := dec_enc h
      exact ⟨x, by rw [hc, hx], h⟩

theorem LdV_some (k : Kind) (v : Value) (K : k.T → Prop) : LdV k (some v) K = k.dec v K := rfl

theorem AtIx_some (a : Addr) (l c size : Nat) (i : Int) (K : Addr → Prop) : AtIx ⟨some a, l, c⟩ size i K ↔ (0 ≤ i ∧ i < (l : Int) ∧ K (a.add (i.toNat * size))) := by
  constructor
  · rintro ⟨a', h, h0, h1, h2⟩
    cases h
    exact ⟨h0, h1, h2⟩
  · rintro ⟨h0, h1, h2⟩
    exact ⟨a, rfl, h0, h1, h2⟩

theorem ex_some {α : Type} (x : α) (P : α → Prop) : (∃ a, some x = some a ∧ P a) ↔ P x := by
  constructor
  · rintro ⟨a, h, hp⟩; cases h; exact hp
  · exact fun h => ⟨x, rfl, h⟩
end Gp
