import Derived.Test.YtmcdmhegjhcjhaaGreatHeap
import Derived.ProofKit
import Derived.OpenShut
import Derived.ChangeOld
import Derived.Below
import Derived.Deep.Slices
/- What an argument that reads is: its shape, its value, the memory behind it. -/
namespace Gp
open Go Go.ChangeShapes Go.WideShapes

inductive Desc
  | bool | int (k : IntKind) | str
  | slice (e : Desc) (n : Nat)
  | agg (r : Desc)
  | nil | cons (d : Desc) (n : Nat) (r : Desc)
  | arr (k : Nat) (d : Desc) (n : Nat)

def Desc.T : Desc → Type
  | .bool => Bool
  | .int _ => Int
  | .str => ByteArray
  | .slice e _ => SliceV × List e.T
  | .agg r => r.T
  | .nil => Unit
  | .cons d _ r => d.T × r.T
  | .arr _ d _ => List d.T

def Desc.cells : (d : Desc) → d.T → List Value
  | .bool, b => [.bool b]
  | .int k, n => [.int k n]
  | .str, s => [.string s]
  | .slice _ _, x => [.slice x.1.a x.1.len x.1.cap]
  | .agg r, x => r.cells x
  | .nil, _ => []
  | .cons d _ r, x => d.cells x.1 ++ r.cells x.2
  | .arr _ d _, xs => xs.flatMap d.cells

/-- The elements lie there. -/
def ElemsAt {α : Type} (w : World) (s : SliceV) (n : Nat) (f : α → List Value) (xs : List α) : Prop :=
  s.len = xs.length ∧ s.len ≤ s.cap ∧ s.cap ≤ maxLen ∧ (xs ≠ [] → ∃ b o, s.a = some ⟨b, o, none⟩ ∧ b < w.heap.size ∧ ∀ i x, xs[i]? = some x → (f x).length = n ∧ ∀ j v, (f x)[j]? = some v → w.cell? ⟨b, o + i * n + j, none⟩ = some v)

def InAll {α : Type} (k : Nat) (p : α → Prop) (xs : List α) : Prop := xs.length = k ∧ ∀ y ∈ xs, p y

def Desc.In (w : World) : (d : Desc) → d.T → Prop
  | .bool, _ => True
  | .int k, n => (Lit.int k n).wf = true
  | .str, s => s.size ≤ maxLen
  | .slice e n, x => ElemsAt w x.1 n e.cells x.2 ∧ ∀ y ∈ x.2, e.In w y
  | .agg r, x => r.In w x
  | .nil, _ => True
  | .cons d _ r, x => d.In w x.1 ∧ r.In w x.2
  | .arr k d _, xs => InAll k (fun y : d.T => d.In w y) xs

/-- Is this the shape of the type? -/
def Desc.ok (P : Program) : Desc → Sum TypeId (Nat × Nat × List Field) → Bool
  | .bool, .inl t => match P.underlying t with | some .bool => true | _ => false
  | .int k, .inl t => match P.underlying t with | some (.int k') => decide (k' = k) | _ => false
  | .str, .inl t => match P.underlying t with | some .string => true | _ => false
  | .slice e n, .inl t => match P.underlying t with | some (.slice e') => Nat.beq (P.cellsOf e') n && Nat.blt 0 n && e.ok P (.inl e') | _ => false
  | .agg r, .inl t => match P.underlying t with | some (.struct fs) => r.ok P (.inr (0, P.cellsOf t, fs.toList)) | _ => false
  | .arr k d n, .inl t => match P.underlying t with | some (.array k' e') => Nat.beq k' k && Nat.beq (P.cellsOf e') n && Nat.beq (P.cellsOf t) (k * n) && d.ok P (.inl e') | _ => false
  | .nil, .inr (o, n, []) => Nat.beq o n
  | .cons d n r, .inr (o, m, f :: fs) => Nat.beq f.offset o && Nat.beq (P.cellsOf f.type) n && d.ok P (.inl f.type) && r.ok P (.inr (o + n, m, fs))
  | _, _ => false

theorem pick_list {α : Type} {n : Nat} {p : Nat → α → Prop} (h : ∀ i, i < n → ∃ x, p i x) : ∃ xs : List α, xs.length = n ∧ ∀ i x, xs[i]? = some x → p i x := by
  induction n with
  | zero => exact ⟨[], rfl, fun i x h => by simp at h⟩
  | succ n ih =>
    obtain ⟨xs, hl, hx⟩ := ih fun i hi => h i (by omega)
    obtain ⟨y, hy⟩ := h n (by omega)
    refine ⟨xs ++ [y], by simp [hl], fun i x hi => ?_⟩
    by_cases hlt : i < n
    · rw [List.getElem?_append_left (by omega)] at hi
      exact hx i x hi
    · have hlen := (List.getElem?_eq_some_iff.1 hi).1
      simp only [List.length_append, List.length_singleton] at hlen
      have : i = n := by omega
      subst this
      rw [List.getElem?_append_right (by omega)] at hi
      simp [hl] at hi
      exact hi ▸ hy

theorem flat_of {α : Type} (f : α → List Value) (n : Nat) : ∀ (xs : List α) (cs : List Value), cs.length = xs.length * n → (∀ i x, xs[i]? = some x → (cs.drop (i * n)).take n = f x) → cs = xs.flatMap f := by
  intro xs
  induction xs with
  | nil => intro cs hl _; simpa using hl
  | cons x xs ih =>
    intro cs hl h
    have h0 := h 0 x rfl
    simp at h0
    have := ih (cs.drop n) (by simp [hl, Nat.add_mul]) fun i y hi => by
      have := h (i + 1) y (by simpa using hi)
      rwa [Nat.add_mul, Nat.one_mul, Nat.add_comm, ← List.drop_drop] at this
    rw [List.flatMap_cons, ← h0, ← this, List.take_append_drop]

section
variable {H : Type} {enc : TypeId × Value → H} {P : Program} {w : World} {base : Nat} {sp : Nat → Bool} {held : Bool}

theorem beq_iff {a b : Nat} : Nat.beq a b = true ↔ a = b := ⟨Nat.eq_of_beq_eq_true, fun h => by subst h; simp⟩

/-- What reads is a value of its shape. -/
theorem Desc.open (d : Desc) : (∀ (t : TypeId), d.ok P (.inl t) = true → ∀ (fuel : Nat) (cs : List Value) (x : DataW H × List MemPlace), DataW.trod enc P w base sp held fuel t cs = some x → ∃ v : d.T, cs = d.cells v ∧ d.In w v) ∧
    (∀ (o m : Nat) (fs : List Field), d.ok P (.inr (o, m, fs)) = true → ∀ (fuel : Nat) (cs : List Value), cs.length = m → (∀ f ∈ fs, ∃ x, DataW.trod enc P w base sp held fuel f.type ((cs.drop f.offset).take (P.cellsOf f.type)) = some x) → ∃ v : d.T, cs.drop o = d.cells v ∧ d.In w v) := by
  induction d with
  | bool =>
    refine ⟨fun t ht fuel cs x h => ?_, fun o m fs h => by simp [Desc.ok] at h⟩
    simp only [Desc.ok] at ht
    split at ht
    · rename_i hu
      obtain ⟨b, rfl, _⟩ := DataW.trod_bool hu h
      exact ⟨b, rfl, trivial⟩
    · cases ht
  | int k =>
    refine ⟨fun t ht fuel cs x h => ?_, fun o m fs h => by simp [Desc.ok] at h⟩
    simp only [Desc.ok] at ht
    split at ht
    · rename_i k' hu
      have := of_decide_eq_true ht
      subst this
      obtain ⟨n, rfl, _, hw⟩ := DataW.trod_int hu h
      exact ⟨n, rfl, hw⟩
    · cases ht
  | str =>
    refine ⟨fun t ht fuel cs x h => ?_, fun o m fs h => by simp [Desc.ok] at h⟩
    simp only [Desc.ok] at ht
    split at ht
    · rename_i hu
      obtain ⟨b, rfl, _, hw⟩ := DataW.trod_string hu h
      exact ⟨b, rfl, hw⟩
    · cases ht
  | slice e n ih =>
    refine ⟨fun t ht fuel cs x h => ?_, fun o m fs h => by simp [Desc.ok] at h⟩
    simp only [Desc.ok] at ht
    split at ht
    case h_2 => cases ht
    rename_i e' hu
    simp only [Bool.and_eq_true, beq_iff, Nat.blt_eq] at ht
    obtain ⟨⟨hn, hpos⟩, he⟩ := ht
    rcases Go.Deep.open_slice hu h with ⟨rfl, rfl⟩ | ⟨a, len, cap, m, g, D, Pl, rfl, hb, hl, hm, hmm, rfl, hx⟩
    · exact ⟨(⟨none, 0, 0⟩, []), rfl, ⟨rfl, Nat.le_refl _, by simp [maxLen], fun h => absurd rfl h⟩, fun y hy => by simp at hy⟩
    · have hlm : len ≤ m := by rw [hmm]; split <;> omega
      obtain ⟨xs, hxl, hxs⟩ := pick_list (n := len) (p := fun i (v : e.T) => (e.cells v).length = n ∧ (∀ j, j < n → w.cell? (a.add (i * n + j)) = (e.cells v)[j]?) ∧ e.In w v) fun i hi => by
        obtain ⟨cs', h1, h2⟩ := hx i (by omega)
        obtain ⟨_, hlen, hcell⟩ := World.cells?_some h1
        obtain ⟨v, rfl, hv⟩ := ih.1 e' he _ _ _ h2
        rw [hn] at hlen hcell
        exact ⟨v, hlen, fun j hj => by rw [← Go.Deep.add_add]; exact hcell j hj, hv⟩
      refine ⟨(⟨some a, len, cap⟩, xs), rfl, ⟨by simp [hxl], hl, hm, fun hne => ?_⟩, fun y hy => ?_⟩
      · obtain ⟨b, o, spot⟩ := a
        have hx0 : ∃ x0, xs[0]? = some x0 := by cases xs with
          | nil => exact absurd rfl hne
          | cons x _ => exact ⟨x, rfl⟩
        obtain ⟨x0, hx0⟩ := hx0
        obtain ⟨l0, c0, _⟩ := hxs 0 x0 hx0
        have c00 := c0 0 hpos
        rw [List.getElem?_eq_getElem (by omega)] at c00
        have hs := World.cell?_spot c00
        have hspot : spot = none := by simpa [Addr.add] using hs
        subst hspot
        refine ⟨b, o, rfl, ?_, fun i x hi => ⟨(hxs i x hi).1, fun j v hj => ?_⟩⟩
        · simp only [Nat.zero_mul, Nat.zero_add] at c00
          rw [add_mk] at c00
          unfold World.cell? at c00
          cases hb : w.heap[b]? with
          | none => simp [hb] at c00
          | some o => exact (Array.getElem?_eq_some_iff.1 hb).1
        · have := (hxs i x hi).2.1 j (by rw [← (hxs i x hi).1]; exact (List.getElem?_eq_some_iff.1 hj).1)
          rw [add_mk, hj] at this
          rw [Nat.add_assoc]; exact this
      · obtain ⟨i, hi⟩ := List.getElem?_of_mem hy
        exact (hxs i y hi).2.2
  | agg r ih =>
    refine ⟨fun t ht fuel cs x h => ?_, fun o m fs h => by simp [Desc.ok] at h⟩
    simp only [Desc.ok] at ht
    split at ht
    case h_2 => cases ht
    rename_i fs hu
    obtain ⟨xs, n, rfl, _, hl, hxl, hf⟩ := DataW.trod_struct hu h
    obtain ⟨v, hv, hi⟩ := ih.2 0 _ _ ht n cs hl fun f hf' => by
      obtain ⟨i, hi⟩ := List.getElem?_of_mem hf'
      have hi' : fs[i]? = some f := by simpa using hi
      have := hf i f hi'
      have hlt : i < xs.length := by
        rw [hxl]
        exact (Array.getElem?_eq_some_iff.1 hi').1
      rw [List.getElem?_eq_getElem hlt] at this
      exact ⟨_, this⟩
    exact ⟨v, hv, hi⟩
  | nil =>
    refine ⟨fun t h => by simp [Desc.ok] at h, fun o m fs h fuel cs hl hf => ?_⟩
    cases fs with
    | nil =>
      simp only [Desc.ok, beq_iff] at h
      subst h
      exact ⟨(), by simp [Desc.cells, hl], trivial⟩
    | cons f fs => simp [Desc.ok] at h
  | cons d n r ihd ihr =>
    refine ⟨fun t h => by simp [Desc.ok] at h, fun o m fs h fuel cs hl hf => ?_⟩
    cases fs with
    | nil => simp [Desc.ok] at h
    | cons f fs =>
      simp only [Desc.ok, Bool.and_eq_true, beq_iff] at h
      obtain ⟨⟨⟨h1, h2⟩, h3⟩, h4⟩ := h
      obtain ⟨x, hx⟩ := hf f (List.mem_cons_self ..)
      obtain ⟨v, hv, hiv⟩ := ihd.1 _ h3 _ _ _ hx
      obtain ⟨u, hu, hiu⟩ := ihr.2 _ _ _ h4 fuel cs hl fun g hg => hf g (List.mem_cons_of_mem _ hg)
      refine ⟨(v, u), ?_, hiv, hiu⟩
      rw [h1, h2] at hv
      show cs.drop o = d.cells v ++ r.cells u
      rw [← hv, ← hu, ← List.drop_drop, List.take_append_drop]
  | arr k d n ih =>
    refine ⟨fun t ht fuel cs x h => ?_, fun o m fs h => by simp [Desc.ok] at h⟩
    simp only [Desc.ok] at ht
    split at ht
    case h_2 => cases ht
    rename_i k' e' hu
    simp only [Bool.and_eq_true, beq_iff] at ht
    obtain ⟨⟨⟨hk, hn⟩, hc⟩, he⟩ := ht
    obtain ⟨xs, g, rfl, _, hl, hxl, hf⟩ := DataW.trod_array hu h
    obtain ⟨vs, hvl, hvs⟩ := pick_list (n := k) (p := fun i (v : d.T) => (cs.drop (i * n)).take n = d.cells v ∧ d.In w v) fun i hi => by
      have := hf i (by omega)
      rw [List.getElem?_eq_getElem (by omega)] at this
      rw [hn] at this
      exact ih.1 _ he _ _ _ this
    refine ⟨vs, ?_, hvl, fun y hy => ?_⟩
    · exact flat_of d.cells n vs cs (by rw [hl, hc, hvl]) fun i x hi => (hvs i x hi).1
    · obtain ⟨i, hi⟩ := List.getElem?_of_mem hy
      exact (hvs i y hi).2

/-- One argument. -/
def Desc.value : (d : Desc) → d.T → Value
  | .bool, b => .bool b
  | .int k, n => .int k n
  | .str, s => .string s
  | .slice _ _, x => .slice x.1.a x.1.len x.1.cap
  | .agg r, x => .agg ⟨r.cells x⟩
  | .nil, _ => .agg #[]
  | .cons d n r, x => .agg ⟨(Desc.cons d n r).cells x⟩
  | .arr k d n, xs => .agg ⟨(Desc.arr k d n).cells xs⟩

theorem Desc.arg (d : Desc) {base0 : Nat} {t : TypeId} {v : Value} {y : DataW H} {ps : List MemPlace} (ht : d.ok P (.inl t) = true) (hval : Value.okWide P w .any base0 t v) (h : DataW.Trod enc P w base sp held t v y ps) : ∃ x : d.T, v = d.value x ∧ d.In w x := by
  obtain ⟨fuel, h⟩ := h
  obtain ⟨x, hc, hi⟩ := d.open.1 t ht fuel _ _ h
  refine ⟨x, ?_, hi⟩
  unfold Value.okWide at hval
  cases d with
  | bool =>
    simp only [Desc.ok] at ht
    split at ht
    · rename_i hu
      simp only [hu, Cell.okWide] at hval
      cases v <;> simp_all [Cell.ok, Value.cells, Desc.cells, Desc.value]
    · cases ht
  | int k =>
    simp only [Desc.ok] at ht
    split at ht
    · rename_i k' hu
      simp only [hu, Cell.okWide] at hval
      cases v <;> simp_all [Cell.ok, Value.cells, Desc.cells, Desc.value]
    · cases ht
  | str =>
    simp only [Desc.ok] at ht
    split at ht
    · rename_i hu
      simp only [hu, Cell.okWide] at hval
      cases v <;> simp_all [Cell.ok, Value.cells, Desc.cells, Desc.value]
    · cases ht
  | slice e n =>
    simp only [Desc.ok] at ht
    split at ht
    · rename_i k' hu
      simp only [hu, Cell.okWide] at hval
      cases v <;> simp_all [Cell.ok, Value.cells, Desc.cells, Desc.value]
    · cases ht
  | agg r =>
    simp only [Desc.ok] at ht
    split at ht
    · rename_i fs hu
      simp only [hu] at hval
      obtain ⟨cs, rfl, _⟩ := hval
      show Value.agg cs = Value.agg ⟨r.cells x⟩
      rw [← show cs.toList = r.cells x from hc]
    · cases ht
  | arr k e n =>
    simp only [Desc.ok] at ht
    split at ht
    · rename_i k' e' hu
      simp only [hu] at hval
      obtain ⟨cs, rfl, _⟩ := hval
      show Value.agg cs = Value.agg ⟨(Desc.arr k e n).cells x⟩
      rw [← show cs.toList = (Desc.arr k e n).cells x from hc]
    · cases ht
  | nil => simp [Desc.ok] at ht
  | cons d n r => simp [Desc.ok] at ht
end

theorem cell_same {w w' : World} {b i : Nat} (hf : ∀ S, Fr8 w w' S) (hb : b < w.heap.size) : w'.cell? ⟨b, i, none⟩ = w.cell? ⟨b, i, none⟩ := by
  have := (hf fun _ => False).same b hb (by simp)
  simp [World.cell?, this]

theorem ElemsAt.fr {α : Type} {w w' : World} {s : SliceV} {n : Nat} {f : α → List Value} {xs : List α} (h : ElemsAt w s n f xs) (hf : ∀ S, Fr8 w w' S) : ElemsAt w' s n f xs := by
  obtain ⟨h1, h2, h3, h4⟩ := h
  refine ⟨h1, h2, h3, fun hne => ?_⟩
  obtain ⟨b, o, ha, hb, hc⟩ := h4 hne
  exact ⟨b, o, ha, Nat.lt_of_lt_of_le hb (hf fun _ => False).size, fun i x hi => ⟨(hc i x hi).1, fun j v hj => by rw [cell_same hf hb]; exact (hc i x hi).2 j v hj⟩⟩

theorem Desc.In.fr {w w' : World} (hf : ∀ S, Fr8 w w' S) : ∀ (d : Desc) (x : d.T), d.In w x → d.In w' x := by
  intro d
  induction d with
  | bool => exact fun _ h => h
  | int k => exact fun _ h => h
  | str => exact fun _ h => h
  | slice e n ih => exact fun x h => ⟨h.1.fr hf, fun y hy => ih y (h.2 y hy)⟩
  | agg r ih => exact fun x h => ih x h
  | nil => exact fun _ h => h
  | cons d n r ih1 ih2 => exact fun x h => ⟨ih1 _ h.1, ih2 _ h.2⟩
  | arr k d n ih => exact fun xs h => ⟨h.1, fun y hy => ih y (h.2 y hy)⟩

theorem below_of {W w' : World} (h : ∀ S, Fr8 W w' S) : Go.RowKit.Below W.heap.size W w' :=
  ⟨(h fun _ => False).io.1, (h fun _ => False).io.2.1, (h fun _ => False).io.2.2, (h fun _ => False).size, fun k hk => (h fun _ => False).same k hk (by simp)⟩
end Gp
