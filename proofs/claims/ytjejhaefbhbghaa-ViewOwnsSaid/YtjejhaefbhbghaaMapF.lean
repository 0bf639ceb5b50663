import Derived.Test.YtjejhaefbhbghaaMapB
/- Maps with values. -/
namespace Gp
open Go

/-- The map at r has these keys with these values. -/
def MapF {α β : Type} (enc : α → Value) (ev : β → Value) (w : World) (r : Nat) (l : List (α × β)) : Prop :=
  ∃ es clock, w.heap[r]? = some (.map es clock) ∧ es.toList.map (fun e => (e.key, e.val)) = l.map fun x => (enc x.1, ev x.2)

section
variable {α β : Type} {enc : α → Value} {ev : β → Value} {w w' : World} {r : Nat} {l : List (α × β)} {P : Program} {kt : TypeId}

theorem MapF.fr {S : Nat → Prop} (h : MapF enc ev w r l) (hf : Fr8 w w' S) (hs : ¬ S r) : MapF enc ev w' r l := by
  obtain ⟨es, c, h1, h2⟩ := h
  exact ⟨es, c, by rw [hf.same r (Array.getElem?_eq_some_iff.1 h1).1 hs]; exact h1, h2⟩
theorem MapF.ext (h : MapF enc ev w r l) (hf : Ext w w') : MapF enc ev w' r l := h.fr (hf fun _ => False) (by simp)
theorem MapF.lt (h : MapF enc ev w r l) : r < w.heap.size := by
  obtain ⟨es, c, h1, h2⟩ := h
  exact (Array.getElem?_eq_some_iff.1 h1).1

theorem MapF.new (w : World) (enc : α → Value) (ev : β → Value) : MapF enc ev (w.alloc (.map #[] 0)) w.heap.size [] := ⟨#[], 0, World.alloc_heap_new w _, rfl⟩

variable [DecidableEq α]

/-- The value of a key. -/
def lkF : List (α × β) → α → Option β
  | [], _ => none
  | x :: l, a => if a = x.1 then some x.2 else lkF l a
/-- A key has a value, and the others what they had. -/
def upF : List (α × β) → α → β → List (α × β)
  | [], a, b => [(a, b)]
  | x :: l, a, b => if a = x.1 then (a, b) :: l else x :: upF l a b

theorem findV_F (hE : ∀ a b : α, eqT P 16 kt (enc a) (enc b) = some (decide (a = b))) (a : α) (b : β) : ∀ (es : List MapEntry) (l : List (α × β)) (i : Nat), es.map (fun e => (e.key, e.val)) = (l.map fun x => (enc x.1, ev x.2)) →
    (lkF l a = none ∧ findV P kt (enc a) es i = some none ∧ upF l a b = l ++ [(a, b)]) ∨
    ∃ j v e, lkF l a = some v ∧ findV P kt (enc a) es i = some (some (i + j, ev v)) ∧ es[j]? = some e ∧ e.key = enc a ∧
      (es.modify j fun e => { e with key := enc a, val := ev b }).map (fun e => (e.key, e.val)) = (upF l a b).map fun x => (enc x.1, ev x.2) := by
  intro es
  induction es with
  | nil =>
    intro l i h
    cases l with
    | nil => exact .inl ⟨rfl, rfl, rfl⟩
    | cons x l => simp at h
  | cons e es ih =>
    intro l i h
    cases l with
    | nil => simp at h
    | cons x l =>
      simp only [List.map_cons, List.cons.injEq, Prod.mk.injEq] at h
      obtain ⟨⟨h1, h2⟩, h3⟩ := h
      unfold findV lkF upF
      rw [h1, hE]
      by_cases hx : a = x.1
      · simp only [hx, decide_true, if_true]
        refine .inr ⟨0, x.2, e, rfl, by rw [h2, Nat.add_zero], rfl, h1, ?_⟩
        simp [List.modify, h3]
      · simp only [hx, decide_false, if_false]
        rcases ih l (i + 1) h3 with ⟨g1, g2, g3⟩ | ⟨j, v, e', g1, g2, g3, g4, g5⟩
        · exact .inl ⟨g1, g2, by rw [g3]; rfl⟩
        · refine .inr ⟨j + 1, v, e', g1, by rw [g2]; congr 3; omega, by simpa using g3, g4, ?_⟩
          simp only [List.modify_succ_cons, List.map_cons, g5, h1, h2]

theorem MapGet_F {k : Kind} (h : MapF enc ev w r l) (hE : ∀ a b : α, eqT P 16 kt (enc a) (enc b) = some (decide (a = b))) (a : α) (hk : keyOK P kt (enc a) = true) {z : Value} {K : k.T → Prop}
    (h0 : lkF l a = none → k.dec z K) (h1 : ∀ b, lkF l a = some b → k.dec (ev b) K) : MapGet P kt k (some r) (enc a) z w K := by
  obtain ⟨es, c, g1, g2⟩ := h
  refine ⟨hk, .inr ⟨r, es, c, rfl, g1, ?_⟩⟩
  cases hl : lkF l a with
  | none =>
    cases l with
    | nil =>
      have : es.toList = [] := by simpa using g2
      exact ⟨none, by rw [this]; rfl, h0 hl⟩
    | cons x l' =>
      rcases findV_F hE a x.2 es.toList _ 0 g2 with ⟨_, q2, _⟩ | ⟨j, v, e, q1, _⟩
      · exact ⟨_, q2, h0 hl⟩
      · rw [hl] at q1; cases q1
  | some b =>
    rcases findV_F hE a b es.toList _ 0 g2 with ⟨q1, _, _⟩ | ⟨j, v, e, q1, q2, _⟩
    · rw [hl] at q1; cases q1
    · rw [hl] at q1; cases q1
      exact ⟨_, q2, h1 b hl⟩

theorem MapSet_F (h : MapF enc ev w r l) (hE : ∀ a b : α, eqT P 16 kt (enc a) (enc b) = some (decide (a = b))) (a : α) (b : β) (hk : keyOK P kt (enc a) = true) {K : World → Prop}
    (hK : ∀ w', MapF enc ev w' r (upF l a b) → Fr8 w w' (· = r) → w'.heap.size = w.heap.size → K w') : MapSet P kt (some r) (enc a) (ev b) w K := by
  obtain ⟨es, c, h1, h2⟩ := h
  have hlt := (Array.getElem?_eq_some_iff.1 h1).1
  rcases findV_F hE a b es.toList _ 0 h2 with ⟨_, q2, q3⟩ | ⟨j, v, e, q1, q2, q3, q4, q5⟩
  · refine ⟨hk, r, es, c, rfl, h1, none, q2, ?_⟩
    show K (w.putObj r (.map (es.push { key := enc a, val := ev b, born := c }) (c + 1)))
    refine hK _ ⟨es.push { key := enc a, val := ev b, born := c }, c + 1, by simp [World.putObj, Array.getElem?_setIfInBounds, hlt], ?_⟩ (Fr8.putDef _ _ _) (by simp [World.putObj])
    rw [q3]
    simp [h2]
  · rw [Nat.zero_add] at q2
    refine ⟨hk, r, es, c, rfl, h1, _, q2, ⟨e, by rw [← Array.getElem?_toList]; exact q3, q4⟩, ?_⟩
    refine hK _ ⟨_, c, by simp [World.putObj, Array.getElem?_setIfInBounds, hlt]; rfl, ?_⟩ (Fr8.putDef _ _ _) (by simp [World.putObj])
    rw [Array.toList_modify]
    exact q5

end
end Gp
