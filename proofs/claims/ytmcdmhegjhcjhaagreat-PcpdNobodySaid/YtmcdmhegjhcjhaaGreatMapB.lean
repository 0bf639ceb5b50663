import Derived.Test.YtmcdmhegjhcjhaaGreatBits
/- Maps that tell which keys were met. -/
namespace Gp
open Go

/-- The map at r has just the keys xs, each with true. -/
def MapB {α : Type} (enc : α → Value) (w : World) (r : Nat) (xs : List α) : Prop :=
  ∃ es clock, w.heap[r]? = some (.map es clock) ∧ es.toList.map (fun e => (e.key, e.val)) = xs.map fun x => (enc x, .bool true)

section
variable {α : Type} {enc : α → Value} {w w' : World} {r : Nat} {xs : List α} {P : Program} {kt : TypeId}

theorem MapB.fr {S : Nat → Prop} (h : MapB enc w r xs) (hf : Fr8 w w' S) (hs : ¬ S r) : MapB enc w' r xs := by
  obtain ⟨es, c, h1, h2⟩ := h
  exact ⟨es, c, by rw [hf.same r (Array.getElem?_eq_some_iff.1 h1).1 hs]; exact h1, h2⟩
theorem MapB.ext (h : MapB enc w r xs) (hf : Ext w w') : MapB enc w' r xs := h.fr (hf fun _ => False) (by simp)
theorem MapB.lt (h : MapB enc w r xs) : r < w.heap.size := by
  obtain ⟨es, c, h1, h2⟩ := h
  exact (Array.getElem?_eq_some_iff.1 h1).1

theorem MapB.new (w : World) (enc : α → Value) : MapB enc (w.alloc (.map #[] 0)) w.heap.size [] := ⟨#[], 0, World.alloc_heap_new w _, rfl⟩

theorem MapLen_B (h : MapB enc w r xs) {K : Int → Prop} (hK : K (xs.length : Int)) : MapLen w (some r) K := by
  obtain ⟨es, c, h1, h2⟩ := h
  refine ⟨es, c, h1, ?_⟩
  have : es.size = xs.length := by
    have := congrArg List.length h2
    simpa using this
  rw [this]; exact hK

variable [DecidableEq α]

theorem findV_mem (hE : ∀ a b : α, eqT P 16 kt (enc a) (enc b) = some (decide (a = b))) (a : α) : ∀ (es : List MapEntry) (xs : List α) (i : Nat), es.map (fun e => (e.key, e.val)) = (xs.map fun x => (enc x, Value.bool true)) →
    (a ∈ xs → ∃ j, findV P kt (enc a) es i = some (some (j, .bool true))) ∧ (a ∉ xs → findV P kt (enc a) es i = some none) := by
  intro es
  induction es with
  | nil =>
    intro xs i h
    cases xs with
    | nil => exact ⟨fun h => by simp at h, fun _ => rfl⟩
    | cons x xs => simp at h
  | cons e es ih =>
    intro xs i h
    cases xs with
    | nil => simp at h
    | cons x xs =>
      simp only [List.map_cons, List.cons.injEq, Prod.mk.injEq] at h
      obtain ⟨⟨h1, h2⟩, h3⟩ := h
      have hi := ih xs (i + 1) h3
      unfold findV
      rw [h1, hE]
      by_cases hx : a = x
      · subst hx
        simp only [decide_true]
        exact ⟨fun _ => ⟨i, by rw [h2]⟩, fun hn => by simp at hn⟩
      · simp only [hx, decide_false]
        exact ⟨fun hm => hi.1 (by simpa [hx] using hm), fun hn => hi.2 (by simp at hn; exact hn.2)⟩

theorem MapGet_B (h : MapB enc w r xs) (hE : ∀ a b : α, eqT P 16 kt (enc a) (enc b) = some (decide (a = b))) (a : α) (hk : keyOK P kt (enc a) = true) {K : Bool → Prop} (hK : K (decide (a ∈ xs))) : MapGet P kt .bool (some r) (enc a) (.bool false) w K := by
  obtain ⟨es, c, h1, h2⟩ := h
  refine ⟨hk, .inr ⟨r, es, c, rfl, h1, ?_⟩⟩
  have hf := findV_mem hE a es.toList xs 0 h2
  by_cases hm : a ∈ xs
  · obtain ⟨j, hj⟩ := hf.1 hm
    exact ⟨_, hj, by simpa [hm, Kind.dec] using hK⟩
  · exact ⟨_, hf.2 hm, by simpa [hm, Kind.dec] using hK⟩

theorem MapSet_B (h : MapB enc w r xs) (hE : ∀ a b : α, eqT P 16 kt (enc a) (enc b) = some (decide (a = b))) (a : α) (hk : keyOK P kt (enc a) = true) (hn : a ∉ xs) {K : World → Prop}
    (hK : ∀ w', MapB enc w' r (xs ++ [a]) → Fr8 w w' (· = r) → w'.heap.size = w.heap.size → K w') : MapSet P kt (some r) (enc a) (.bool true) w K := by
  obtain ⟨es, c, h1, h2⟩ := h
  have hlt := (Array.getElem?_eq_some_iff.1 h1).1
  refine ⟨hk, r, es, c, rfl, h1, none, (findV_mem hE a es.toList xs 0 h2).2 hn, ?_⟩
  show K (w.putObj r (.map (es.push { key := enc a, val := .bool true, born := c }) (c + 1)))
  refine hK _ ⟨es.push { key := enc a, val := .bool true, born := c }, c + 1, by simp [World.putObj, Array.getElem?_setIfInBounds, hlt], ?_⟩ (Fr8.putDef _ _ _) (by simp [World.putObj])
  simp [h2]

end
end Gp
