import Derived.Test.YtmcdmhegjhcjhaaGreatMapB
/- Maps with values. -/
namespace Gp
open Go

/-- The map at r has these keys with these values. -/
def MapF {α β : Type} (enc : α → Value) (ev : β → Value) (w : World) (r : Nat) (l : List (α × β)) : Prop :=
  ∃ es clock, w.heap[r]? = some (.map es clock) ∧ es.toList.map (fun e => (e.key, e.val)) = (l.map fun x => (enc x.1, ev x.2)) ∧ (es.toList.map (·.born)).Nodup ∧ ∀ e ∈ es.toList, e.born < clock

section
variable {α β : Type} {enc : α → Value} {ev : β → Value} {w w' : World} {r : Nat} {l : List (α × β)} {P : Program} {kt : TypeId}

theorem MapF.fr {S : Nat → Prop} (h : MapF enc ev w r l) (hf : Fr8 w w' S) (hs : ¬ S r) : MapF enc ev w' r l := by
  obtain ⟨es, c, h1, h2, h3⟩ := h
  exact ⟨es, c, by rw [hf.same r (Array.getElem?_eq_some_iff.1 h1).1 hs]; exact h1, h2, h3⟩
theorem MapF.ext (h : MapF enc ev w r l) (hf : Ext w w') : MapF enc ev w' r l := h.fr (hf fun _ => False) (by simp)
theorem MapF.lt (h : MapF enc ev w r l) : r < w.heap.size := by
  obtain ⟨es, c, h1, h2⟩ := h
  exact (Array.getElem?_eq_some_iff.1 h1).1

theorem MapF.new (w : World) (enc : α → Value) (ev : β → Value) : MapF enc ev (w.alloc (.map #[] 0)) w.heap.size [] := ⟨#[], 0, World.alloc_heap_new w _, rfl, by simp, by simp⟩

variable [DecidableEq α]

/-- The value of a key. -/
def lkF : List (α × β) → α → Option β
  | [], _ => none
  | x :: l, a => if a = x.1 then some x.2 else lkF l a
/-- A key has a value, and the others what they had. -/
def upF : List (α × β) → α → β → List (α × β)
  | [], a, b => [(a, b)]
  | x :: l, a, b => if a = x.1 then (a, b) :: l else x :: upF l a b

/-- A key is taken out. -/
def delF : List (α × β) → α → List (α × β)
  | [], _ => []
  | x :: l, a => if a = x.1 then l else x :: delF l a

theorem lk_up (l : List (α × β)) (a a' : α) (b : β) : lkF (upF l a b) a' = if a' = a then some b else lkF l a' := by
  induction l with
  | nil => unfold upF lkF; split <;> simp_all [lkF]
  | cons x l ih =>
    unfold upF
    by_cases h : a = x.1
    · rw [if_pos h]
      unfold lkF
      by_cases h' : a' = a
      · rw [if_pos h', if_pos h']
      · rw [if_neg h', if_neg h', if_neg (by rw [← h]; exact h')]
    · rw [if_neg h]
      unfold lkF
      by_cases h' : a' = x.1
      · rw [if_pos h', if_pos h', if_neg (by rw [h']; exact fun e => h e.symm)]
      · rw [if_neg h', if_neg h', ih]

theorem lk_none {l : List (α × β)} {a : α} : lkF l a = none ↔ a ∉ l.map (·.1) := by
  induction l with
  | nil => simp [lkF]
  | cons x l ih =>
    unfold lkF
    by_cases h : a = x.1
    · rw [if_pos h]; simp [h]
    · rw [if_neg h, ih]; simp [h]

theorem up_keys (l : List (α × β)) (a : α) (b : β) : (upF l a b).map (·.1) = if a ∈ l.map (·.1) then l.map (·.1) else l.map (·.1) ++ [a] := by
  induction l with
  | nil => simp [upF]
  | cons x l ih =>
    unfold upF
    by_cases h : a = x.1
    · rw [if_pos h]; simp [h]
    · rw [if_neg h, List.map_cons, ih, List.map_cons]
      by_cases h' : a ∈ l.map (·.1)
      · rw [if_pos h', if_pos (List.mem_cons_of_mem _ h')]
      · rw [if_neg h', if_neg (by simp only [List.mem_cons, not_or]; exact ⟨h, h'⟩)]; simp

theorem up_nodup {l : List (α × β)} (h : (l.map (·.1)).Nodup) (a : α) (b : β) : ((upF l a b).map (·.1)).Nodup := by
  rw [up_keys]
  split
  · exact h
  · rename_i hn
    rw [List.nodup_append]
    exact ⟨h, by simp, fun x hx y hy e => by simp only [List.mem_singleton] at hy; subst hy; subst e; exact hn hx⟩

theorem del_sub (l : List (α × β)) (a : α) : (delF l a).Sublist l := by
  induction l with
  | nil => exact List.Sublist.refl _
  | cons x l ih =>
    unfold delF
    split
    · exact List.sublist_cons_self _ _
    · exact ih.cons_cons _

theorem lk_del {l : List (α × β)} (h : (l.map (·.1)).Nodup) (a a' : α) : lkF (delF l a) a' = if a' = a then none else lkF l a' := by
  induction l with
  | nil => unfold delF lkF; split <;> rfl
  | cons x l ih =>
    rw [List.map_cons, List.nodup_cons] at h
    unfold delF
    by_cases hx : a = x.1
    · rw [if_pos hx]
      by_cases h' : a' = a
      · rw [if_pos h', h', hx]; exact lk_none.2 h.1
      · rw [if_neg h']
        conv => rhs; unfold lkF
        rw [if_neg (by rw [← hx]; exact h')]
    · rw [if_neg hx]
      unfold lkF
      rw [ih h.2]
      by_cases h' : a' = x.1
      · rw [if_pos h', if_pos h', if_neg (by rw [h']; exact fun e => hx e.symm)]
      · rw [if_neg h', if_neg h']

theorem findV_F (hE : ∀ a b : α, eqT P 16 kt (enc a) (enc b) = some (decide (a = b))) (a : α) (b : β) : ∀ (es : List MapEntry) (l : List (α × β)) (i : Nat), es.map (fun e => (e.key, e.val)) = (l.map fun x => (enc x.1, ev x.2)) →
    (lkF l a = none ∧ findV P kt (enc a) es i = some none ∧ upF l a b = l ++ [(a, b)]) ∨
    ∃ j v e, lkF l a = some v ∧ findV P kt (enc a) es i = some (some (i + j, ev v)) ∧ es[j]? = some e ∧ e.key = enc a ∧
      (es.modify j fun e => { e with key := enc a, val := ev b }).map (fun e => (e.key, e.val)) = (upF l a b).map fun x => (enc x.1, ev x.2) := by
  intro es
  induction es with
  | nil =>
    intro l i h
    cases l with
    | nil => exact .inl ⟨rfl, rfl, rfl⟩
    | cons x l => simp at h
  | cons e es ih =>
    intro l i h
    cases l with
    | nil => simp at h
    | cons x l =>
      simp only [List.map_cons, List.cons.injEq, Prod.mk.injEq] at h
      obtain ⟨⟨h1, h2⟩, h3⟩ := h
      unfold findV lkF upF
      rw [h1, hE]
      by_cases hx : a = x.1
      · simp only [hx, decide_true, if_true]
        refine .inr ⟨0, x.2, e, rfl, by rw [h2, Nat.add_zero], rfl, h1, ?_⟩
        simp [List.modify, h3]
      · simp only [hx, decide_false, if_false]
        rcases ih l (i + 1) h3 with ⟨g1, g2, g3⟩ | ⟨j, v, e', g1, g2, g3, g4, g5⟩
        · exact .inl ⟨g1, g2, by rw [g3]; rfl⟩
        · refine .inr ⟨j + 1, v, e', g1, by rw [g2]; congr 3; omega, by simpa using g3, g4, ?_⟩
          simp only [List.modify_succ_cons, List.map_cons, g5, h1, h2]

theorem MapGet_F {k : Kind} (h : MapF enc ev w r l) (hE : ∀ a b : α, eqT P 16 kt (enc a) (enc b) = some (decide (a = b))) (a : α) (hk : keyOK P kt (enc a) = true) {z : Value} {K : k.T → Prop}
    (h0 : lkF l a = none → k.dec z K) (h1 : ∀ b, lkF l a = some b → k.dec (ev b) K) : MapGet P kt k (some r) (enc a) z w K := by
  obtain ⟨es, c, g1, g2, _⟩ := h
  refine ⟨hk, .inr ⟨r, es, c, rfl, g1, ?_⟩⟩
  cases hl : lkF l a with
  | none =>
    cases l with
    | nil =>
      have : es.toList = [] := by simpa using g2
      exact ⟨none, by rw [this]; rfl, h0 hl⟩
    | cons x l' =>
      rcases findV_F hE a x.2 es.toList _ 0 g2 with ⟨_, q2, _⟩ | ⟨j, v, e, q1, _⟩
      · exact ⟨_, q2, h0 hl⟩
      · rw [hl] at q1; cases q1
  | some b =>
    rcases findV_F hE a b es.toList _ 0 g2 with ⟨q1, _, _⟩ | ⟨j, v, e, q1, q2, _⟩
    · rw [hl] at q1; cases q1
    · rw [hl] at q1; cases q1
      exact ⟨_, q2, h1 b hl⟩

theorem modify_born (es : List MapEntry) (j : Nat) (k v : Value) : (es.modify j fun e => { e with key := k, val := v }).map (·.born) = es.map (·.born) := by
  induction es generalizing j with
  | nil => simp
  | cons e es ih =>
    cases j with
    | zero => simp [List.modify]
    | succ j => rw [List.modify_succ_cons, List.map_cons, List.map_cons, ih]

theorem MapSet_F (h : MapF enc ev w r l) (hE : ∀ a b : α, eqT P 16 kt (enc a) (enc b) = some (decide (a = b))) (a : α) (b : β) (hk : keyOK P kt (enc a) = true) {K : World → Prop}
    (hK : ∀ w', MapF enc ev w' r (upF l a b) → Fr8 w w' (· = r) → w'.heap.size = w.heap.size → K w') : MapSet P kt (some r) (enc a) (ev b) w K := by
  obtain ⟨es, c, h1, h2, h3, h4⟩ := h
  have hlt := (Array.getElem?_eq_some_iff.1 h1).1
  rcases findV_F hE a b es.toList _ 0 h2 with ⟨_, q2, q3⟩ | ⟨j, v, e, q1, q2, q3, q4, q5⟩
  · refine ⟨hk, r, es, c, rfl, h1, none, q2, ?_⟩
    show K (w.putObj r (.map (es.push { key := enc a, val := ev b, born := c }) (c + 1)))
    refine hK _ ⟨es.push { key := enc a, val := ev b, born := c }, c + 1, by simp [World.putObj, Array.getElem?_setIfInBounds, hlt], ?_, ?_, ?_⟩ (Fr8.putDef _ _ _) (by simp [World.putObj])
    · rw [q3]
      simp [h2]
    · rw [Array.toList_push, List.map_append, List.nodup_append]
      refine ⟨h3, by simp, fun x hx y hy e => ?_⟩
      obtain ⟨e', he', rfl⟩ := List.mem_map.1 hx
      have := h4 e' he'
      simp at hy
      omega
    · intro e he
      rw [Array.toList_push] at he
      rcases List.mem_append.1 he with he | he
      · have := h4 e he; omega
      · have : e = { key := enc a, val := ev b, born := c } := by simpa using he
        rw [this]; simp
  · rw [Nat.zero_add] at q2
    refine ⟨hk, r, es, c, rfl, h1, _, q2, ⟨e, by rw [← Array.getElem?_toList]; exact q3, q4⟩, ?_⟩
    refine hK _ ⟨_, c, by simp [World.putObj, Array.getElem?_setIfInBounds, hlt]; rfl, ?_, ?_, ?_⟩ (Fr8.putDef _ _ _) (by simp [World.putObj])
    · rw [Array.toList_modify]
      exact q5
    · rw [Array.toList_modify, modify_born]; exact h3
    · intro e' he'
      have hm : e'.born ∈ (es.toList.map (·.born)) := by
        rw [← modify_born es.toList j (enc a) (ev b), ← Array.toList_modify]
        exact List.mem_map_of_mem he'
      obtain ⟨e'', he'', hb⟩ := List.mem_map.1 hm
      rw [← hb]; exact h4 e'' he''

theorem findV_del (hE : ∀ a b : α, eqT P 16 kt (enc a) (enc b) = some (decide (a = b))) (a : α) : ∀ (es : List MapEntry) (l : List (α × β)) (i : Nat), es.map (fun e => (e.key, e.val)) = (l.map fun x => (enc x.1, ev x.2)) →
    (findV P kt (enc a) es i = some none ∧ delF l a = l) ∨
    ∃ j v, j < es.length ∧ findV P kt (enc a) es i = some (some (i + j, v)) ∧ (es.eraseIdx j).map (fun e => (e.key, e.val)) = (delF l a).map fun x => (enc x.1, ev x.2) := by
  intro es
  induction es with
  | nil =>
    intro l i h
    cases l with
    | nil => exact .inl ⟨rfl, rfl⟩
    | cons x l => simp at h
  | cons e es ih =>
    intro l i h
    cases l with
    | nil => simp at h
    | cons x l =>
      simp only [List.map_cons, List.cons.injEq, Prod.mk.injEq] at h
      obtain ⟨⟨h1, h2⟩, h3⟩ := h
      unfold findV delF
      rw [h1, hE]
      by_cases hx : a = x.1
      · simp only [hx, decide_true, if_true]
        exact .inr ⟨0, e.val, by simp, by rw [Nat.add_zero], by simpa using h3⟩
      · simp only [hx, decide_false, if_false]
        rcases ih l (i + 1) h3 with ⟨g1, g2⟩ | ⟨j, v, g1, g2, g3⟩
        · exact .inl ⟨g1, by rw [g2]⟩
        · refine .inr ⟨j + 1, v, by simp; omega, by rw [g2]; congr 3; omega, ?_⟩
          simp only [List.eraseIdx_cons_succ, List.map_cons, g3, h1, h2]

theorem MapDel_F (h : MapF enc ev w r l) (hE : ∀ a b : α, eqT P 16 kt (enc a) (enc b) = some (decide (a = b))) (a : α) (hk : keyOK P kt (enc a) = true) {K : World → Prop}
    (hK : ∀ w', MapF enc ev w' r (delF l a) → Fr8 w w' (· = r) → w'.heap.size = w.heap.size → K w') : MapDel P kt (some r) (enc a) w K := by
  obtain ⟨es, c, h1, h2, h3, h4⟩ := h
  have hlt := (Array.getElem?_eq_some_iff.1 h1).1
  rcases findV_del hE a es.toList _ 0 h2 with ⟨q1, q2⟩ | ⟨j, v, q0, q1, q2⟩
  · refine ⟨hk, .inr ⟨r, es, c, rfl, h1, none, q1, ?_⟩⟩
    refine hK _ ⟨es, c, by simp [World.putObj, Array.getElem?_setIfInBounds, hlt], ?_, h3, h4⟩ (Fr8.putDef _ _ _) (by simp [World.putObj])
    rw [q2]; exact h2
  · rw [Nat.zero_add] at q1
    refine ⟨hk, .inr ⟨r, es, c, rfl, h1, _, q1, ?_⟩⟩
    have hsub : (es.eraseIdxIfInBounds j).toList.Sublist es.toList := by rw [Array.toList_eraseIdxIfInBounds]; exact List.eraseIdx_sublist _ _
    refine hK _ ⟨es.eraseIdxIfInBounds j, c, by simp [World.putObj, Array.getElem?_setIfInBounds, hlt], ?_, h3.sublist (hsub.map _), fun e he => h4 e (hsub.mem he)⟩ (Fr8.putDef _ _ _) (by simp [World.putObj])
    rw [Array.toList_eraseIdxIfInBounds]
    exact q2

end
end Gp
