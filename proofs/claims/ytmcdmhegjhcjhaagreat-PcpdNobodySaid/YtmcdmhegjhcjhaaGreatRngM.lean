import Derived.Test.YtmcdmhegjhcjhaaGreatMapF
/- Ranges over maps: whatever the order, each entry comes once. -/
namespace Gp
open Go

/-- The map at r has these keys with these values; the iterator at q has still to hand out todo. -/
def ItF {α β : Type} (enc : α → Value) (ev : β → Value) (w : World) (q r : Nat) (l todo : List (α × β)) : Prop :=
  ∃ seen es clock, w.heap[q]? = some (.mapIter (some r) clock seen clock) ∧ w.heap[r]? = some (.map es clock) ∧
    es.toList.map (fun e => (e.key, e.val)) = (l.map fun x => (enc x.1, ev x.2)) ∧ (es.toList.map (·.born)).Nodup ∧ (∀ e ∈ es.toList, e.born < clock) ∧
    (leftOf es seen).toList.map (fun e => (e.key, e.val)) = todo.map fun x => (enc x.1, ev x.2)

/-- What was handed out last. -/
def CurF {α β : Type} (enc : α → Value) (ev : β → Value) (w : World) (q : Nat) (x : α × β) : Prop := ∀ K : Value → Value → Prop, K (enc x.1) (ev x.2) → EntryM q w K

section
variable {α β : Type} {enc : α → Value} {ev : β → Value} {w w' : World} {q r : Nat} {l todo : List (α × β)} {P : Program} {kt : TypeId}

theorem ItF.map (h : ItF enc ev w q r l todo) : MapF enc ev w r l := by
  obtain ⟨seen, es, c, _, h2, h3, h4, h5, _⟩ := h
  exact ⟨es, c, h2, h3, h4, h5⟩

theorem ItF.fr {S : Nat → Prop} (h : ItF enc ev w q r l todo) (hf : Fr8 w w' S) (h1 : ¬ S q) (h2 : ¬ S r) : ItF enc ev w' q r l todo := by
  obtain ⟨seen, es, c, g1, g2, g⟩ := h
  exact ⟨seen, es, c, by rw [hf.same q (Array.getElem?_eq_some_iff.1 g1).1 h1]; exact g1, by rw [hf.same r (Array.getElem?_eq_some_iff.1 g2).1 h2]; exact g2, g⟩
theorem ItF.ext (h : ItF enc ev w q r l todo) (hf : Ext w w') : ItF enc ev w' q r l todo := h.fr (hf fun _ => False) (by simp) (by simp)

theorem leftOf_nil (es : Array MapEntry) : (leftOf es #[]).toList = es.toList := by
  unfold leftOf
  rw [Array.toList_filter]
  exact List.filter_eq_self.2 fun x _ => by simp

theorem RngMap_F (h : MapF enc ev w r l) {K : Addr → World → Prop} (hK : ∀ w', ItF enc ev w' w.heap.size r l l → Ext w w' → w'.heap.size = w.heap.size + 1 → K ⟨w.heap.size, 0, none⟩ w') : RngMap (some r) w K := by
  obtain ⟨es, c, h1, h2, h3, h4⟩ := h
  refine .inr ⟨r, es, c, rfl, h1, hK _ ⟨#[], es, c, World.alloc_heap_new w _, ?_, h2, h3, h4, by rw [leftOf_nil]; exact h2⟩ (fun S => Fr8.alloc w _ S) (by simp)⟩
  have := (Fr8.alloc w (.mapIter (some r) c #[] c) fun _ => False).same r (Array.getElem?_eq_some_iff.1 h1).1 (by simp)
  rw [this]; exact h1

theorem RngMap_nil {K : Addr → World → Prop} (hK : ∀ w', w'.heap[w.heap.size]? = some (.mapIter none 0 #[] 0) → Ext w w' → w'.heap.size = w.heap.size + 1 → K ⟨w.heap.size, 0, none⟩ w') : RngMap none w K :=
  .inl ⟨rfl, hK _ (World.alloc_heap_new w _) (fun S => Fr8.alloc w _ S) (by simp)⟩

theorem filter_erase : ∀ {L : List MapEntry} {i : Nat} {e : MapEntry}, (L.map (·.born)).Nodup → L[i]? = some e → L.filter (fun x => !(x.born == e.born)) = L.eraseIdx i
  | [], i, e, _, h => by simp at h
  | x :: L, 0, e, hn, h => by
    rw [List.getElem?_cons_zero] at h
    cases h
    rw [List.map_cons, List.nodup_cons] at hn
    rw [List.filter_cons_of_neg (by simp), List.eraseIdx_cons_zero]
    refine List.filter_eq_self.2 fun y hy => ?_
    have : y.born ≠ x.born := fun e => hn.1 (List.mem_map.2 ⟨y, hy, e⟩)
    simp [this]
  | x :: L, i + 1, e, hn, h => by
    rw [List.getElem?_cons_succ] at h
    rw [List.map_cons, List.nodup_cons] at hn
    have : x.born ≠ e.born := fun he => hn.1 (List.mem_map.2 ⟨e, List.mem_of_getElem? h, he.symm⟩)
    rw [List.filter_cons_of_pos (by simp [this]), List.eraseIdx_cons_succ, filter_erase hn.2 h]

theorem map_eraseIdx' {γ δ : Type} (f : γ → δ) (L : List γ) (i : Nat) : (L.eraseIdx i).map f = (L.map f).eraseIdx i := by
  induction L generalizing i with
  | nil => simp
  | cons x L ih => cases i <;> simp [ih]

theorem NextM_F (h : ItF enc ev w q r l todo) (hqr : q ≠ r) {Kend : World → Prop} {Kstep : Value → Value → World → Prop} (he : todo = [] → Kend w)
    (hs : ∀ i x w', todo[i]? = some x → ItF enc ev w' q r l (todo.eraseIdx i) → CurF enc ev w' q x → Fr8 w w' (· = q) → w'.heap.size = w.heap.size → Kstep (enc x.1) (ev x.2) w') : NextM q w Kend Kstep := by
  obtain ⟨seen, es, c, g1, g2, g3, g4, g5, g6⟩ := h
  refine .inr ⟨r, c, seen, c, es, c, g1, g2, g5, Nat.le_refl _, fun h0 => he ?_, fun e hm w1 hw1 => ?_⟩
  · have : (leftOf es seen).toList = [] := by
      have : leftOf es seen = #[] := Array.eq_empty_of_size_eq_zero h0
      rw [this]
    rw [this] at g6
    exact List.map_eq_nil_iff.1 g6.symm
  · obtain ⟨i, hi⟩ := List.getElem?_of_mem hm
    have hx := congrArg (fun L => L[i]?) g6
    simp only [List.getElem?_map, hi, Option.map_some] at hx
    obtain ⟨x, hx1, hx2⟩ := Option.map_eq_some_iff.1 hx.symm
    simp only [Prod.mk.injEq] at hx2
    have hql := (Array.getElem?_eq_some_iff.1 g1).1
    have hrl := (Array.getElem?_eq_some_iff.1 g2).1
    have hsz : w1.heap = w.heap := by rcases hw1 with rfl | rfl <;> rfl
    have hem : e ∈ es.toList := by
      unfold leftOf at hm
      rw [Array.toList_filter] at hm
      exact (List.mem_filter.1 hm).1
    have q1 : (w1.putObj q (.mapIter (some r) c (seen.push e.born) c)).heap[q]? = some (.mapIter (some r) c (seen.push e.born) c) := by
      simp [World.putObj, hsz, Array.getElem?_setIfInBounds, hql]
    have r1 : (w1.putObj q (.mapIter (some r) c (seen.push e.born) c)).heap[r]? = some (.map es c) := by
      simp [World.putObj, hsz, Array.getElem?_setIfInBounds, hqr, g2]
    have hnd : ((leftOf es seen).toList.map (·.born)).Nodup := by
      unfold leftOf
      rw [Array.toList_filter]
      exact g4.sublist ((List.filter_sublist).map _)
    have fr : Fr8 w (w1.putObj q (.mapIter (some r) c (seen.push e.born) c)) (· = q) := by
      rcases hw1 with rfl | rfl
      · exact Fr8.putDef _ _ _
      · exact (Fr8.drew w _).trans (Fr8.putDef _ _ _) fun _ _ e => e
    have := hs i x _ hx1 ⟨seen.push e.born, es, c, q1, r1, g3, g4, g5, ?_⟩ (fun K hK => ⟨r, c, seen, es, c, e, q1, r1, hem, g4, by rw [← hx2.1, ← hx2.2]; exact hK⟩) fr (by simp [World.putObj, hsz])
    · rw [hx2.1, hx2.2] at this; exact this
    · have hl : (leftOf es (seen.push e.born)).toList = (leftOf es seen).toList.eraseIdx i := by
        rw [← filter_erase hnd hi]
        unfold leftOf
        rw [Array.toList_filter, Array.toList_filter, List.filter_filter]
        refine List.filter_congr fun y _ => ?_
        rw [contains_push]
        cases seen.contains y.born <;> cases (y.born == e.born) <;> rfl
      rw [hl, map_eraseIdx', g6, ← map_eraseIdx']

variable [DecidableEq α]

theorem findV_del' (hE : ∀ a b : α, eqT P 16 kt (enc a) (enc b) = some (decide (a = b))) (a : α) : ∀ (es : List MapEntry) (l : List (α × β)) (i : Nat), es.map (fun e => (e.key, e.val)) = (l.map fun x => (enc x.1, ev x.2)) →
    (findV P kt (enc a) es i = some none ∧ delF l a = l) ∨
    ∃ j v e, es[j]? = some e ∧ e.key = enc a ∧ findV P kt (enc a) es i = some (some (i + j, v)) ∧ (es.eraseIdx j).map (fun e => (e.key, e.val)) = (delF l a).map fun x => (enc x.1, ev x.2) := by
  intro es
  induction es with
  | nil =>
    intro l i h
    cases l with
    | nil => exact .inl ⟨rfl, rfl⟩
    | cons x l => simp at h
  | cons e es ih =>
    intro l i h
    cases l with
    | nil => simp at h
    | cons x l =>
      simp only [List.map_cons, List.cons.injEq, Prod.mk.injEq] at h
      obtain ⟨⟨h1, h2⟩, h3⟩ := h
      unfold findV delF
      rw [h1, hE]
      by_cases hx : a = x.1
      · simp only [hx, decide_true, if_true]
        exact .inr ⟨0, e.val, e, rfl, h1, by rw [Nat.add_zero], by simpa using h3⟩
      · simp only [hx, decide_false, if_false]
        rcases ih l (i + 1) h3 with ⟨g1, g2⟩ | ⟨j, v, e', g0, g1, g2, g3⟩
        · exact .inl ⟨g1, by rw [g2]⟩
        · refine .inr ⟨j + 1, v, e', by simpa using g0, g1, by rw [g2]; congr 3; omega, ?_⟩
          simp only [List.eraseIdx_cons_succ, List.map_cons, g3, h1, h2]

theorem filter_eraseIdx {γ : Type} {p : γ → Bool} : ∀ {L : List γ} {j : Nat} {x : γ}, L[j]? = some x → p x = false → (L.eraseIdx j).filter p = L.filter p
  | [], _, _, h, _ => by simp at h
  | y :: L, 0, x, h, hp => by
    rw [List.getElem?_cons_zero] at h
    cases h
    rw [List.eraseIdx_cons_zero, List.filter_cons_of_neg (by rw [hp]; simp)]
  | y :: L, j + 1, x, h, hp => by
    rw [List.getElem?_cons_succ] at h
    rw [List.eraseIdx_cons_succ, List.filter_cons, List.filter_cons, filter_eraseIdx h hp]

/-- An entry that was handed out is deleted. -/
theorem MapDel_It (h : ItF enc ev w q r l todo) (hqr : q ≠ r) (hE : ∀ a b : α, eqT P 16 kt (enc a) (enc b) = some (decide (a = b))) (hi : ∀ a b : α, enc a = enc b → a = b) (a : α) (hk : keyOK P kt (enc a) = true) (ha : a ∉ todo.map (·.1)) {K : World → Prop}
    (hK : ∀ w', ItF enc ev w' q r (delF l a) todo → Fr8 w w' (· = r) → w'.heap.size = w.heap.size → K w') : MapDel P kt (some r) (enc a) w K := by
  obtain ⟨seen, es, c, g1, h1, h2, h3, h4, g6⟩ := h
  have hlt := (Array.getElem?_eq_some_iff.1 h1).1
  have hq : ∀ o, (w.putObj r o).heap[q]? = some (.mapIter (some r) c seen c) := fun o => by
    simp only [World.putObj, Array.getElem?_setIfInBounds]
    rw [if_neg fun e : r = q => hqr e.symm]
    exact g1
  rcases findV_del' hE a es.toList _ 0 h2 with ⟨q1, q2⟩ | ⟨j, v, e, q0, qk, q1, q2⟩
  · refine ⟨hk, .inr ⟨r, es, c, rfl, h1, none, q1, ?_⟩⟩
    refine hK _ ⟨seen, es, c, hq _, by simp [World.putObj, Array.getElem?_setIfInBounds, hlt], ?_, h3, h4, g6⟩ (Fr8.putDef _ _ _) (by simp [World.putObj])
    rw [q2]; exact h2
  · rw [Nat.zero_add] at q1
    refine ⟨hk, .inr ⟨r, es, c, rfl, h1, _, q1, ?_⟩⟩
    have hsub : (es.eraseIdxIfInBounds j).toList.Sublist es.toList := by rw [Array.toList_eraseIdxIfInBounds]; exact List.eraseIdx_sublist _ _
    refine hK _ ⟨seen, es.eraseIdxIfInBounds j, c, hq _, by simp [World.putObj, Array.getElem?_setIfInBounds, hlt], ?_, h3.sublist (hsub.map _), fun e he => h4 e (hsub.mem he), ?_⟩ (Fr8.putDef _ _ _) (by simp [World.putObj])
    · rw [Array.toList_eraseIdxIfInBounds]
      exact q2
    · have hseen : seen.contains e.born = true := by
        cases hc : seen.contains e.born with
        | true => rfl
        | false =>
          have hm : e ∈ (leftOf es seen).toList := by
            unfold leftOf
            rw [Array.toList_filter]
            exact List.mem_filter.2 ⟨List.mem_of_getElem? q0, by show (!seen.contains e.born) = true; rw [hc]; rfl⟩
          have hm2 : (e.key, e.val) ∈ todo.map fun x => (enc x.1, ev x.2) := by
            rw [← g6]; exact List.mem_map_of_mem hm
          obtain ⟨x, hx, hxe⟩ := List.mem_map.1 hm2
          simp only [Prod.mk.injEq] at hxe
          have : x.1 = a := hi _ _ (by rw [hxe.1, qk])
          exact absurd (List.mem_map.2 ⟨x, hx, this⟩) ha
      rw [← g6]
      congr 1
      unfold leftOf
      rw [Array.toList_filter, Array.toList_filter, Array.toList_eraseIdxIfInBounds]
      exact filter_eraseIdx q0 (by rw [hseen]; rfl)
end
end Gp

namespace Gp
open Go
/-- How many an iterator has still to hand out. -/
def leftM (w : World) (q r : Nat) : Nat :=
  match w.heap[q]?, w.heap[r]? with
  | some (.mapIter _ _ seen _), some (.map es _) => (leftOf es seen).size
  | _, _ => 0

theorem ItF.left {α β : Type} {enc : α → Value} {ev : β → Value} {w : World} {q r : Nat} {l todo : List (α × β)} (h : ItF enc ev w q r l todo) : leftM w q r = todo.length := by
  obtain ⟨seen, es, c, g1, g2, _, _, _, g6⟩ := h
  unfold leftM
  rw [g1, g2]
  have := congrArg List.length g6
  simpa using this
end Gp
