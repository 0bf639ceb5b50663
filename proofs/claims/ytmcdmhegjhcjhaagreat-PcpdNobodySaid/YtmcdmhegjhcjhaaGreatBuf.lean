import Derived.Test.YtmcdmhegjhcjhaaGreatHeap
/- Slices of one-cell elements that their owner grows. -/
namespace Gp
open Go

/-- A slice that begins its block: what it holds, and its spare places. -/
def Buf (w : World) (s : SliceV) (vs : List Value) : Prop :=
  s.len = vs.length ∧ ((s.a = none ∧ vs = [] ∧ s.cap = 0) ∨ ∃ b pad, s.a = some ⟨b, 0, none⟩ ∧ s.cap = vs.length + pad.length ∧ Row w b (vs ++ pad))

/-- Its block. -/
def SliceV.at (s : SliceV) (b : Nat) : Prop := ∃ o, s.a = some ⟨b, o, none⟩

theorem Buf.cells {w : World} {s : SliceV} {vs : List Value} (h : Buf w s vs) : CellsO w s.a s.len vs := by
  obtain ⟨hl, ⟨ha, rfl, _⟩ | ⟨b, pad, ha, _, hr⟩⟩ := h
  · rw [ha]; rfl
  · rw [ha]
    refine ⟨hl.symm, fun j hj => ?_⟩
    rw [add_mk, hr.cell, Nat.zero_add, List.getElem?_append_left hj]

theorem Buf.fr {w w' : World} {s : SliceV} {vs : List Value} {S : Nat → Prop} (h : Buf w s vs) (hf : Fr8 w w' S) (hs : ∀ b, SliceV.at s b → ¬ S b) : Buf w' s vs := by
  obtain ⟨hl, ⟨ha, h1, h2⟩ | ⟨b, pad, ha, hc, hr⟩⟩ := h
  · exact ⟨hl, .inl ⟨ha, h1, h2⟩⟩
  · exact ⟨hl, .inr ⟨b, pad, ha, hc, hr.fr hf (hs b ⟨0, ha⟩)⟩⟩

theorem setCells_row {b : Nat} : ∀ (vs : List Value) (w : World) (l : List Value) (o i : Nat), Row w b l → o + i + vs.length ≤ l.length →
    Row (setCells w ⟨b, o, none⟩ vs i) b (l.take (o + i) ++ vs ++ l.drop (o + i + vs.length)) ∧ ∀ S : Nat → Prop, S b → Fr8 w (setCells w ⟨b, o, none⟩ vs i) S := by
  intro vs
  induction vs with
  | nil => intro w l o i hr _; exact ⟨by simpa [setCells] using hr, fun S _ => Fr8.refl _ _⟩
  | cons v vs ih =>
    intro w l o i hr hl
    simp only [List.length_cons] at hl
    have r1 := hr.set (o + i) v
    obtain ⟨r2, f2⟩ := ih (w.setCell ⟨b, o + i, none⟩ v) _ o (i + 1) r1 (by rw [List.length_set]; omega)
    have e1 : (l.set (o + i) v).take (o + (i + 1)) = l.take (o + i) ++ [v] := by
      rw [← Nat.add_assoc, List.take_succ_eq_append_getElem (by simp; omega), List.take_set_of_le (by omega)]
      simp
    have e2 : (l.set (o + i) v).drop (o + (i + 1) + vs.length) = l.drop (o + i + (vs.length + 1)) := by
      rw [List.drop_set_of_lt (by omega)]
      congr 1; omega
    rw [e1, e2] at r2
    show Row (setCells (w.setCell ((⟨b, o, none⟩ : Addr).add i) v) ⟨b, o, none⟩ vs (i + 1)) b _ ∧ ∀ S : Nat → Prop, S b → Fr8 w (setCells (w.setCell ((⟨b, o, none⟩ : Addr).add i) v) ⟨b, o, none⟩ vs (i + 1)) S
    rw [add_mk]
    exact ⟨by simpa using r2, fun S hs => (Fr8.set w ⟨b, o + i, none⟩ v hs).trans (f2 S hs) fun _ _ e => e⟩

theorem AppVs_buf {e : TypeId} {z : Value} {s : SliceV} {vs xs : List Value} {w : World} {K : SliceV → World → Prop} (h : Buf w s vs) (h1 : ∀ v ∈ xs, isOne v = true) (hl : vs.length + xs.length ≤ 2 ^ 46)
    (hK : ∀ s' w', Buf w' s' (vs ++ xs) → (Fr8 w w' (SliceV.at s)) → (∀ b, SliceV.at s' b → SliceV.at s b ∨ w.heap.size ≤ b) → (s'.a = none → vs ++ xs = [] ∧ s.a = none) → K s' w') : AppVs e 1 1 [z] s xs.length xs w K := by
  obtain ⟨hlen, hc⟩ := id h
  by_cases hcap : s.len + xs.length ≤ s.cap
  · rcases hc with ⟨ha, rfl, hc⟩ | ⟨b, pad, ha, hc, hr⟩
    · simp at hlen
      have : xs = [] := by cases xs with
        | nil => rfl
        | cons _ _ => simp at hcap; omega
      subst this
      refine .inl ⟨hcap, fun a ha' => (by rw [ha] at ha'; cases ha'), h1, ?_⟩
      rw [ha]
      exact hK _ _ ⟨by simp [hlen], .inl ⟨rfl, rfl, hc⟩⟩ (Fr8.refl _ _) (fun b ⟨o, hb⟩ => by cases hb) fun _ => ⟨rfl, ha⟩
    · obtain ⟨r2, f2⟩ := setCells_row xs w (vs ++ pad) s.len 0 hr (by simp; omega)
      refine .inl ⟨hcap, fun a ha' => ?_, h1, ?_⟩
      · rw [ha] at ha'; cases ha'
        intro j hj
        rw [add_mk, add_mk, hr.cell, hr.frozen]
        simp
        omega
      · rw [ha]
        simp only [add_mk, Nat.zero_add, Nat.mul_one]
        have e1 : (vs ++ pad).take (s.len + 0) = vs := by rw [Nat.add_zero, hlen]; simp
        have e2 : ((vs ++ pad).drop (s.len + 0 + xs.length)).length + xs.length = pad.length := by simp; omega
        rw [e1] at r2
        exact hK _ _ ⟨by simp [hlen], .inr ⟨b, _, rfl, by simp only [List.length_append]; omega, r2⟩⟩ (f2 _ ⟨0, ha⟩) (fun c ⟨o, hc'⟩ => .inl (by cases hc'; exact ⟨0, ha⟩)) (fun hx => by cases hx)
  · refine .inr ⟨by omega, by omega, by omega, vs, ?_, fun c h1' h2' => ?_⟩
    · rw [Nat.mul_one]; exact h.cells
    · refine hK _ _ ⟨by simp [hlen], .inr ⟨w.heap.size, repCells [z] (c - (s.len + xs.length)), rfl, ?_, by simpa using Row.new w.drew _ e⟩⟩ ((Fr8.drew w _).trans (Fr8.alloc w.drew _ _) fun _ _ e => e) (fun b ⟨o, hb⟩ => .inr (by cases hb; exact Nat.le_refl _)) (fun hx => by cases hx)
      have : ∀ n, (repCells [z] n).length = n := fun n => by
        induction n with
        | zero => rfl
        | succ n ih => simp [repCells, ih]
      rw [this]; simp only [List.length_append]; omega
end Gp
