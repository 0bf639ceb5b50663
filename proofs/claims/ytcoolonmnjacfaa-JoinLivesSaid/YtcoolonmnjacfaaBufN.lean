import Derived.Test.YtcoolonmnjacfaaBits
/- Slices of elements of several cells. -/
namespace Gp
open Go

/-- A slice that begins its block: what it holds, and its spare places; f: an element's n cells. -/
structure BufN {α : Type} (n : Nat) (f : α → List Value) (w : World) (s : SliceV) (xs : List α) : Prop where
  len : s.len = xs.length
  mem : (s.a = none ∧ xs = [] ∧ s.cap = 0) ∨ ∃ b pad, s.a = some ⟨b, 0, none⟩ ∧ s.cap * n = xs.length * n + pad.length ∧ Row w b (xs.flatMap f ++ pad)

/-- A slice reads as these elements. -/
structure SlN {α : Type} (n : Nat) (f : α → List Value) (w : World) (s : SliceV) (xs : List α) : Prop where
  len : s.len = xs.length
  cells : CellsO w s.a (s.len * n) (xs.flatMap f)
  cap : s.len ≤ s.cap

theorem repCells_len {z : List Value} : ∀ k, (repCells z k).length = k * z.length
  | 0 => by simp [repCells]
  | k + 1 => by simp [repCells, repCells_len k, Nat.add_mul]; omega

section
variable {α : Type} {n : Nat} {f : α → List Value} {w w' : World} {s : SliceV} {xs : List α}

theorem BufN.nil : BufN n f w ⟨none, 0, 0⟩ [] := ⟨rfl, .inl ⟨rfl, rfl, rfl⟩⟩

theorem BufN.lt (h : BufN n f w s xs) {b : Nat} (hb : SliceV.at s b) : b < w.heap.size := by
  obtain ⟨o, hb⟩ := hb
  obtain ⟨_, ⟨ha, _, _⟩ | ⟨c, pad, ha, _, hr⟩⟩ := h
  · rw [ha] at hb; cases hb
  · rw [ha] at hb; cases hb; exact hr.lt

theorem BufN.at_eq (h : BufN n f w s xs) {a : Addr} (ha : s.a = some a) : SliceV.at s a.block := by
  obtain ⟨_, ⟨ha', _, _⟩ | ⟨c, pad, ha', _, hr⟩⟩ := h
  · rw [ha'] at ha; cases ha
  · rw [ha'] at ha; cases ha; exact ⟨0, ha'⟩

theorem BufN.fr {S : Nat → Prop} (h : BufN n f w s xs) (hf : Fr8 w w' S) (hs : ∀ b, SliceV.at s b → ¬ S b) : BufN n f w' s xs := by
  obtain ⟨hl, ⟨ha, h1, h2⟩ | ⟨b, pad, ha, hc, hr⟩⟩ := h
  · exact ⟨hl, .inl ⟨ha, h1, h2⟩⟩
  · exact ⟨hl, .inr ⟨b, pad, ha, hc, hr.fr hf (hs b ⟨0, ha⟩)⟩⟩

theorem BufN.ext (h : BufN n f w s xs) (hf : Ext w w') : BufN n f w' s xs := h.fr (hf fun _ => False) (fun _ _ => by simp)

theorem BufN.sl (hn : ∀ x, (f x).length = n) (h0 : 0 < n) (h : BufN n f w s xs) : SlN n f w s xs := by
  obtain ⟨hl, ⟨ha, rfl, hc⟩ | ⟨b, pad, ha, hc, hr⟩⟩ := h
  · exact ⟨hl, by rw [ha]; rfl, by rw [hl]; simp⟩
  · refine ⟨hl, ?_, ?_⟩
    · rw [ha]
      refine ⟨by rw [flat_len f n hn, hl], fun j hj => ?_⟩
      rw [add_mk, hr.cell, Nat.zero_add, List.getElem?_append_left hj]
    · rw [hl]
      exact Nat.le_of_mul_le_mul_right (by omega : xs.length * n ≤ s.cap * n) h0

theorem SlN.nil : SlN n f w ⟨none, 0, 0⟩ [] := ⟨rfl, rfl, Nat.le_refl _⟩

theorem SlN.at_ (hn : ∀ x, (f x).length = n) (h0 : 0 < n) (h : SlN n f w s xs) {i : Nat} {x : α} (hi : xs[i]? = some x) : ∃ a, s.a = some a ∧ ∀ j v, (f x)[j]? = some v → w.cell? (a.add (i * n + j)) = some v := by
  have hlt := (List.getElem?_eq_some_iff.1 hi).1
  have hc := h.cells
  have hfl := flat_len f n hn xs
  have hm : (i + 1) * n ≤ xs.length * n := Nat.mul_le_mul_right _ hlt
  rw [Nat.add_mul] at hm
  cases hsa : s.a with
  | none =>
    rw [hsa] at hc
    have h0 : xs.flatMap f = [] := hc
    rw [h0] at hfl
    simp only [List.length_nil] at hfl
    omega
  | some a =>
    rw [hsa] at hc
    refine ⟨a, rfl, fun j v hj => ?_⟩
    have hjn : j < n := by have := (List.getElem?_eq_some_iff.1 hj).1; rw [hn] at this; exact this
    rw [hc.2 _ (by omega), flat_get f n hn xs i j hjn, hi]
    exact hj

theorem SlN.fr {S : Nat → Prop} (h : SlN n f w s xs) (hf : Fr8 w w' S) (hs : ∀ a, s.a = some a → 0 < xs.length → ¬ S a.block) : SlN n f w' s xs := by
  refine ⟨h.len, ?_, h.cap⟩
  have hc := h.cells
  cases hsa : s.a with
  | none => rw [hsa] at hc; exact hc
  | some a =>
    rw [hsa] at hc
    refine ⟨hc.1, fun j hj => ?_⟩
    have := hc.2 j hj
    rw [List.getElem?_eq_getElem hj] at this ⊢
    refine cell_fr this hf (by
      rw [block_add]
      refine hs a hsa ?_
      cases xs with
      | nil => simp at hj
      | cons => simp)

theorem SlN.ext (h : SlN n f w s xs) (hf : Ext w w') : SlN n f w' s xs := h.fr (hf fun _ => False) (by simp)

theorem AppVs_bufN {e : TypeId} {bytes : Nat} {z : List Value} {ys : List α} {K : SliceV → World → Prop} (hn : ∀ x, (f x).length = n) (h : BufN n f w s xs) (hz : z.length = n) (h0 : 0 < n) (h1 : ∀ x, ∀ v ∈ f x, isOne v = true)
    (hl : (xs.length + ys.length) * bytes ≤ 2 ^ 46) (hl2 : xs.length + ys.length ≤ 2 ^ 46)
    (hK : ∀ s' w', BufN n f w' s' (xs ++ ys) → (Fr8 w w' (SliceV.at s)) → (∀ b, SliceV.at s' b → SliceV.at s b ∨ w.heap.size ≤ b) → K s' w') : AppVs e n bytes z s ys.length (ys.flatMap f) w K := by
  obtain ⟨hlen, hc⟩ := id h
  have hone : ∀ v ∈ ys.flatMap f, isOne v = true := fun v hv => by
    obtain ⟨x, _, hx⟩ := List.mem_flatMap.1 hv
    exact h1 x v hx
  have hyl := flat_len f n hn ys
  have hxl := flat_len f n hn xs
  by_cases hcap : s.len + ys.length ≤ s.cap
  · rcases hc with ⟨ha, rfl, hc⟩ | ⟨b, pad, ha, hc, hr⟩
    · simp at hlen
      have : ys = [] := by cases ys with
        | nil => rfl
        | cons _ _ => simp at hcap; omega
      subst this
      refine .inl ⟨hcap, fun a ha' => (by rw [ha] at ha'; cases ha'), hone, ?_⟩
      rw [ha]
      exact hK _ _ ⟨by simp [hlen], .inl ⟨rfl, rfl, hc⟩⟩ (Fr8.refl _ _) (fun b ⟨o, hb⟩ => by cases hb)
    · have hmul : (s.len + ys.length) * n ≤ s.cap * n := Nat.mul_le_mul_right _ hcap
      rw [Nat.add_mul, hlen] at hmul
      obtain ⟨r2, f2⟩ := setCells_row (ys.flatMap f) w (xs.flatMap f ++ pad) (s.len * n) 0 hr (by simp only [List.length_append]; rw [hyl, hxl, hlen]; omega)
      refine .inl ⟨hcap, fun a ha' => ?_, hone, ?_⟩
      · rw [ha] at ha'; cases ha'
        intro j hj
        rw [add_mk, add_mk, hr.cell, hr.frozen]
        refine ⟨?_, rfl⟩
        rw [List.getElem?_eq_getElem (by simp only [List.length_append]; rw [hxl, hlen]; omega)]
        rfl
      · rw [ha]
        simp only [add_mk, Nat.zero_add]
        have e1 : (xs.flatMap f ++ pad).take (s.len * n + 0) = xs.flatMap f := by rw [Nat.add_zero, hlen, ← hxl]; simp
        have e2 : ((xs.flatMap f ++ pad).drop (s.len * n + 0 + (ys.flatMap f).length)).length + ys.length * n = pad.length := by
          simp only [List.length_drop, List.length_append]
          rw [hxl, hyl, hlen]; omega
        rw [e1] at r2
        refine hK _ _ ⟨by simp [hlen], .inr ⟨b, (xs.flatMap f ++ pad).drop (s.len * n + 0 + (ys.flatMap f).length), rfl, ?_, ?_⟩⟩ (f2 _ ⟨0, ha⟩) (fun c ⟨o, hc'⟩ => .inl (by cases hc'; exact ⟨0, ha⟩))
        · show s.cap * n = _
          simp only [List.length_append, Nat.add_mul]; omega
        · rw [List.flatMap_append]; exact r2
  · have hb : (s.len + ys.length) * bytes ≤ 2 ^ 46 := by rw [hlen]; exact hl
    refine .inr ⟨by omega, hb, by omega, xs.flatMap f, ?_, fun c h1' h2' => ?_⟩
    · exact (h.sl hn h0).cells
    · refine hK _ _ ⟨by simp [hlen], .inr ⟨w.heap.size, repCells z (c - (s.len + ys.length)), rfl, ?_, by rw [List.flatMap_append]; exact Row.new w.drew _ e⟩⟩ ((Fr8.drew w _).trans (Fr8.alloc w.drew _ _) fun _ _ e => e) (fun b ⟨o, hb⟩ => .inr (by cases hb; exact Nat.le_refl _))
      rw [repCells_len, hz]
      simp only [List.length_append]
      rw [hlen] at h1' ⊢
      rw [← Nat.add_mul]
      congr 1
      omega

theorem AppSl_bufN {e : TypeId} {bytes : Nat} {z : List Value} {t : SliceV} {ys : List α} {K : SliceV → World → Prop} (hn : ∀ x, (f x).length = n) (h : BufN n f w s xs) (ht : SlN n f w t ys) (hz : z.length = n) (h0 : 0 < n) (h1 : ∀ x, ∀ v ∈ f x, isOne v = true)
    (hl : (xs.length + ys.length) * bytes ≤ 2 ^ 46) (hl2 : xs.length + ys.length ≤ 2 ^ 46)
    (hK : ∀ s' w', BufN n f w' s' (xs ++ ys) → (Fr8 w w' (SliceV.at s)) → (∀ b, SliceV.at s' b → SliceV.at s b ∨ w.heap.size ≤ b) → K s' w') : AppSl e n bytes z s t w K := by
  refine ⟨ys.flatMap f, ht.cells, ?_⟩
  rw [ht.len]
  exact AppVs_bufN hn h hz h0 h1 hl hl2 hK

/-- A row of elements is a slice. -/
theorem BufN.row {b : Nat} (h : Row w b (xs.flatMap f)) : BufN n f w ⟨some ⟨b, 0, none⟩, xs.length, xs.length⟩ xs :=
  ⟨rfl, .inr ⟨b, [], rfl, by simp, by simpa using h⟩⟩

/-- A part of a slice. -/
theorem SlN.cut (hn : ∀ x, (f x).length = n) (h : SlN n f w s xs) {lo hi : Nat} (h1 : lo ≤ hi) (h2 : hi ≤ xs.length) (m : Nat) (hm : m = lo → lo = hi) :
    SlN n f w ⟨subA s.a m lo n, hi - lo, s.cap - lo⟩ ((xs.take hi).drop lo) := by
  have hcap := h.cap
  have hlen := h.len
  refine ⟨by simp; omega, ?_, by simp only; omega⟩
  have hc := h.cells
  cases hsa : s.a with
  | none =>
    rw [hsa] at hc
    have h0 : xs.flatMap f = [] := hc
    have : ((xs.take hi).drop lo).flatMap f = [] := by
      rw [List.flatMap_eq_nil_iff] at h0 ⊢
      exact fun x hx => h0 x (List.mem_of_mem_take (List.mem_of_mem_drop hx))
    simp only [subA]
    split <;> simpa [CellsO] using this
  | some a =>
    rw [hsa] at hc
    by_cases hml : m = lo
    · have := hm hml
      subst this
      simp only [subA, hml, if_true, Nat.sub_self, Nat.zero_mul]
      have : List.drop lo (List.take lo xs) = [] := by simp
      rw [this]
      exact ⟨rfl, fun j hj => by simp at hj⟩
    · simp only [subA, hml, if_false, Option.map_some]
      have hfl : (((xs.take hi).drop lo).flatMap f).length = (hi - lo) * n := by
        rw [flat_len f n hn]; simp; congr 1; omega
      refine ⟨hfl, fun j hj => ?_⟩
      rw [hfl] at hj
      have e : lo * n + j < (xs.flatMap f).length := by
        rw [flat_len f n hn]
        have h3 : hi * n ≤ xs.length * n := Nat.mul_le_mul_right _ h2
        have h4 : (hi - lo) * n = hi * n - lo * n := Nat.sub_mul _ _ _
        have h5 : lo * n ≤ hi * n := Nat.mul_le_mul_right _ h1
        omega
      have ea : (a.add (lo * n)).add j = a.add (lo * n + j) := addr_add2 _ _ _
      rw [ea, hc.2 _ e]
      have hn0 : 0 < n := by
        cases n with
        | zero => simp at hj
        | succ n => omega
      have hj' : j = j / n * n + j % n := by rw [Nat.mul_comm]; exact (Nat.div_add_mod j n).symm
      have hjm := Nat.mod_lt j hn0
      have hjd : j / n < hi - lo := (Nat.div_lt_iff_lt_mul hn0).2 hj
      rw [hj', ← Nat.add_assoc, ← Nat.add_mul, flat_get f n hn _ _ _ hjm, flat_get f n hn _ _ _ hjm]
      rw [List.getElem?_drop, List.getElem?_take, if_pos (by omega)]
end

theorem SubSl_N {α : Type} {n : Nat} {f : α → List Value} {w : World} {s : SliceV} {xs : List α} {lo hi : Int} {K : SliceV → Prop} (hn : ∀ x, (f x).length = n) (h : SlN n f w s xs) (h0 : 0 ≤ lo) (h1 : lo ≤ hi) (h2 : hi ≤ xs.length)
    (hK : ∀ s', SlN n f w s' ((xs.take hi.toNat).drop lo.toNat) → K s') : SubSl s n lo hi K := by
  have hl := h.len
  have hc := h.cap
  refine ⟨h0, h1, by omega, hK _ ?_⟩
  exact h.cut hn (by omega) (by omega) _ fun e => by omega
end Gp
