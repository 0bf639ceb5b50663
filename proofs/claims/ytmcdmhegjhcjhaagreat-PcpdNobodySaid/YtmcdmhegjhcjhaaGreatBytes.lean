import Derived.Test.YtmcdmhegjhcjhaaGreatExt
/- Slices that read as bytes. -/
namespace Gp
open Go

/-- A slice's bytes. -/
def bytesV (l : List UInt8) : List Value := l.map fun b => .int .u8 b.toNat

theorem bytesV_one (l : List UInt8) : ∀ v ∈ bytesV l, isOne v = true := by
  intro v hv
  simp only [bytesV, List.mem_map] at hv
  obtain ⟨b, _, rfl⟩ := hv
  rfl

theorem bytesV_len (l : List UInt8) : (bytesV l).length = l.length := by simp [bytesV]
theorem bytesV_app (l m : List UInt8) : bytesV (l ++ m) = bytesV l ++ bytesV m := by simp [bytesV]

/-- A slice reads as these bytes. -/
def SlB (w : World) (s : SliceV) (l : List UInt8) : Prop := s.len = l.length ∧ CellsO w s.a s.len (bytesV l) ∧ s.len ≤ s.cap

theorem SlB.nil {w : World} : SlB w ⟨none, 0, 0⟩ [] := ⟨rfl, rfl, Nat.le_refl _⟩

theorem SlB.of_buf {w : World} {s : SliceV} {l : List UInt8} (h : Buf w s (bytesV l)) : SlB w s l := ⟨by rw [h.1, bytesV_len], h.cells, by
  obtain ⟨h1, ⟨_, h2, h3⟩ | ⟨b, pad, _, h3, _⟩⟩ := h
  · rw [h1, h2]; simp
  · omega⟩

theorem bytesStr_of {w : World} {s : SliceV} {l : List UInt8} {K : ByteArray → Prop} (h : SlB w s l) (hK : K ⟨⟨l⟩⟩) : BytesStr w s K :=
  ⟨⟨⟨l⟩⟩, h.1.symm, h.2.1, hK⟩

theorem SlB.at_ {w : World} {s : SliceV} {l : List UInt8} (h : SlB w s l) {i : Nat} {b : UInt8} (hi : l[i]? = some b) : ∃ a, s.a = some a ∧ w.cell? (a.add i) = some (.int .u8 b.toNat) := by
  have hlt := (List.getElem?_eq_some_iff.1 hi).1
  have hc := h.2.1
  cases hsa : s.a with
  | none =>
    rw [hsa] at hc
    have : (bytesV l).length = 0 := by rw [show bytesV l = [] from hc]; rfl
    rw [bytesV_len] at this; omega
  | some a =>
    rw [hsa] at hc
    refine ⟨a, rfl, ?_⟩
    rw [hc.2 i (by rw [bytesV_len]; exact hlt)]
    simp [bytesV, hi]

theorem SlB.empty {w : World} {s : SliceV} {l : List UInt8} (h : SlB w s l) (ha : s.a = .none) : l = [] := by
  have := h.2.1
  rw [ha] at this
  have h2 : bytesV l = [] := this
  simpa [bytesV] using h2

/-- It reads so as long as its block stays. -/
theorem SlB.fr {w w' : World} {s : SliceV} {l : List UInt8} {S : Nat → Prop} (h : SlB w s l) (hf : Fr8 w w' S) (hs : ∀ a, s.a = some a → 0 < l.length → ¬ S a.block) : SlB w' s l := by
  refine ⟨h.1, ?_, h.2.2⟩
  have hc := h.2.1
  cases hsa : s.a with
  | none => rw [hsa] at hc; exact hc
  | some a =>
    rw [hsa] at hc
    refine ⟨hc.1, fun j hj => ?_⟩
    have := hc.2 j hj
    rw [List.getElem?_eq_getElem hj] at this ⊢
    exact cell_fr this hf (by rw [block_add]; exact hs a hsa (by rw [bytesV_len] at hj; omega))

theorem SlB.lt {w : World} {s : SliceV} {l : List UInt8} (h : SlB w s l) {a : Addr} (ha : s.a = some a) (hl : 0 < l.length) : a.block < w.heap.size := by
  obtain ⟨a', h1, h2⟩ := h.at_ (List.getElem?_eq_getElem hl)
  rw [ha] at h1; cases h1
  have := cell_lt h2
  rwa [block_add] at this

theorem SlB.ext {w w' : World} {s : SliceV} {l : List UInt8} (h : SlB w s l) (hf : Ext w w') : SlB w' s l := h.fr (hf fun _ => False) (by simp)

theorem SlB.unique {w : World} {s : SliceV} {l m : List UInt8} (h : SlB w s l) (h' : SlB w s m) : l = m := by
  apply List.ext_getElem?
  intro i
  by_cases hi : i < l.length
  · have hm : i < m.length := by rw [← h'.1, h.1]; exact hi
    obtain ⟨a, ha, hc⟩ := h.at_ (List.getElem?_eq_getElem hi)
    obtain ⟨a', ha', hc'⟩ := h'.at_ (List.getElem?_eq_getElem hm)
    rw [ha] at ha'; cases ha'
    rw [hc] at hc'
    simp only [Option.some.injEq, Value.int.injEq, true_and] at hc'
    rw [List.getElem?_eq_getElem hi, List.getElem?_eq_getElem hm]
    congr 1
    exact UInt8.toNat_inj.1 (by omega)
  · have hm : ¬ i < m.length := by rw [← h'.1, h.1]; exact hi
    rw [List.getElem?_eq_none (by omega), List.getElem?_eq_none (by omega)]

theorem addr_add2 (a : Addr) (i j : Nat) : (a.add i).add j = a.add (i + j) := by
  unfold Addr.add
  by_cases h0 : i = 0 <;> by_cases h1 : j = 0 <;> simp [h0, h1, Nat.add_assoc]

theorem SlB.cut {w : World} {s : SliceV} {l : List UInt8} {lo hi : Nat} (h : SlB w s l) (h1 : lo ≤ hi) (h2 : hi ≤ l.length) (c : Nat) (hc' : hi ≤ c) (m : Nat) (hm : m = lo → s.a = .none ∨ lo = hi ∨ lo = 0) :
    SlB w ⟨subA s.a m lo 1, hi - lo, c - lo⟩ ((l.take hi).drop lo) := by
  refine ⟨by simp; omega, ?_, by simp only; omega⟩
  have hc := h.2.1
  cases hsa : s.a with
  | none =>
    have : l = [] := h.empty hsa
    subst this
    simp only [subA]
    split <;> simp [CellsO, bytesV]
  | some a =>
    rw [hsa] at hc
    by_cases hml : m = lo
    · rcases hm hml with hx | hx | hx
      · rw [hsa] at hx; cases hx
      · subst hx
        simp only [subA, hml, if_true, Nat.sub_self]
        have : List.drop lo (List.take lo l) = [] := by simp
        rw [this]
        exact ⟨rfl, fun j hj => by simp [bytesV] at hj⟩
      · subst hx
        simp only [subA, hml, if_true, Nat.sub_zero, List.drop_zero]
        refine ⟨by simp [bytesV]; omega, fun j hj => ?_⟩
        simp only [bytesV_len, List.length_take] at hj
        rw [hc.2 j (by rw [bytesV_len]; omega)]
        simp only [bytesV, List.getElem?_map, List.getElem?_take]
        rw [if_pos (by omega)]
    · simp only [subA, hml, if_false, Option.map_some]
      refine ⟨by simp only [bytesV_len, List.length_drop, List.length_take]; omega, fun j hj => ?_⟩
      simp only [bytesV_len, List.length_take, List.length_drop] at hj
      rw [addr_add2, Nat.mul_one, hc.2 (lo + j) (by rw [bytesV_len]; omega)]
      simp only [bytesV, List.getElem?_map, List.getElem?_take, List.getElem?_drop]
      rw [if_pos (by omega)]

theorem SubSl_bytes {w : World} {s : SliceV} {l : List UInt8} {lo hi : Int} {K : SliceV → Prop} (h : SlB w s l) (h0 : 0 ≤ lo) (h1 : lo ≤ hi) (h2 : hi ≤ l.length)
    (hK : ∀ s', SlB w s' ((l.take hi.toNat).drop lo.toNat) → (∀ a', s'.a = some a' → ∃ a, s.a = some a ∧ a'.block = a.block) → K s') : SubSl s 1 lo hi K := by
  have hl := h.1
  have hc := h.2.2
  refine ⟨h0, h1, by omega, hK _ ?_ ?_⟩
  · refine h.cut (by omega) (by omega) _ (by omega) _ fun e => ?_
    right; left; omega
  · intro a' ha'
    simp only [subA] at ha'
    split at ha'
    · exact ⟨a', ha', rfl⟩
    · cases hs : s.a with
      | none => rw [hs] at ha'; cases ha'
      | some a => rw [hs] at ha'; simp only [Option.map_some, Option.some.injEq] at ha'; exact ⟨a, rfl, by rw [← ha', block_add]⟩

theorem AppSl_bytes {e : TypeId} {w : World} {s x : SliceV} {l m : List UInt8} {K : SliceV → World → Prop} (hs : Buf w s (bytesV l)) (hx : SlB w x m) (hl : l.length + m.length ≤ 2 ^ 46)
    (hK : ∀ s' w', Buf w' s' (bytesV (l ++ m)) → Fr8 w w' (SliceV.at s) → (∀ b, SliceV.at s' b → SliceV.at s b ∨ w.heap.size ≤ b) → (s'.a = none → l ++ m = [] ∧ s.a = none) → K s' w') : AppSl e 1 1 [(Value.int .u8 0)] s x w K := by
  refine ⟨bytesV m, by rw [Nat.mul_one]; exact hx.2.1, ?_⟩
  rw [hx.1, ← bytesV_len m]
  refine AppVs_buf hs (bytesV_one m) (by simp only [bytesV_len]; omega) fun s' w' h1 h2 h3 h4 => hK s' w' (by simpa [bytesV] using h1) h2 h3 fun h => ?_
  obtain ⟨h5, h6⟩ := h4 h
  refine ⟨?_, h6⟩
  rw [← List.length_eq_zero_iff] at h5 ⊢
  simpa [bytesV] using h5

/-- A row of bytes is a slice. -/
theorem SlB.row {w : World} {b : Nat} {l : List UInt8} (h : Row w b (bytesV l)) : Buf w ⟨some ⟨b, 0, none⟩, l.length, l.length⟩ (bytesV l) :=
  ⟨by simp [bytesV], .inr ⟨b, [], rfl, by simp [bytesV], by simpa using h⟩⟩

theorem Buf.nil {w : World} : Buf w ⟨none, 0, 0⟩ [] := ⟨rfl, .inl ⟨rfl, rfl, rfl⟩⟩

/-- A place in an owned slice is written. -/
theorem Buf.set {w : World} {s : SliceV} {vs : List Value} (h : Buf w s vs) {i : Nat} (hi : i < vs.length) : ∃ b, s.a = some ⟨b, 0, none⟩ ∧ ∀ (v : Value) (K : World → Prop), isOne v = true →
    (∀ w', Buf w' s (vs.set i v) → Fr8 w w' (SliceV.at s) → w'.heap.size = w.heap.size → K w') → St w ⟨b, i, none⟩ v K := by
  obtain ⟨hl, ⟨_, h1, _⟩ | ⟨b, pad, ha, hc, hr⟩⟩ := h
  · rw [h1] at hi; simp at hi
  · refine ⟨b, ha, fun v K hv hK => St_row hr hv (by simp; omega) fun w1 r1 f1 z1 => hK w1 ⟨by simp [hl], .inr ⟨b, pad, ha, by simp [hc], ?_⟩⟩ (f1 _ ⟨0, ha⟩) z1⟩
    rw [List.set_append_left _ _ hi] at r1
    exact r1

/-- A slice's block lies in the world. -/
theorem Buf.lt {w : World} {s : SliceV} {vs : List Value} (h : Buf w s vs) {b : Nat} (hb : SliceV.at s b) : b < w.heap.size := by
  obtain ⟨o, hb⟩ := hb
  obtain ⟨_, ⟨ha, _, _⟩ | ⟨c, pad, ha, _, hr⟩⟩ := h
  · rw [ha] at hb; cases hb
  · rw [ha] at hb; cases hb; exact hr.lt

theorem Buf.at_eq {w : World} {s : SliceV} {vs : List Value} (h : Buf w s vs) {a : Addr} (ha : s.a = some a) : SliceV.at s a.block := by
  obtain ⟨_, ⟨ha', _, _⟩ | ⟨c, pad, ha', _, hr⟩⟩ := h
  · rw [ha'] at ha; cases ha
  · rw [ha'] at ha; cases ha; exact ⟨0, ha'⟩
end Gp
