import Derived.Test.YtcoolonmnjacfaaIn
import Derived.Test.YtcoolonmnjacfaaBufN
/- What comes in reads as elements of several cells. -/
namespace Gp
open Go

theorem sln_in {α : Type} {d : Desc} {n : Nat} (hn0 : 0 < n) {w : World} {x : (Desc.slice d n).T} (h : (Desc.slice d n).In w x) (g : d.T → α) (f : α → List Value) (hf : ∀ a, (f a).length = n)
    (hg : ∀ y : d.T, d.In w y → f (g y) = d.cells y) : SlN n f w x.1 (x.2.map g) := by
  obtain ⟨⟨h1, h2, h3, h4⟩, h5⟩ := h
  refine ⟨by rw [List.length_map]; exact h1, ?_, h2⟩
  by_cases hne : x.2 = ([] : List d.T)
  · have hl : x.1.len = 0 := by rw [h1, hne]; rfl
    rw [hne, hl]
    cases x.1.a with
    | none => rfl
    | some a => exact ⟨(Nat.zero_mul n).symm, fun j hj => by simp at hj⟩
  · obtain ⟨b, o, ha, hb, hc⟩ := h4 hne
    rw [ha]
    have hfl := flat_len f n hf (x.2.map g)
    rw [List.length_map, ← h1] at hfl
    refine ⟨hfl, fun j hj => ?_⟩
    rw [hfl] at hj
    have hdiv : j / n < x.2.length := by
      rw [← h1]; exact Nat.div_lt_of_lt_mul (by rw [Nat.mul_comm]; exact hj)
    have hmod := Nat.mod_lt j hn0
    have hx := List.getElem?_eq_getElem hdiv
    have hj2 : j = j / n * n + j % n := by rw [Nat.mul_comm]; exact (Nat.div_add_mod j n).symm
    have hin := h5 _ (List.getElem_mem hdiv)
    have hcc := (hc _ _ hx).2 (j % n)
    generalize x.2[j / n] = y at hx hin hcc
    rw [← hg y hin] at hcc
    rw [hj2, flat_get f n hf _ _ _ hmod, List.getElem?_map, hx]
    have hfl2 := hf (g y)
    have hv := List.getElem?_eq_getElem (show j % n < (f (g y)).length by omega)
    simp only [Option.map_some, Option.bind_some]
    rw [hv, add_mk, ← Nat.add_assoc]
    exact hcc _ hv
/-- What comes in as bytes reads as bytes. -/
theorem slb_in2 {w : World} {x : SliceV × List Int} (h : (Desc.slice (.int .u8) 1).In w x) : SlB w x.1 (x.2.map fun n => UInt8.ofNat n.toNat) := by
  obtain ⟨⟨h1, h2, h3, h4⟩, h5⟩ := h
  have h4 : (x.2 ≠ ([] : List Int)) → ∃ b o, x.1.a = some ⟨b, o, none⟩ ∧ b < w.heap.size ∧ ∀ i (y : Int), x.2[i]? = some y → ([Value.int .u8 y] : List Value).length = 1 ∧ ∀ j v, ([Value.int .u8 y] : List Value)[j]? = some v → w.cell? ⟨b, o + i * 1 + j, none⟩ = some v := h4
  have h1 : x.1.len = x.2.length := h1
  refine ⟨by simpa using h1, ?_, h2⟩
  by_cases hne : x.2 = ([] : List Int)
  · rw [hne] at h1 ⊢
    simp only [List.length_nil] at h1
    rw [h1]
    cases x.1.a with
    | none => rfl
    | some a => exact ⟨rfl, fun j hj => by simp [bytesV] at hj⟩
  · obtain ⟨b, o, ha, hb, hc⟩ := h4 hne
    rw [ha]
    refine ⟨by simp [bytesV, h1], fun j hj => ?_⟩
    simp only [bytesV, List.length_map] at hj
    have hy := List.getElem?_eq_getElem hj
    have := (hc j _ hy).2 0 _ rfl
    rw [add_mk]
    simp only [Nat.mul_one, Nat.add_zero] at this
    rw [this]
    have hw := wf_u8 (h5 _ (List.getElem_mem hj))
    simp only [bytesV, List.getElem?_map, hy, Option.map_some]
    congr 2
    simp
    omega
end Gp
