import Derived.Test.YtcoolonmnjacfaaTyped
import Derived.Test.YtcoolonmnjacfaaBits
/- What comes in reads as numbers and bytes. -/
namespace Gp
open Go

theorem wf_int {k : IntKind} {n : Int} (h : (Lit.int k n).wf = true) : k.min ≤ n ∧ n ≤ k.max := by
  simpa [Lit.wf] using h

theorem wf_u8 {n : Int} (h : (Lit.int .u8 n).wf = true) : 0 ≤ n ∧ n ≤ 255 := wf_int h
theorem wf_u16 {n : Int} (h : (Lit.int .u16 n).wf = true) : 0 ≤ n ∧ n ≤ 65535 := wf_int h
theorem wf_u32 {n : Int} (h : (Lit.int .u32 n).wf = true) : 0 ≤ n ∧ n ≤ 4294967295 := wf_int h
theorem wf_i64 {n : Int} (h : (Lit.int .i64 n).wf = true) : -9223372036854775808 ≤ n ∧ n ≤ 9223372036854775807 := wf_int h

/-- What comes in as bytes reads as bytes. -/
theorem slb_in {w : World} {x : SliceV × List Int} (h : (Desc.slice (.int .u8) 1).In w x) : ∃ l : List UInt8, SlB w x.1 l := by
  obtain ⟨⟨h1, h2, h3, h4⟩, h5⟩ := h
  have h4 : (x.2 ≠ ([] : List Int)) → ∃ b o, x.1.a = some ⟨b, o, none⟩ ∧ b < w.heap.size ∧ ∀ i (y : Int), x.2[i]? = some y → ([Value.int .u8 y] : List Value).length = 1 ∧ ∀ j v, ([Value.int .u8 y] : List Value)[j]? = some v → w.cell? ⟨b, o + i * 1 + j, none⟩ = some v := h4
  have h1 : x.1.len = x.2.length := h1
  refine ⟨x.2.map fun n => UInt8.ofNat n.toNat, by simpa using h1, ?_, h2⟩
  by_cases hne : x.2 = ([] : List Int)
  · rw [hne] at h1 ⊢
    simp only [List.length_nil] at h1
    rw [h1]
    cases x.1.a with
    | none => rfl
    | some a => exact ⟨rfl, fun j hj => by simp [bytesV] at hj⟩
  · obtain ⟨b, o, ha, hb, hc⟩ := h4 hne
    rw [ha]
    refine ⟨by simp [bytesV, h1], fun j hj => ?_⟩
    simp only [bytesV, List.length_map] at hj
    have hy := List.getElem?_eq_getElem hj
    have := (hc j _ hy).2 0 _ rfl
    rw [add_mk]
    simp only [Nat.mul_one, Nat.add_zero] at this
    rw [this]
    have hw := wf_u8 (h5 _ (List.getElem_mem hj))
    simp only [bytesV, List.getElem?_map, hy, Option.map_some]
    congr 2
    simp
    omega
end Gp
