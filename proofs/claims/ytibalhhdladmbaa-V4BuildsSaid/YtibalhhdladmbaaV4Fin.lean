/- Packets of IPv4: whatever bytes, or packets, come in, the laws V4Again, V4Parses, V4Builds and V4Back return true and leave the input as it was. No condition. -/
import Derived.Test.YtibalhhdladmbaaV4Row
import Derived.Test.YtibalhhdladmbaaV4Law
namespace Go.Proofs.Ytibalhhdladmbaa
open Gp Gp.V4

theorem u8_wf {n : Int} (h : (Lit.int .u8 n).wf = true) : 0 ≤ n ∧ n ≤ 255 := by
  have e1 : IntKind.u8.min = 0 := by decide
  have e2 : IntKind.u8.max = 255 := by decide
  simp only [Lit.wf, e1, e2, Bool.and_eq_true, decide_eq_true_eq] at h
  omega

/-- What comes in as bytes reads as bytes. -/
theorem slb_in {w : World} {x : SliceV × List Int} (h : (Desc.slice (.int .u8) 1).In w x) : ∃ l : List UInt8, SlB w x.1 l := by
  obtain ⟨⟨h1, h2, h3, h4⟩, h5⟩ := h
  have h4 : (x.2 ≠ ([] : List Int)) → ∃ b o, x.1.a = some ⟨b, o, none⟩ ∧ b < w.heap.size ∧ ∀ i (y : Int), x.2[i]? = some y → ([Value.int .u8 y] : List Value).length = 1 ∧ ∀ j v, ([Value.int .u8 y] : List Value)[j]? = some v → w.cell? ⟨b, o + i * 1 + j, none⟩ = some v := h4
  have h1 : x.1.len = x.2.length := h1
  refine ⟨x.2.map fun n => UInt8.ofNat n.toNat, by simpa using h1, ?_, h2⟩
  by_cases hne : x.2 = ([] : List Int)
  · rw [hne] at h1 ⊢
    simp only [List.length_nil] at h1
    rw [h1]
    cases x.1.a with
    | none => rfl
    | some a => exact ⟨rfl, fun j hj => by simp [bytesV] at hj⟩
  · obtain ⟨b, o, ha, hb, hc⟩ := h4 hne
    rw [ha]
    refine ⟨by simp [bytesV, h1], fun j hj => ?_⟩
    simp only [bytesV, List.length_map] at hj
    have hy := List.getElem?_eq_getElem hj
    have := (hc j _ hy).2 0 _ rfl
    rw [add_mk]
    simp only [Nat.mul_one, Nat.add_zero] at this
    rw [this]
    have hw := u8_wf (h5 _ (List.getElem_mem hj))
    simp only [bytesV, List.getElem?_map, hy, Option.map_some]
    congr 2
    simp
    omega

theorem v4_again : Rows.V4AgainSaid := v4Again_said fun x0 w h0 => by
  obtain ⟨l, h⟩ := slb_in h0
  exact Calls.mono (again_ok h) fun _ _ ⟨_, he, hr, hf⟩ => ⟨by rw [he, hr], hf⟩

theorem v4_parses : Rows.V4ParsesSaid := v4Parses_said fun x0 w h0 => by
  obtain ⟨l, h⟩ := slb_in h0
  exact Calls.mono (parses_ok h) fun _ _ ⟨_, he, hr, hf⟩ => ⟨by rw [he, hr], hf⟩

theorem v4_builds : Rows.V4BuildsSaid := v4Builds_said fun x0 x1 w h0 h1 => by
  obtain ⟨t, i, o, l, p, s, d, df, mf, op, da, ⟨⟩⟩ := x0
  obtain ⟨t', i', o', l', p', s', d', df', mf', op', da', ⟨⟩⟩ := x1
  obtain ⟨_, _, _, _, _, _, _, _, _, ho, hd, _⟩ := h0
  obtain ⟨_, _, _, _, _, _, _, _, _, ho', hd', _⟩ := h1
  obtain ⟨lo, ho⟩ := slb_in ho
  obtain ⟨ld, hd⟩ := slb_in hd
  obtain ⟨lo', ho'⟩ := slb_in ho'
  obtain ⟨ld', hd'⟩ := slb_in hd'
  exact Calls.mono (builds_ok ⟨t, i, o, l, p, s, d, df, mf, lo, ld⟩ ⟨t', i', o', l', p', s', d', df', mf', lo', ld'⟩ ho hd ho' hd') fun _ _ ⟨_, he, hr, hf⟩ => ⟨by rw [he, hr], hf⟩

theorem v4_back : Rows.V4BackSaid := v4Back_said fun x0 x1 w h0 h1 => by
  obtain ⟨t, i, o, l, p, s, d, df, mf, op, da, ⟨⟩⟩ := x0
  obtain ⟨_, _, _, _, _, _, _, _, _, ho, hd, _⟩ := h0
  obtain ⟨lo, ho⟩ := slb_in ho
  obtain ⟨ld, hd⟩ := slb_in hd
  obtain ⟨lm, hm⟩ := slb_in h1
  exact Calls.mono (back_ok ⟨t, i, o, l, p, s, d, df, mf, lo, ld⟩ ho hd hm) fun _ _ ⟨_, he, hr, hf⟩ => ⟨by rw [he, hr], hf⟩
end Go.Proofs.Ytibalhhdladmbaa
