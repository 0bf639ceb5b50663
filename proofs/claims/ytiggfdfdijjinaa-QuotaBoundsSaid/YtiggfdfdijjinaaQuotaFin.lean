/- The two laws of quotas (whatever calls are made of a quota, it answers as the document's, QuotaLives; nobody has more than each may or less than none, QuotaBounds) return true at every input and leave the input as it was. No condition. -/
import Derived.Test.YtiggfdfdijjinaaQLaw
import Derived.Test.YtiggfdfdijjinaaQuota
namespace Go.Proofs.Ytiggfdfdijjinaa
open Gp

theorem do_in {w : World} {x : SliceV × List (Bool × Int × Unit)} (h : (Desc.slice (.agg (.cons .bool 1 (.cons (.int .i64) 1 .nil))) 2).In w x) : DoIn w x.1 := by
  obtain ⟨⟨h1, h2, h3, h4⟩, _⟩ := h
  refine ⟨fun k hk => ?_, ?_⟩
  · have hk' : k < x.2.length := by rw [h1] at hk; exact hk
    have hne : x.2 ≠ [] := fun e => by rw [e] at hk'; simp at hk'
    obtain ⟨b, o, ha, hb, hc⟩ := h4 hne
    have := (hc k x.2[k] (List.getElem?_eq_getElem hk')).2
    exact ⟨b, o, x.2[k].1, x.2[k].2.1, ha, hb, this 0 _ rfl, this 1 _ rfl⟩
  · have := Nat.le_trans h2 h3
    exact this

theorem quota_lives : Rows.QuotaLivesSaid := quotaLives_said fun x0 x1 x2 w _ _ h2 =>
  Calls.mono (lives_ok (n := x0) (m := x1) (s := x2.1) (do_in h2)) fun _ _ ⟨_, he, hr, hf⟩ => ⟨by rw [he, hr], hf⟩

theorem u8_wf {n : Int} (h : (Lit.int .u8 n).wf = true) : 0 ≤ n ∧ n ≤ 255 := by
  have e1 : IntKind.u8.min = 0 := by decide
  have e2 : IntKind.u8.max = 255 := by decide
  simp only [Lit.wf, e1, e2, Bool.and_eq_true, decide_eq_true_eq] at h
  omega

theorem quota_bounds : Rows.QuotaBoundsSaid := quotaBounds_said fun x0 x1 x2 w h0 h1 h2 =>
  Calls.mono (bounds_ok (a0 := x0) (a1 := x1) (s := x2.1) (do_in h2) (u8_wf h0).1 (u8_wf h0).2 (u8_wf h1).1 (u8_wf h1).2) fun _ _ ⟨_, he, hr, hf⟩ => ⟨by rw [he, hr], hf⟩
end Go.Proofs.Ytiggfdfdijjinaa
