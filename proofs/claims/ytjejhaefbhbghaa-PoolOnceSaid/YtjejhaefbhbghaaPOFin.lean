/- No endpoint of a pool is given out twice, till none is left, and the parity stays as long as there is one of it: the law PoolOnce returns true at every input and leaves the input as it was. No condition. -/
import Derived.Test.YtjejhaefbhbghaaPORow
import Derived.Test.YtjejhaefbhbghaaPoolA
import Derived.Test.YtjejhaefbhbghaaIn
namespace Go.Proofs.Ytjejhaefbhbghaa
open Gp

theorem win_in {w : World} {x : (Desc.slice (.int .u16) 1).T} (h : (Desc.slice (.int .u16) 1).In w x) : WIn w x.1 := by
  obtain ⟨⟨h1, h2, h3, h4⟩, h5⟩ := h
  refine ⟨by have : maxLen ≤ 2 ^ 63 - 1 := by decide
             omega, fun k hk => ?_⟩
  have hk' : k < x.2.length := by rw [h1] at hk; exact hk
  have hne : x.2 ≠ [] := fun e => by rw [e] at hk'; simp at hk'
  obtain ⟨b, o, ha, hb, hc⟩ := h4 hne
  have hx := List.getElem?_eq_getElem hk'
  have hin := wf_u16 (h5 _ (List.getElem_mem hk'))
  have hcc := (hc k _ hx).2 0 _ rfl
  refine ⟨_, _, hin.1, hin.2, ha, ?_⟩
  rw [add_mk]
  simpa using hcc

theorem pool_once : Rows.PoolOnceSaid := poolOnce_said fun x0 x1 x2 w h0 h1 h2 =>
  Calls.mono (once_ok (wf_u8 h0) (wf_u8 h1) (win_in h2)) fun _ _ ⟨_, he, hr, hf⟩ => ⟨by rw [he, hr], hf⟩
end Go.Proofs.Ytjejhaefbhbghaa
