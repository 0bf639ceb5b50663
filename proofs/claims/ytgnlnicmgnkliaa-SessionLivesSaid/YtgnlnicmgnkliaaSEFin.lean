/- Sessions do any calls in any order as the document says; no two have one binding and one remote endpoint; and sessions that no call made have nothing: the laws SessionLives, SessionOnce and SessionNobody return true at every input and leave the input as it was. No condition. -/
import Derived.Test.YtgnlnicmgnkliaaSERow
import Derived.Test.YtgnlnicmgnkliaaSes7
import Derived.Test.YtgnlnicmgnkliaaIn
namespace Go.Proofs.Ytgnlnicmgnkliaa
open Gp
open Gp.Ses (Ses)

abbrev doD : Desc := (.slice (.agg (.cons (.int .i64) 1 (.cons (.int .i64) 1 (.cons (.agg (.cons (.int .i64) 1 (.cons (.int .i64) 1 (.cons (.int .i64) 1 (.cons (.agg (.cons (.int .i64) 1 (.cons (.int .i64) 1 .nil))) 2 .nil))))) 5 .nil)))) 7)

theorem do_in {w : World} {x : doD.T} (h : doD.In w x) : DoIn w x.1 := by
  obtain ⟨⟨h1, h2, h3, h4⟩, h5⟩ := h
  refine ⟨by have : maxLen ≤ 2 ^ 63 - 1 := by decide
             omega, fun k hk => ?_⟩
  have hk' : k < x.2.length := by rw [h1] at hk; exact hk
  have hne : x.2 ≠ [] := fun e => by rw [e] at hk'; simp at hk'
  obtain ⟨b, o, ha, hb, hc⟩ := h4 hne
  have hx := List.getElem?_eq_getElem hk'
  have hin := h5 _ (List.getElem_mem hk')
  have hcc := (hc k _ hx).2
  generalize x.2[k] = y at hin hcc
  obtain ⟨op, id, ⟨a1, a2, a3, ⟨a4, a5, ⟨⟩⟩, ⟨⟩⟩, ⟨⟩⟩ := y
  obtain ⟨_, _, ⟨i1, i2, i3, ⟨i4, i5, _⟩, _⟩, _⟩ := hin
  refine ⟨op, id, ⟨a1, a2, a3, a4, a5⟩, _, ses_ok (wf_i64 i1) (wf_i64 i4) (wf_i64 i5), ha, fun j v hj => ?_⟩
  · rw [add_mk, ← Nat.add_assoc]
    exact hcc j v hj

theorem session_lives : Rows.SessionLivesSaid := sessionLives_said fun x0 x1 w _ h1 =>
  Calls.mono (lives24_ok x0 (do_in h1)) fun _ _ ⟨_, he, hr, hf⟩ => ⟨by rw [he, hr], hf⟩
theorem session_once : Rows.SessionOnceSaid := sessionOnce_said fun x0 w h0 =>
  Calls.mono (once24_ok (do_in h0)) fun _ _ ⟨_, he, hr, hf⟩ => ⟨by rw [he, hr], hf⟩
theorem session_nobody : Rows.SessionNobodySaid := sessionNobody_said fun x0 x1 w _ _ => by
  obtain ⟨a, b, c, ⟨d, e, ⟨⟩⟩, ⟨⟩⟩ := x0
  exact Calls.mono (snobody_ok w a b c d e x1) fun _ _ ⟨_, he, hr, hf⟩ => ⟨by rw [he, hr], hf⟩
end Go.Proofs.Ytgnlnicmgnkliaa
