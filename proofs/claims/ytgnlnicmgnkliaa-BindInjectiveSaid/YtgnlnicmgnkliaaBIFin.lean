/- No two live bindings share an inner or an outer endpoint: the law BindInjective returns true at every input and leaves the input as it was. No condition. -/
import Derived.Test.YtgnlnicmgnkliaaBIRow
import Derived.Test.YtgnlnicmgnkliaaBind7
import Derived.Test.YtgnlnicmgnkliaaIn
namespace Go.Proofs.Ytgnlnicmgnkliaa
open Gp
open Gp.Bind (Bnd)

abbrev doD : Desc := (.slice (.agg (.cons (.int .i64) 1 (.cons (.int .i64) 1 (.cons (.agg (.cons (.agg (.cons (.int .i64) 1 (.cons (.int .i64) 1 (.cons (.int .i64) 1 (.cons (.int .i64) 1 .nil))))) 4 (.cons (.agg (.cons (.int .i64) 1 (.cons (.int .i64) 1 (.cons (.int .i64) 1 .nil)))) 3 (.cons .bool 1 .nil)))) 8 .nil)))) 10)

theorem do_in {w : World} {x : doD.T} (h : doD.In w x) : DoIn w x.1 := by
  obtain ⟨⟨h1, h2, h3, h4⟩, h5⟩ := h
  refine ⟨by have : maxLen ≤ 2 ^ 63 - 1 := by decide
             omega, fun k hk => ?_⟩
  have hk' : k < x.2.length := by rw [h1] at hk; exact hk
  have hne : x.2 ≠ [] := fun e => by rw [e] at hk'; simp at hk'
  obtain ⟨b, o, ha, hb, hc⟩ := h4 hne
  have hx := List.getElem?_eq_getElem hk'
  have hin := h5 _ (List.getElem_mem hk')
  have hcc := (hc k _ hx).2
  generalize x.2[k] = y at hin hcc
  obtain ⟨op, id, ⟨⟨a1, a2, a3, a4, ⟨⟩⟩, ⟨a5, a6, a7, ⟨⟩⟩, a8, ⟨⟩⟩, ⟨⟩⟩ := y
  obtain ⟨_, _, ⟨⟨i1, i2, i3, i4, _⟩, ⟨i5, i6, i7, _⟩, _, _⟩, _⟩ := hin
  have i1 := wf_i64 i1
  have i2 := wf_i64 i2
  have i3 := wf_i64 i3
  have i4 := wf_i64 i4
  have i5 := wf_i64 i5
  have i6 := wf_i64 i6
  have i7 := wf_i64 i7
  refine ⟨op, id, ⟨a1, a2, a3, a4, a5, a6, a7, a8⟩, _, bnd_ok i1 i2 i3 i4 i5 i6 i7, ha, fun j v hj => ?_⟩
  · rw [add_mk, ← Nat.add_assoc]
    exact hcc j v hj

theorem bind_injective : Rows.BindInjectiveSaid := bindInjective_said fun x0 w h0 =>
  Calls.mono (injective22_ok (do_in h0)) fun _ _ ⟨_, he, hr, hf⟩ => ⟨by rw [he, hr], hf⟩
end Go.Proofs.Ytgnlnicmgnkliaa
