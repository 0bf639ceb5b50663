/- Whatever else is put into a table and deleted from it, a key has what it was put last (HashKeeps); as many keys as are allowed are there and each is found (HashMany): both laws return true at every input and leave the input as it was. No condition. -/
import Derived.Test.YtfldbmdomfhmpaaHLaw
import Derived.Test.YtfldbmdomfhmpaaHashLaw
namespace Go.Proofs.Ytfldbmdomfhmpaa
open Gp

theorem hdo_in {w : World} {x : SliceV × List (Int × ByteArray × Int × Unit)} (h : (Desc.slice (.agg (.cons (.int .i64) 1 (.cons .str 1 (.cons (.int .i64) 1 .nil)))) 3).In w x) : HDoIn w x.1 := by
  obtain ⟨⟨h1, h2, h3, h4⟩, _⟩ := h
  refine ⟨fun k hk => ?_⟩
  have hk' : k < x.2.length := by rw [h1] at hk; exact hk
  have hne : x.2 ≠ [] := fun e => by rw [e] at hk'; simp at hk'
  obtain ⟨b, o, ha, hb, hc⟩ := h4 hne
  have := (hc k x.2[k] (List.getElem?_eq_getElem hk')).2
  exact ⟨b, o, x.2[k].1, x.2[k].2.1, x.2[k].2.2.1, ha, hb, this 0 _ rfl, this 1 _ rfl, this 2 _ rfl⟩

theorem hash_keeps : Rows.HashKeepsSaid := hashKeeps_said fun x0 x1 w h0 _ =>
  Calls.mono (keeps_ok (s := x0.1) (key := x1) (hdo_in h0)) fun _ _ ⟨_, he, hr, hf⟩ => ⟨by rw [he, hr], hf⟩

theorem u16_wf {n : Int} (h : (Lit.int .u16 n).wf = true) : 0 ≤ n ∧ n ≤ 65535 := by
  have e1 : IntKind.u16.min = 0 := by decide
  have e2 : IntKind.u16.max = 65535 := by decide
  simp only [Lit.wf, e1, e2, Bool.and_eq_true, decide_eq_true_eq] at h
  omega

theorem hash_many : Rows.HashManySaid := hashMany_said fun x0 w h0 =>
  Calls.mono (many_ok (a0 := x0) (u16_wf h0).1 (u16_wf h0).2) fun _ _ ⟨_, he, hr, hf⟩ => ⟨by rw [he, hr], hf⟩
end Go.Proofs.Ytfldbmdomfhmpaa
