/- There are never more bytes, nor more buffers, than are allowed, and behind the wait nothing is left: the laws JoinBounds and JoinGone return true at every input and leave the input as it was. No condition. -/
import Derived.Test.YtcoolonmnjacfaaJORow
import Derived.Test.YtcoolonmnjacfaaJN11
import Derived.Test.YtcoolonmnjacfaaIn
import Derived.Test.YtcoolonmnjacfaaIn2
namespace Go.Proofs.Ytcoolonmnjacfaa
open Gp Gp.Jn
set_option maxRecDepth 100000

abbrev doD : Desc := .agg (.cons .bool 1 (.cons .str 1 (.cons (.int .i64) 1 (.cons .bool 1 (.cons (.slice (.int .u8) 1) 1 (.cons .str 1 (.cons (.int .i64) 1 .nil)))))))
def doG (x : doD.T) : Dc := (⟨x.1, x.2.1, x.2.2.1, x.2.2.2.1, x.2.2.2.2.1.2.map fun n : Int => UInt8.ofNat n.toNat, x.2.2.2.2.2.1, x.2.2.2.2.2.2.1⟩, x.2.2.2.2.1.1)

theorem do_in {w : World} {x : (Desc.slice doD 7).T} (h : (Desc.slice doD 7).In w x) : DosAt w x.1 (x.2.map doG) := by
  refine ⟨sln_in (by decide) h doG eD eD_len fun y hy => rfl, fun y hy => ?_, fun y hy => ?_⟩
  · obtain ⟨z, hz, rfl⟩ := List.mem_map.1 hy
    have hin := h.2 z hz
    exact slb_in2 hin.2.2.2.2.1
  · obtain ⟨z, hz, rfl⟩ := List.mem_map.1 hy
    have hin := h.2 z hz
    exact (wf_i64 hin.2.2.2.2.2.2.1).2

theorem join_bounds : Rows.JoinBoundsSaid := joinBounds_said fun (x0 : Int) (x1 : Int) x2 w h0 h1 h2 => by
  have g0 := wf_u8 h0
  have g1 := wf_u8 h1
  exact Calls.mono (bounds_ok ⟨wrap_i64 (by omega) (by omega), g0⟩ ⟨wrap_i64 (by omega) (by omega), g1⟩ (do_in h2)) fun _ _ ⟨_, he, hr, hf⟩ => ⟨by rw [he, hr], hf⟩
theorem join_gone : Rows.JoinGoneSaid := joinGone_said fun x0 w h0 =>
  Calls.mono (gone_ok (do_in h0)) fun _ _ ⟨_, he, hr, hf⟩ => ⟨by rw [he, hr], hf⟩
end Go.Proofs.Ytcoolonmnjacfaa
