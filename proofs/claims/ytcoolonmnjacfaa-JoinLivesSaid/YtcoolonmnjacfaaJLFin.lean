/- Buffers do any calls in any order as the document says: the law JoinLives returns true at every input and leaves the input as it was. No condition. -/
import Derived.Test.YtcoolonmnjacfaaJLRow
import Derived.Test.YtcoolonmnjacfaaJNX
import Derived.Test.YtcoolonmnjacfaaIn
import Derived.Test.YtcoolonmnjacfaaIn2
namespace Go.Proofs.Ytcoolonmnjacfaa
open Gp Gp.Jn
set_option maxRecDepth 100000

abbrev doD : Desc := .agg (.cons .bool 1 (.cons .str 1 (.cons (.int .i64) 1 (.cons .bool 1 (.cons (.slice (.int .u8) 1) 1 (.cons .str 1 (.cons (.int .i64) 1 .nil)))))))
def doG (x : doD.T) : Dc := (⟨x.1, x.2.1, x.2.2.1, x.2.2.2.1, x.2.2.2.2.1.2.map fun n : Int => UInt8.ofNat n.toNat, x.2.2.2.2.2.1, x.2.2.2.2.2.2.1⟩, x.2.2.2.2.1.1)

theorem do_in {w : World} {x : (Desc.slice doD 7).T} (h : (Desc.slice doD 7).In w x) : DosAt w x.1 (x.2.map doG) := by
  refine ⟨sln_in (by decide) h doG eD eD_len fun y hy => rfl, fun y hy => ?_, fun y hy => ?_⟩
  · obtain ⟨z, hz, rfl⟩ := List.mem_map.1 hy
    have hin := h.2 z hz
    exact slb_in2 hin.2.2.2.2.1
  · obtain ⟨z, hz, rfl⟩ := List.mem_map.1 hy
    have hin := h.2 z hz
    exact (wf_i64 hin.2.2.2.2.2.2.1).2

theorem join_lives : Rows.JoinLivesSaid := joinLives_said fun (x0 : Int) (x1 : Int) (x2 : Int) x3 w h0 h1 h2 h3 =>
  Calls.mono (jlives_ok x0 x1 x2 (do_in h3)) fun _ _ ⟨_, he, hr, hf⟩ => ⟨by rw [he, hr], hf⟩
end Go.Proofs.Ytcoolonmnjacfaa
