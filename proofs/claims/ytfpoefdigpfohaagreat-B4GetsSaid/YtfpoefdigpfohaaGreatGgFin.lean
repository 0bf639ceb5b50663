/- A datagram in fragments, in whatever order they come, comes to the hosts as it was sent: the law B4Gets returns true at every input and leaves the input as it was. No condition. -/
import Derived.Test.YtfpoefdigpfohaaGreatGgRow
import Derived.Test.YtfpoefdigpfohaaGreatGg8
namespace Go.Proofs.YtfpoefdigpfohaaGreat
open Gp
theorem b4_gets : Rows.B4GetsSaid := Lp fun x0 x1 w h0 h1 => by
  obtain ⟨l0, h0⟩ := Ry h0
  obtain ⟨l1, h1⟩ := Ry h1
  exact Calls.mono (UM h0 h1) fun _ _ ⟨_, he, hr, hf⟩ => ⟨by rw [he, hr]; rfl, hf⟩
end Go.Proofs.YtfpoefdigpfohaaGreat
