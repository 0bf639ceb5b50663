/- A PCP server that no call made does nothing: the law PcpdNobody returns true at every input and leaves the input as it was. No condition. -/
import Derived.Test.YtmcdmhegjhcjhaaGreatPcRow
import Derived.Test.YtmcdmhegjhcjhaaGreatPcN
namespace Go.Proofs.YtmcdmhegjhcjhaaGreat
open Gp

theorem pcpd_nobody : Rows.PcpdNobodySaid := pcpdNobody_said fun (x0 : Int) (x1 : Int) x2 (x3 : Int) w h0 h1 h2 h3 =>
  Calls.mono (pcpdnobody_ok x0 x1 _ x3 w) fun _ _ ⟨_, he, hr, hf⟩ => ⟨by rw [he, hr], hf⟩
end Go.Proofs.YtmcdmhegjhcjhaaGreat
