/- An element that no call made does nothing: the law B4Nobody returns true at every input and leaves the input as it was. No condition. -/
import Derived.Test.YtmcdmhegjhcjhaaGreatBNoRow
import Derived.Test.YtmcdmhegjhcjhaaGreatB4N
namespace Go.Proofs.YtmcdmhegjhcjhaaGreat
open Gp

theorem b4_nobody : Rows.B4NobodySaid := b4Nobody_said fun x0 (x1 : Int) w h0 h1 =>
  Calls.mono (b4nobody_ok _ x1 w) fun _ _ ⟨_, he, hr, hf⟩ => ⟨by rw [he, hr], hf⟩
end Go.Proofs.YtmcdmhegjhcjhaaGreat
