/- A table that no call made takes nothing: the law JoinNobody returns true at every input and leaves the input as it was. No condition. -/
import Derived.Test.YtcoolonmnjacfaaJORow
import Derived.Test.YtcoolonmnjacfaaJN6
import Derived.Test.YtcoolonmnjacfaaIn
namespace Go.Proofs.Ytcoolonmnjacfaa
open Gp Gp.Jn

theorem join_nobody : Rows.JoinNobodySaid := joinNobody_said fun x0 (x1 : Int) x2 (x3 : Int) w h0 h1 h2 h3 => by
  exact Calls.mono (nobody16_ok _ x1 _ x3 w) fun _ _ ⟨_, he, hr, hf⟩ => ⟨by rw [he, hr], hf⟩
end Go.Proofs.Ytcoolonmnjacfaa
