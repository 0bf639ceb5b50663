/- Bindings that no call made have nothing: the law BindNobody returns true at every input and leaves the input as it was. No condition. -/
import Derived.Test.YtgnlnicmgnkliaaBNRow
import Derived.Test.YtgnlnicmgnkliaaBind3
namespace Go.Proofs.Ytgnlnicmgnkliaa
open Gp
theorem bind_nobody : Rows.BindNobodySaid := bindNobody_said fun x0 x1 w _ _ => by
  obtain ⟨⟨a, b, c, d, ⟨⟩⟩, ⟨e, f, g, ⟨⟩⟩, t, ⟨⟩⟩ := x0
  exact Calls.mono (bnobody_ok w a b c d e f g t x1) fun _ _ ⟨_, he, hr, hf⟩ => ⟨by rw [he, hr], hf⟩
end Go.Proofs.Ytgnlnicmgnkliaa
