/- A table that no call made takes nothing: the law HashNobody returns true at every input and leaves the input as it was. No condition. -/
import Derived.Test.YtfldbmdomfhmpaaNLaw
import Derived.Test.YtfldbmdomfhmpaaHashNob
namespace Go.Proofs.Ytfldbmdomfhmpaa
open Gp
theorem hash_nobody : Rows.HashNobodySaid := hashNobody_said fun x0 x1 w _ _ =>
  Calls.mono (nobody_ok w x0 x1) fun _ _ ⟨_, he, hr, hf⟩ => ⟨by rw [he, hr], hf⟩
end Go.Proofs.Ytfldbmdomfhmpaa
