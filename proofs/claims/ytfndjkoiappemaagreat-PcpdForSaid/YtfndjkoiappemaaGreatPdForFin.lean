/- A lease holds as long as it was given, and can be asked for again; then it is gone: the law PcpdFor returns true at every input and leaves the input as it was. No condition. -/
import Derived.Test.YtfndjkoiappemaaGreatPdForRow
import Derived.Test.YtfndjkoiappemaaGreatW15
import Derived.Test.YtfndjkoiappemaaGreatW4
namespace Go.Proofs.YtfndjkoiappemaaGreat
open Gp
theorem pcpd_for : Rows.PcpdForSaid := O7 fun (x0 : Int) (x1 : Int) (x2 : Int) w h0 h1 h2 =>
  Calls.mono (PS.aaP (wf_u16 h0) (wf_u16 h1) (wf_u16 h2) w) fun _ _ ⟨_, he, hr, hf⟩ => ⟨by rw [he, hr]; rfl, hf⟩
end Go.Proofs.YtfndjkoiappemaaGreat
