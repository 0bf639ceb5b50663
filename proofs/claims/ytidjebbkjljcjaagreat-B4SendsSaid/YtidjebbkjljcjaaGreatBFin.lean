/- What goes into the softwire of a datagram is as small as was asked, goes from the element to the AFTR, and is, put together, the datagram with a TTL of one less: the law B4Sends returns true at every input and leaves the input as it was. No condition. -/
import Derived.Test.YtidjebbkjljcjaaGreatBRow
import Derived.Test.YtidjebbkjljcjaaGreatBX6
import Derived.Test.YtidjebbkjljcjaaGreatIn
namespace Go.Proofs.YtidjebbkjljcjaaGreat
open Gp Gp.V4

theorem b4_sends : Rows.B4SendsSaid := b4Sends_said fun x0 (x1 : Int) (x2 : Int) w h0 h1 h2 => by
  obtain ⟨l, h⟩ := slb_in h0
  exact Calls.mono (sends_ok h (wf_u8 h1) (wf_u8 h2)) fun _ _ ⟨_, he, hr, hf⟩ => ⟨by rw [he, hr], hf⟩
end Go.Proofs.YtidjebbkjljcjaaGreat
