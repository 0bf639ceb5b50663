/- An element of the provider's that no call made does nothing: the law AftrNobody returns true at every input and leaves the input as it was. No condition but the tied card's. -/
import Derived.Test.YtliadndafhdigaaGreatDoorAfRow
import Derived.Test.YtliadndafhdigaaGreatDoorW15
namespace Go.Proofs.YtliadndafhdigaaGreatDoor
open Gp
set_option maxRecDepth 100000
theorem aftr_nobody : Rows.AftrNobodyCardSaid := oz fun x0 (x1 : Int) w h0 h1 =>
  Calls.mono (ru x0.1 x1 w) fun _ _ ⟨_, he, hr, hf⟩ => ⟨by rw [he, hr]; rfl, hf⟩
end Go.Proofs.YtliadndafhdigaaGreatDoor
