/- A world that no call made does nothing: the law WorldNobody returns true at every input and leaves the input as it was. No condition but the tied card's. -/
import Derived.Test.YtnifdmfflblbbaaGreatDoorWbRow
import Derived.Test.YtnifdmfflblbbaaGreatDoorW13
namespace Go.Proofs.YtnifdmfflblbbaaGreatDoor
open Gp
set_option maxRecDepth 100000
theorem world_nobody:Rows.WorldNobodyCardSaid:=qm fun x0 (x1:Int) w h0 h1=>by
 obtain⟨k0,k1,k2,x3,⟨⟩⟩:=x0
 exact Calls.mono (zS k0 k1 k2 x3.1 x1 w) fun _ _ ⟨_,he,hr,hf⟩=>⟨by rw [he,hr];rfl,hf⟩
end Go.Proofs.YtnifdmfflblbbaaGreatDoor
