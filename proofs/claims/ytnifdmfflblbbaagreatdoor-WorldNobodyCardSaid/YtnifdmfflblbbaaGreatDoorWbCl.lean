import Derived.Test.YtnifdmfflblbbaaGreatDoorRows
import Derived.JoinedOf
namespace Go.Proofs.YtnifdmfflblbbaaGreatDoor
set_option maxRecDepth 100000
set_option maxHeartbeats 20000000
theorem t_:joinedFacts Tryz.pinned.checked.prog 3 Tryz.f3 Rows.worldNobodySpec Rows.worldNobodyRow=true:=by
 unfold joinedFacts
 simp only [Bool.and_eq_true]
 repeat' apply And.intro
 all_goals decide +kernel
end Go.Proofs.YtnifdmfflblbbaaGreatDoor
