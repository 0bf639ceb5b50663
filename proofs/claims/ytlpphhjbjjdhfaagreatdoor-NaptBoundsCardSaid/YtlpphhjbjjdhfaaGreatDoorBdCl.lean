import Derived.Test.YtlpphhjbjjdhfaaGreatDoorRows
import Derived.JoinedOf
namespace Go.Proofs.YtlpphhjbjjdhfaaGreatDoor
set_option maxRecDepth 100000
set_option maxHeartbeats 20000000
theorem V_:joinedFacts Tryz.pinned.checked.prog 3 Tryz.f3 Rows.naptBoundsSpec Rows.naptBoundsRow=true:=by
 unfold joinedFacts;simp only[Bool.and_eq_true]
 repeat' apply And.intro
 all_goals decide +kernel
end Go.Proofs.YtlpphhjbjjdhfaaGreatDoor
