import Derived.Test.YtnemccmcpllhcaaGreatDoorRows
import Derived.JoinedOf
namespace Go.Proofs.YtnemccmcpllhcaaGreatDoor
set_option maxRecDepth 100000
set_option maxHeartbeats 20000000
theorem X4:joinedFacts Tryz.pinned.checked.prog 3 Tryz.f3 Rows.naptHoldsSpec Rows.naptHoldsRow=true:=by
 unfold joinedFacts;simp only[Bool.and_eq_true]
 repeat' apply And.intro
 all_goals decide +kernel
end Go.Proofs.YtnemccmcpllhcaaGreatDoor
