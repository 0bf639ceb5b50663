import Derived.Test.YtfndjkoiappemaaGreatRows
import Derived.JoinedOf
namespace Go.Proofs.YtfndjkoiappemaaGreat
set_option maxRecDepth 100000
set_option maxHeartbeats 20000000
theorem Zb:joinedFacts Tryz.pinned.checked.prog 5 Tryz.f5 Rows.pcpdLivesSpec Rows.pcpdLivesRow=true:=by
 unfold joinedFacts;simp only[Bool.and_eq_true]
 repeat' apply And.intro
 all_goals decide +kernel
end Go.Proofs.YtfndjkoiappemaaGreat
