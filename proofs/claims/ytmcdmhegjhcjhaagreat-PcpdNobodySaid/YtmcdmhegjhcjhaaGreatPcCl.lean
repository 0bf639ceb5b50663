import Derived.Test.YtmcdmhegjhcjhaaGreatRows
import Derived.JoinedOf
namespace Go.Proofs.YtmcdmhegjhcjhaaGreat
set_option maxRecDepth 100000
set_option maxHeartbeats 20000000
theorem pcpdNobody_cl : joinedFacts Tryz.pinned.checked.prog 4 Tryz.f4 Rows.pcpdNobodySpec Rows.pcpdNobodyRow = true := by
  unfold joinedFacts
  simp only [Bool.and_eq_true]
  repeat' apply And.intro
  all_goals decide +kernel
end Go.Proofs.YtmcdmhegjhcjhaaGreat
