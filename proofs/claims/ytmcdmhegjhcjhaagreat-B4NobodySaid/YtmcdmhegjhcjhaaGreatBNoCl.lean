import Derived.Test.YtmcdmhegjhcjhaaGreatRows
import Derived.JoinedOf
namespace Go.Proofs.YtmcdmhegjhcjhaaGreat
set_option maxRecDepth 100000
set_option maxHeartbeats 20000000
theorem b4Nobody_cl : joinedFacts Tryz.pinned.checked.prog 3 Tryz.f3 Rows.b4NobodySpec Rows.b4NobodyRow = true := by
  unfold joinedFacts
  simp only [Bool.and_eq_true]
  repeat' apply And.intro
  all_goals decide +kernel
end Go.Proofs.YtmcdmhegjhcjhaaGreat
