import Derived.Test.YtliadndafhdigaaGreatDoorRows
import Derived.JoinedOf
namespace Go.Proofs.YtliadndafhdigaaGreatDoor
set_option maxRecDepth 100000
set_option maxHeartbeats 20000000
theorem qY : joinedFacts Tryz.pinned.checked.prog 3 Tryz.f3 Rows.aftrNobodySpec Rows.aftrNobodyRow = true := by
  unfold joinedFacts
  simp only [Bool.and_eq_true]
  repeat' apply And.intro
  all_goals decide +kernel
end Go.Proofs.YtliadndafhdigaaGreatDoor
