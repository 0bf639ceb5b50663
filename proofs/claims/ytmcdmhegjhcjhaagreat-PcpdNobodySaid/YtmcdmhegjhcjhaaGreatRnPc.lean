import Derived.Test.YtmcdmhegjhcjhaaGreatAnN1
import Derived.Test.YtmcdmhegjhcjhaaGreatRn17
import Derived.Test.YtmcdmhegjhcjhaaGreatGPc
/- What the law asks when it is awake: run by the machine. -/
namespace Go.Proofs
open Gp Gp.Rn
set_option maxRecDepth 100000
theorem awake_run : runF Tryz.prog ans 3000 11 (fun rs _ => match rs with
    | [.bool true] => true
    | _ => false) = true := by kernel_rfl
theorem awake_ok (w : World) : c_law44_awake w fun r w' => r = true ∧ Ext w w' :=
  Calls.mono (runF_ok pok awake_run w) fun _ _ ⟨h, hx⟩ => ⟨true, h, rfl, hx⟩
end Go.Proofs
