import Derived.Test.YtcmnjlhbgjhbcaaGreatDoorW16
import Derived.Test.YtcmnjlhbgjhbcaaGreatDoorG33
namespace Go.Proofs
open Gp Gp.Rn
set_option maxRecDepth 100000
set_option maxHeartbeats 4000000
theorem acI:alz Tryz.prog ⟨ans,[m5,m4,m3,m2,m1,m0]⟩ 3000 6 (λrs _=>match rs with
  |[.bool true]=>true
  |_=>false)=true:=by kernel_rfl
theorem aeo (w:World):pF w λr w'=>r=true/\Ext w w':=
 Calls.mono (aii iE (am6 iE) acI w) λ_ _ ⟨h,hx⟩=>⟨true,h,rfl,hx⟩
end Go.Proofs
