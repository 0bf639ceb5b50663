/- Behind the greatest lifetime no lease is left, and none of its bindings: the law PcpdEnds returns true at every input and leaves the input as it was. No condition. -/
import Derived.Test.YtfndjkoiappemaaGreatPdEndsRow
import Derived.Test.YtfndjkoiappemaaGreatW13
namespace Go.Proofs.YtfndjkoiappemaaGreat
open Gp Go.Proofs.PS
set_option maxRecDepth 100000
theorem pcpd_ends:Rows.PcpdEndsSaid:=P7 fun x0 x1 w h0 h1=>by
 obtain⟨l0,x16,x17,n18,n19,n20,n21,n22,n23,n24,n25,n26,n27,n28,n29,n30,n31,n32,n33,n34,x35,⟨⟩⟩:=x0
 obtain⟨hl,h16,h17,_,_,_,_,_,_,_,_,_,_,_,_,_,_,_,_,_,h35,_⟩:=h0
 obtain⟨p0,p1,p2,p3,p4,p5,p6,p7,p8,p9,p10,p11,p12,p13,p14,p15,rfl⟩:=U7 hl.1
 exact Calls.mono (abj ZP (ada h16) (acI h17) (acE h35) (adB h1)) fun _ _ ⟨_,he,hr,hf⟩=>⟨by rw [he,hr];rfl,hf⟩
end Go.Proofs.YtfndjkoiappemaaGreat
