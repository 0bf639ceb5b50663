/- What comes from the Internet, while there is no binding, goes into no softwire, and nothing is told of it but that its time is over: the law AftrClosed returns true at every input and leaves the input as it was. No condition but the tied card's. -/
import Derived.Test.YtcmnjlhbgjhbcaaGreatDoorClRow
import Derived.Test.YtcmnjlhbgjhbcaaGreatDoorW12
import Derived.Test.YtcmnjlhbgjhbcaaGreatDoorRnCl
namespace Go.Proofs.YtcmnjlhbgjhbcaaGreatDoor
open Gp Go.Proofs.AN
set_option maxRecDepth 100000
theorem aftr_closed:Rows.AftrClosedCardSaid:=OH λx0 x1 w h0 h1=>by
 obtain⟨l0,x16,x17,n18,n19,n20,n21,n22,n23,n24,n25,n26,n27,n28,n29,n30,n31,n32,n33,n34,x35,⟨⟩⟩:=x0;obtain⟨hl,j,u,_,_,_,_,_,_,_,_,_,_,_,_,_,_,_,_,_,z,_⟩:=h0;obtain⟨p0,p1,p2,p3,p4,p5,p6,p7,p8,p9,p10,p11,p12,p13,p14,p15,rfl⟩:=ZF hl.1;exact Calls.mono (acU aeo (alG j) (ak7 u) (alK z) (am0 h1)) λ_ _ ⟨_,he,hr,hf⟩=>⟨by rw[he,hr];rfl,hf⟩
end Go.Proofs.YtcmnjlhbgjhbcaaGreatDoor
