/- A server does any calls in any order as the document says, and so does its engine: the law PcpdLives returns true at every input and leaves the input as it was. No condition. -/
import Derived.Test.YtfndjkoiappemaaGreatPdLivesRow
import Derived.Test.YtfndjkoiappemaaGreatW17
import Derived.Test.YtfndjkoiappemaaGreatW12
namespace Go.Proofs.YtfndjkoiappemaaGreat
open Gp Go.Proofs.PS
set_option maxRecDepth 100000
theorem pcpd_lives:Rows.PcpdLivesSaid:=VE λx0 x1 x2 w h0 h1 h2=>by
 obtain⟨l0,x16,x17,n18,n19,n20,n21,n22,n23,n24,n25,n26,n27,n28,n29,n30,n31,n32,n33,n34,x35,⟨⟩⟩:=x0;obtain⟨hl,h,u,_,_,_,_,_,_,_,_,_,_,_,_,_,_,_,_,_,I,_⟩:=h0;obtain⟨p0,p1,p2,p3,p4,p5,p6,p7,p8,p9,p10,p11,p12,p13,p14,p15,rfl⟩:=aaG hl.1;exact Calls.mono (XS.afF aeM (aiT h) (aiE u) (aiV I) x1 (ajq h2)) λ_ _ ⟨_,he,hr,hf⟩=>⟨by rw[he,hr];rfl,hf⟩
end Go.Proofs.YtfndjkoiappemaaGreat
