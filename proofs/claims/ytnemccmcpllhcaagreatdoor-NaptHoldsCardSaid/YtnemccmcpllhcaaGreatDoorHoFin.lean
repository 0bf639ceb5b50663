/- A binding stays as long as the settings say, whatever other softwires send meanwhile, and it is not taken from it: the law NaptHolds returns true at every input and leaves the input as it was. No condition but the tied card's. -/
import Derived.Test.YtnemccmcpllhcaaGreatDoorHoRow
import Derived.Test.YtnemccmcpllhcaaGreatDoorW17
namespace Go.Proofs.YtnemccmcpllhcaaGreatDoor
open Gp Go.Proofs.AN
set_option maxRecDepth 100000
theorem napt_holds:Rows.NaptHoldsCardSaid:=SQ λx0 x1 x2 w h0 h1 h2 hH=>by
 obtain⟨l0,x16,x17,n18,n19,n20,n21,n22,n23,n24,n25,n26,n27,n28,n29,n30,n31,n32,n33,n34,x35,⟨⟩⟩:=x0;obtain⟨hl,u,I,_,_,_,_,_,_,_,_,_,_,_,_,_,_,_,_,_,J,_⟩:=h0;obtain⟨p0,p1,p2,p3,p4,p5,p6,p7,p8,p9,p10,p11,p12,p13,p14,p15,rfl⟩:=ϑ hl.1;have hu:=wf_u16 h2;obtain⟨n,rfl⟩:=Int.eq_ofNat_of_zero_le hu.1;exact Calls.mono (EN.aeG (λ_ h=>EN.adV h) (ais u) (ahY I) (ait J) (aiV h1) (n:=n) (by have:=hu.2;omega) hH) λ_ _ ⟨_,he,hr,hf⟩=>⟨by rw[he,hr];rfl,hf⟩
end Go.Proofs.YtnemccmcpllhcaaGreatDoor
