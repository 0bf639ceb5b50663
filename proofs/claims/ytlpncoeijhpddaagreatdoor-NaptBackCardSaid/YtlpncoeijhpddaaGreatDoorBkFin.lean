/- An answer to a datagram that went out comes to who sent it, and not once the time is over: the law NaptBack returns true at every input and leaves the input as it was. No condition but the tied card's. -/
import Derived.Test.YtlpncoeijhpddaaGreatDoorBkRow
import Derived.Test.YtlpncoeijhpddaaGreatDoorW17
namespace Go.Proofs.YtlpncoeijhpddaaGreatDoor
open Gp Go.Proofs.AN
set_option maxRecDepth 100000
theorem napt_back:Rows.NaptBackCardSaid:=W_ λx0 x1 x2 x3 x4 x5 w h0 h1 h2 h3 h4 h5 hH=>by
 obtain⟨l0,x16,x17,n18,n19,n20,n21,n22,n23,n24,n25,n26,n27,n28,n29,n30,n31,n32,n33,n34,x35,⟨⟩⟩:=x0;obtain⟨hl,u,I,_,_,_,_,_,_,_,_,_,_,_,_,_,_,_,_,_,J,_⟩:=h0;obtain⟨p0,p1,p2,p3,p4,p5,p6,p7,p8,p9,p10,p11,p12,p13,p14,p15,rfl⟩:=aa5 hl.1;obtain⟨a2,b2⟩:=wf_u8 h2;obtain⟨a3,b3⟩:=wf_u16 h3;obtain⟨a4,b4⟩:=wf_u16 h4;obtain⟨m,rfl⟩:=Int.eq_ofNat_of_zero_le a2;obtain⟨n,rfl⟩:=Int.eq_ofNat_of_zero_le a3;obtain⟨t,rfl⟩:=Int.eq_ofNat_of_zero_le a4;exact Calls.mono (EN.ahB (λ_ h=>EN.afD h) (akj u) (ajP I) (akk J) (akS h1) (by omega) (by omega) (by omega) (Tf h5) hH) λ_ _ ⟨_,he,hr,hf⟩=>⟨by rw[he,hr];rfl,hf⟩
end Go.Proofs.YtlpncoeijhpddaaGreatDoor
