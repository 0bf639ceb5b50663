/- Whatever was called, what an engine has is within its settings: the law NaptBounds returns true at every input and leaves the input as it was. No condition but the tied card's. -/
import Derived.Test.YtlpphhjbjjdhfaaGreatDoorBdRow
import Derived.Test.YtlpphhjbjjdhfaaGreatDoorW17
namespace Go.Proofs.YtlpphhjbjjdhfaaGreatDoor
open Gp Go.Proofs.AN
set_option maxRecDepth 100000
theorem napt_bounds:Rows.NaptBoundsCardSaid:=Q8 λx0 x1 w h0 h1 hH=>by
 obtain⟨l0,x16,x17,n18,n19,n20,n21,n22,n23,n24,n25,n26,n27,n28,n29,n30,n31,n32,n33,n34,x35,⟨⟩⟩:=x0;obtain⟨hl,u,I,_,_,_,_,_,_,_,_,_,_,_,_,_,_,_,_,_,J,_⟩:=h0;obtain⟨p0,p1,p2,p3,p4,p5,p6,p7,p8,p9,p10,p11,p12,p13,p14,p15,rfl⟩:=aay hl.1;exact Calls.mono (EN.O8 (λ_ h=>EN.ae5 h) (ajJ u) (ajg I) (ajK J) (akj h1) hH) λ_ _ ⟨_,he,hr,hf⟩=>⟨by rw[he,hr];rfl,hf⟩
end Go.Proofs.YtlpphhjbjjdhfaaGreatDoor
