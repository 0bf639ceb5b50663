/- What comes into a softwire as an answer is of a binding of that softwire: the law AftrOwn returns true at every input and leaves the input as it was. No condition but the tied card's. -/
import Derived.Test.YtdmbjlliegbpcaaGreatDoorOwRow
import Derived.Test.YtdmbjlliegbpcaaGreatDoorW16
import Derived.Test.YtdmbjlliegbpcaaGreatDoorW3
namespace Go.Proofs.YtdmbjlliegbpcaaGreatDoor
open Gp Go.Proofs.AN
set_option maxRecDepth 100000
theorem aftr_own:Rows.AftrOwnCardSaid:=Ws λx0 x1 x2 w h0 h1 h2 hH=>by
 obtain⟨a0,b0⟩:=wf_u16 h0;obtain⟨a1,b1⟩:=wf_u16 h1;obtain⟨m,rfl⟩:=Int.eq_ofNat_of_zero_le a0;obtain⟨n,rfl⟩:=Int.eq_ofNat_of_zero_le a1;exact Calls.mono (ahZ hH (by omega) (by omega) (agI h2)) λ_ _ ⟨_,he,hr,hf⟩=>⟨by rw[he,hr];rfl,hf⟩
end Go.Proofs.YtdmbjlliegbpcaaGreatDoor
