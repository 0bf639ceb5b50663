import Derived.Test.YtcmnjlhbgjhbcaaGreatDoorRows
import GoSem.ClaimGoes
import Derived.KernelRfl
set_option maxRecDepth 100000
namespace Go.Proofs.YtcmnjlhbgjhbcaaGreatDoor
theorem adi {P:Program} {c:OpenClaim} (hs:c.start= .entering) (h:P.funcs.any Func.goes=false):false=c.goesBy P:=by
 unfold OpenClaim.goesBy Program.goesAt Program.goesFrom;rw[hs];have hg:∀f,P.goes f=false:=by
  intro f;unfold Program.goes;rw[h,Bool.and_false,Bool.or_false,List.any_eq_false];intro g _
  cases e:P.funcs[g]? with
  |none=>simp
  |some fn=>
   have:=Array.any_eq_false'.1 h fn (Array.mem_of_getElem? e);simpa using this
 cases P.funcNamed c.func with
 |none=>rfl
 |some f=>simp[hg]
theorem afg:Tryz.prog.funcs.any Func.goes=false:=by kernel_rfl
end Go.Proofs.YtcmnjlhbgjhbcaaGreatDoor
