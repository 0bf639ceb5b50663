import Derived.Test.YtnifdmfflblbbaaGreatDoorRows
import Derived.WalkKit
import Derived.ProofKit
import Derived.OpenShut
import Derived.ShutString
import Derived.ChangeOld
import Derived.Below
import Derived.Test.YtnifdmfflblbbaaGreatDoorW2
import Derived.Test.YtnifdmfflblbbaaGreatDoorWbCl
import Derived.Test.YtnifdmfflblbbaaGreatDoorW4
import Derived.Test.YtnifdmfflblbbaaGreatDoorCards
import Derived.LaidMore
import Derived.LaidLaws
import Derived.LaidHandle
import Derived.Lay
import Derived.SevenTiedAt
import Derived.Stop.Joined
namespace Go.Proofs.YtnifdmfflblbbaaGreatDoor
open Go.ChangeShapes Go.WideShapes Go.ChangeAt Go.RowKit Gp
theorem own:ownKnob Tryz.prog.godebug=none:=by kernel_rfl
abbrev gq:aX:=(.agg (.cons (.int .i64) 1 (.cons (.int .i64) 1 (.cons (.int .i64) 1 (.cons (.slice (.int .u8) 1) 1 .nil)))))
abbrev f_:aX:=(.int .i64)
def g_:Prop:=∀(x0:gq.T) (x1:f_.T) (w:World) (h0:gq.In w x0) (h1:f_.In w x1),Calls Tryz.prog 3 #[gq.value x0,f_.value x1] w fun e w'=>e= .returned (.bool true)/\∀S,eP w w' S
noncomputable def laidWorld (os:Os):World:=
 let w0:=World.laidAll Tryz.prog os (Rows.worldNobodyRow.laid.filter fun x=>x.2.handleName?.isNone)
 {w0 with heap:=w0.heap.modify 0 fun
   | .cells _ t frozen=> .cells #[.iface 562 (.agg #[.pointer (some ⟨7,360,none⟩)])] t frozen
   |o=>o}
theorem laidWorld_met (os:Os) (args:Array Value):laidMetH Tryz.prog Rows.worldNobodyRow.laid ((laidWorld os).forCall (fun _ _=>0) ⟨#[],args,[]⟩).memory:=
 laidMetH_of_parts (laidMet_of_run' 8 (by kernel_rfl) (by kernel_rfl)) (by kernel_rfl)
set_option maxRecDepth 100000 in
theorem nK (law:g_) (os:Os) (started:os.Started) (H:Type) (enc:TypeId×Value->H):
  ReturnsInHanded {} Tryz.checked os 3 .any (fun w args=>(Rows.worldNobodySpec.pre enc Tryz.prog Tryz.f3 Rows.worldNobodyRow.domain false w args/\laidMetH Tryz.prog Rows.worldNobodyRow.laid w)/\sizedMet enc Tryz.prog Tryz.f3 (OpenSpec.ofChange Rows.worldNobodySpec) false w args) (Rows.worldNobodySpec.post enc Tryz.prog Tryz.f3 false true false false):=by
 refine returnsInHanded_of_change_and (C:=Tryz.checked) (X:=fun w _=>laidMetH Tryz.prog Rows.worldNobodyRow.laid w) (fun _ _ _ hh h=>h.of_heap hh) own started (by kernel_rfl) Tryz.func3
  (ChangeSpec.witness_at (enc:=enc) (C:=Tryz.checked) (os:=os) (X:=fun w _=>laidMetH Tryz.prog Rows.worldNobodyRow.laid w) false (laidWorld os) #[.agg #[.int .i64 0,.int .i64 0,.int .i64 0,.slice none 0 0],.int .i64 0] 8 rfl (by kernel_rfl) (by kernel_rfl) (by kernel_rfl) (by kernel_rfl) (by kernel_rfl) (laidWorld_met os _)) ?_
 intro W base args ds gs before hval0 hW hcnd _ hL _
 have hval:∀(j:Nat) t v,Tryz.f3.params[j]? =some t->args[j]? =some v->Value.okWide Tryz.prog W .any base t v:=hval0
 have hW':=hW
 obtain⟨p,q,hA0,hV,rfl,hfz,hnd⟩:=hW
 have hA:DataW.TrodAll enc Tryz.prog W 0 (fun _=>true) true Tryz.f3.params.toList args.toList ds p:=hA0
 rw [Tryz.params3] at hA hval
 obtain⟨v0,vs0,d0,ds0,p0,q0,hargs,rfl,rfl,h0,r0⟩:=trodAll_cons hA
 obtain⟨v1,vs1,d1,ds1,p1,q1,rfl,rfl,rfl,h1,r1⟩:=trodAll_cons r0
 obtain⟨rfl,rfl,rfl⟩:=trodAll_nil r1
 obtain rfl:args= #[v0,v1]:=by cases args;simp_all
 obtain⟨rfl,rfl⟩:=trodVars_none hV
 have lt0:∀x∈p0,x.block<W.heap.size:=by obtain⟨m,hm⟩:=h0;exact DataW.trod_lt m _ _ _ hm
 have lt1:∀x∈p1,x.block<W.heap.size:=by obtain⟨m,hm⟩:=h1;exact DataW.trod_lt m _ _ _ hm
 obtain⟨x0,rfl,in0⟩:=aX.arg gq (by kernel_rfl) (hval 0 _ v0 rfl rfl) h0
 obtain⟨x1,rfl,in1⟩:=aX.arg f_ (by kernel_rfl) (hval 1 _ v1 rfl rfl) h1
 clear hA0 hval0
 refine(law x0 x1 W in0 in1).mono fun e W' ⟨he,bel0⟩=> ?_
 subst he
 have bel:=EF bel0
 exact⟨_,rfl,_,_,_,[],_,[],hW',trodAll_mk1 (shut_bool (by kernel_rfl) _),(trodAll_cons_mk (Below.trod laidOut (by kernel_rfl) (of_decide_eq_true (by kernel_rfl)) h0 bel lt0) (trodAll_cons_mk (Below.trod laidOut (by kernel_rfl) (of_decide_eq_true (by kernel_rfl)) h1 bel lt1) trodAll_mk0)),rfl,bel.frame _,fun h=>by cases h⟩
theorem qc (law:g_):Rows.worldNobodyRow.holds Tryz.pinned (OpenSpec.ofChange Rows.worldNobodySpec):=
 OpenClaim.holds_of_wide 3 Tryz.f3 rfl rfl rfl rfl rfl rfl rfl ⟨rfl,rfl,rfl,rfl,rfl⟩ rfl rfl rfl rfl rfl (by kernel_rfl) Tryz.func3 t_
  (of_decide_eq_true (by kernel_rfl)) (by unfold Func.isWrapper;first|(rw [if_pos (by decide +kernel)];kernel_rfl)|(rw [if_neg (by decide +kernel)];exact⟨rfl,rfl⟩))
  (fun os started H enc _=>nK law os started H enc)
theorem qm (law:g_):Rows.WorldNobodyCardSaid:=
 Claim7.holds_tied_plain_at .later [] [.handle,.pinned,.data,.data,.data,.data] true (true,"1569d1264d8ccd0f409bf5e49d468a30515c9d5a4e8a550680295cc83196ca49") true (qc law) (fun _ h=>by cases h) (by kernel_rfl) (fun _ h=>by cases h) mJ rfl ⟨rfl,rfl⟩ (by kernel_rfl) rfl
  (fun f fn hf hfn=>by
   obtain rfl:f=3:=Option.some.inj ((show Tryz.prog.funcNamed "goosepond/goosepondlaw37.WorldNobody"=some 3 by kernel_rfl).symm.trans hf)|>.symm
   obtain rfl:fn=Tryz.f3:=(Option.some.inj (Tryz.func3.symm.trans hfn)).symm
   exact⟨by kernel_rfl,fun j t ht=>by
    rw [Tryz.params3] at ht
    have hm:t∈[24,3]:=by simpa using Array.mem_of_getElem? ht
    have hall:([24,3].all fun u=> !Tryz.prog.wantsStandIn u)=true:=by kernel_rfl
    exact(show Tryz.prog.wantsStandIn t=false by simpa using List.all_eq_true.1 hall t hm)⟩)
  (DV rfl Fp)
end Go.Proofs.YtnifdmfflblbbaaGreatDoor
