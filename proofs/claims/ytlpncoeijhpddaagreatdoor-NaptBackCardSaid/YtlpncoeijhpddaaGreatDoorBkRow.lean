import Derived.Test.YtlpncoeijhpddaaGreatDoorRows
import Derived.WalkKit
import Derived.ProofKit
import Derived.OpenShut
import Derived.ShutString
import Derived.ChangeOld
import Derived.Below
import Derived.Test.YtlpncoeijhpddaaGreatDoorW2
import Derived.Test.YtlpncoeijhpddaaGreatDoorW17
import Derived.Test.YtlpncoeijhpddaaGreatDoorBkCl
import Derived.Test.YtlpncoeijhpddaaGreatDoorW13
import Derived.Test.YtlpncoeijhpddaaGreatDoorTie
import Derived.Test.YtlpncoeijhpddaaGreatDoorCards
import Derived.LaidMore
import Derived.LaidLaws
import Derived.LaidHandle
import Derived.Lay
import Derived.SevenTiedAt
import Derived.Stop.Joined
namespace Go.Proofs.YtlpncoeijhpddaaGreatDoor
open Go.ChangeShapes Go.WideShapes Go.ChangeAt Go.RowKit Gp
theorem own:ownKnob Tryz.prog.godebug=none:=by kernel_rfl
theorem laidOut:laidOutB Tryz.prog=true:=by kernel_rfl
abbrev DJ:jq:=(.agg (.cons (.arr 16 (.int .u8) 1) 16 (.cons (.slice (.arr 16 (.int .u8) 1) 16) 1 (.cons (.slice (.int .i64) 1) 1 (.cons (.int .i64) 1 (.cons (.int .i64) 1 (.cons (.int .i64) 1 (.cons (.int .i64) 1 (.cons (.int .i64) 1 (.cons (.int .i64) 1 (.cons (.int .i64) 1 (.cons (.int .i64) 1 (.cons (.int .i64) 1 (.cons (.int .i64) 1 (.cons (.int .i64) 1 (.cons (.int .i64) 1 (.cons (.int .i64) 1 (.cons (.int .i64) 1 (.cons (.int .i64) 1 (.cons (.int .i64) 1 (.cons (.int .i64) 1 (.cons (.slice (.agg (.cons (.agg (.cons (.int .i64) 1 (.cons (.int .i64) 1 (.cons (.int .i64) 1 (.cons (.int .i64) 1 .nil))))) 4 (.cons (.agg (.cons (.int .i64) 1 (.cons (.int .i64) 1 (.cons (.int .i64) 1 .nil)))) 3 .nil))) 7) 1 .nil))))))))))))))))))))))
abbrev DK:jq:=(.slice (.agg (.cons (.int .i64) 1 (.cons (.int .i64) 1 (.cons (.int .i64) 1 (.cons (.slice (.int .u8) 1) 1 (.cons (.agg (.cons (.int .i64) 1 (.cons (.int .i64) 1 (.cons (.int .i64) 1 (.cons (.int .i64) 1 (.cons (.int .i64) 1 (.cons (.int .i64) 1 (.cons (.int .i64) 1 (.cons .bool 1 (.cons .bool 1 (.cons (.slice (.int .u8) 1) 1 (.cons (.slice (.int .u8) 1) 1 .nil)))))))))))) 11 (.cons (.agg (.cons (.agg (.cons (.int .i64) 1 (.cons (.int .i64) 1 (.cons (.int .i64) 1 (.cons (.int .i64) 1 .nil))))) 4 (.cons (.agg (.cons (.int .i64) 1 (.cons (.int .i64) 1 (.cons (.int .i64) 1 .nil)))) 3 .nil))) 7 .nil))))))) 22)
abbrev DL:jq:=(.int .u8)
abbrev DN:jq:=(.int .u16)
abbrev DR:jq:=(.int .u16)
abbrev DT:jq:=(.slice (.int .u8) 1)
def Ew:Prop:=∀(x0:DJ.T) (x1:DK.T) (x2:DL.T) (x3:DN.T) (x4:DR.T) (x5:DT.T) (w:World) (_:DJ.In w x0) (_:DK.In w x1) (_:DL.In w x2) (_:DN.In w x3) (_:DR.In w x4) (_:DT.In w x5) (_:EN.Hdl w),Calls Tryz.prog 3 #[DJ.value x0,DK.value x1,DL.value x2,DN.value x3,DR.value x4,DT.value x5] w λe w'=>e= .returned (.bool true)/\∀S,ig w w' S
noncomputable def laidWorld (os:Os):World:=
 let w0:=World.holding Tryz.prog os ⟨#[],#[],[]⟩
 {w0 with heap:=w0.heap.modify 0 fun
   | .cells _ t frozen=> .cells #[.iface 316 (.agg #[.pointer (some ⟨1,111,none⟩)])] t frozen
   |o=>o}
theorem laidWorld_met (os:Os) (args:Array Value):laidMetH Tryz.prog Rows.naptBackRow.laid ((laidWorld os).forCall (λ_ _=>0) ⟨#[],args,[]⟩).memory:=
 laidMetH_of_parts (laidMet_nil _ _) (by kernel_rfl)
theorem et:Tryz.prog.globalNamed "errors.errorType"=some 0:=by kernel_rfl
theorem rt:(Tryz.prog.cutTypes.find? (·.1=="internal/reflectlite.rtype")).map (·.2)=some 316:=by kernel_rfl
theorem akp:Tryz.prog.types.size=474:=by kernel_rfl
theorem oneRow:((List.range 474).filter λt=>Tryz.prog.rowNamed t [101,114,114,111,114])=[111]:=by kernel_rfl
theorem aae {W:World} (h:laidMetH Tryz.prog Rows.naptBackRow.laid W):EN.Hdl W:=by
 have h':laidMet Tryz.prog [] W/\handlesMet Tryz.prog Rows.naptBackRow.laid W:=h;obtain⟨name,u,ty,e1,e2,e3,e4,e5⟩:=h'.2 _ (List.mem_singleton.2 rfl);have en:name=[101,114,114,111,114]:=(Option.some.inj e1).symm;subst en;obtain rfl:=Option.some.inj (rt.symm.trans e2);have hm:ty∈(List.range 474).filter λt=>Tryz.prog.rowNamed t [101,114,114,111,114]:=List.mem_filter.2 ⟨List.mem_range.2 (by rw[<- akp];exact e3),e4⟩;rw[oneRow] at hm;obtain rfl:=List.mem_singleton.1 hm;have hh:typeHandle Tryz.prog 111= .pointer (some ⟨1,111,none⟩):=by kernel_rfl
 rw[hh] at e5;have:=World.var?_cell et e5 0;unfold EN.Hdl;simpa using this
set_option maxRecDepth 100000 in
theorem RF (law:Ew) (os:Os) (started:os.Started) (H:Type) (enc:TypeId×Value->H):
  ReturnsInHanded {} Tryz.checked os 3 .any (λw args=>(Rows.naptBackSpec.pre enc Tryz.prog Tryz.f3 Rows.naptBackRow.domain false w args/\laidMetH Tryz.prog Rows.naptBackRow.laid w)/\sizedMet enc Tryz.prog Tryz.f3 (OpenSpec.ofChange Rows.naptBackSpec) false w args) (Rows.naptBackSpec.post enc Tryz.prog Tryz.f3 false true false false):=by
 refine returnsInHanded_of_change_and (C:=Tryz.checked) (X:=λw _=>laidMetH Tryz.prog Rows.naptBackRow.laid w) (λ_ _ _ hh h=>h.of_heap hh) own started (by kernel_rfl) Tryz.func3
  (ChangeSpec.witness_at (enc:=enc) (C:=Tryz.checked) (os:=os) (X:=λw _=>laidMetH Tryz.prog Rows.naptBackRow.laid w) false (laidWorld os) #[.agg #[.int .u8 0,.int .u8 0,.int .u8 0,.int .u8 0,.int .u8 0,.int .u8 0,.int .u8 0,.int .u8 0,.int .u8 0,.int .u8 0,.int .u8 0,.int .u8 0,.int .u8 0,.int .u8 0,.int .u8 0,.int .u8 0,.slice none 0 0,.slice none 0 0,.int .i64 0,.int .i64 0,.int .i64 0,.int .i64 0,.int .i64 0,.int .i64 0,.int .i64 0,.int .i64 0,.int .i64 0,.int .i64 0,.int .i64 0,.int .i64 0,.int .i64 0,.int .i64 0,.int .i64 0,.int .i64 0,.int .i64 0,.slice none 0 0],.slice none 0 0,.int .u8 0,.int .u16 0,.int .u16 0,.slice none 0 0] 8 rfl (by kernel_rfl) (by kernel_rfl) (by kernel_rfl) (by kernel_rfl) (by kernel_rfl) (laidWorld_met os _)) ?_
 intro W base args ds gs before I hW hcnd _ hL _;have u:∀(j:Nat) t v,Tryz.f3.params[j]? =some t->args[j]? =some v->Value.okWide Tryz.prog W .any base t v:=I;have hW':=hW;obtain⟨p,q,hA0,hV,rfl,hfz,hnd⟩:=hW;have hA:DataW.TrodAll enc Tryz.prog W 0 (λ_=>true) true Tryz.f3.params.toList args.toList ds p:=hA0;rw[Tryz.params3] at hA u;obtain⟨v0,vs0,d0,ds0,p0,q0,hargs,rfl,rfl,h0,r0⟩:=trodAll_cons hA;obtain⟨v1,vs1,d1,ds1,p1,q1,rfl,rfl,rfl,h1,r1⟩:=trodAll_cons r0;obtain⟨v2,vs2,d2,ds2,p2,q2,rfl,rfl,rfl,h2,r2⟩:=trodAll_cons r1;obtain⟨v3,vs3,d3,ds3,p3,q3,rfl,rfl,rfl,h3,r3⟩:=trodAll_cons r2;obtain⟨v4,vs4,d4,ds4,p4,q4,rfl,rfl,rfl,h4,r4⟩:=trodAll_cons r3;obtain⟨v5,vs5,d5,ds5,p5,q5,rfl,rfl,rfl,h5,r5⟩:=trodAll_cons r4;obtain⟨rfl,rfl,rfl⟩:=trodAll_nil r5;obtain rfl:args= #[v0,v1,v2,v3,v4,v5]:=by cases args;simp_all
 obtain⟨rfl,rfl⟩:=trodVars_none hV;have lt0:∀x∈p0,x.block<W.heap.size:=by obtain⟨m,hm⟩:=h0;exact DataW.trod_lt m _ _ _ hm
 have lt1:∀x∈p1,x.block<W.heap.size:=by obtain⟨m,hm⟩:=h1;exact DataW.trod_lt m _ _ _ hm
 have lt2:∀x∈p2,x.block<W.heap.size:=by obtain⟨m,hm⟩:=h2;exact DataW.trod_lt m _ _ _ hm
 have lt3:∀x∈p3,x.block<W.heap.size:=by obtain⟨m,hm⟩:=h3;exact DataW.trod_lt m _ _ _ hm
 have lt4:∀x∈p4,x.block<W.heap.size:=by obtain⟨m,hm⟩:=h4;exact DataW.trod_lt m _ _ _ hm
 have lt5:∀x∈p5,x.block<W.heap.size:=by obtain⟨m,hm⟩:=h5;exact DataW.trod_lt m _ _ _ hm
 obtain⟨x0,rfl,in0⟩:=jq.arg DJ (by kernel_rfl) (u 0 _ v0 rfl rfl) h0;obtain⟨x1,rfl,in1⟩:=jq.arg DK (by kernel_rfl) (u 1 _ v1 rfl rfl) h1;obtain⟨x2,rfl,in2⟩:=jq.arg DL (by kernel_rfl) (u 2 _ v2 rfl rfl) h2;obtain⟨x3,rfl,in3⟩:=jq.arg DN (by kernel_rfl) (u 3 _ v3 rfl rfl) h3;obtain⟨x4,rfl,in4⟩:=jq.arg DR (by kernel_rfl) (u 4 _ v4 rfl rfl) h4;obtain⟨x5,rfl,in5⟩:=jq.arg DT (by kernel_rfl) (u 5 _ v5 rfl rfl) h5;clear hA0 I;refine(law x0 x1 x2 x3 x4 x5 W in0 in1 in2 in3 in4 in5 (aae hL)).mono λe W' ⟨he,bel0⟩=> ?_;subst he;have bel:=afF bel0;exact⟨_,rfl,_,_,_,[],_,[],hW',trodAll_mk1 (shut_bool (by kernel_rfl) _),(trodAll_cons_mk (Below.trod laidOut (by kernel_rfl) (of_decide_eq_true (by kernel_rfl)) h0 bel lt0) (trodAll_cons_mk (Below.trod laidOut (by kernel_rfl) (of_decide_eq_true (by kernel_rfl)) h1 bel lt1) (trodAll_cons_mk (Below.trod laidOut (by kernel_rfl) (of_decide_eq_true (by kernel_rfl)) h2 bel lt2) (trodAll_cons_mk (Below.trod laidOut (by kernel_rfl) (of_decide_eq_true (by kernel_rfl)) h3 bel lt3) (trodAll_cons_mk (Below.trod laidOut (by kernel_rfl) (of_decide_eq_true (by kernel_rfl)) h4 bel lt4) (trodAll_cons_mk (Below.trod laidOut (by kernel_rfl) (of_decide_eq_true (by kernel_rfl)) h5 bel lt5) trodAll_mk0)))))),rfl,bel.frame _,λh=>by cases h⟩
theorem Xa (law:Ew):Rows.naptBackRow.holds Tryz.pinned (OpenSpec.ofChange Rows.naptBackSpec):=
 OpenClaim.holds_of_wide 3 Tryz.f3 rfl rfl rfl rfl rfl rfl rfl ⟨rfl,rfl,rfl,rfl,rfl⟩ rfl rfl rfl rfl rfl (by kernel_rfl) Tryz.func3 aaq
  (of_decide_eq_true (by kernel_rfl)) (by unfold Func.isWrapper;first|(rw[if_pos (by decide +kernel)];kernel_rfl)|(rw[if_neg (by decide +kernel)];exact⟨rfl,rfl⟩))
  (λos started H enc _=>RF law os started H enc)
theorem W_ (law:Ew):Rows.NaptBackCardSaid:=
 Claim7.holds_tied_plain_at .later [] [.handle] true (true,"db275d3575c963ba2c438cf6ec780a91e800adbc7367822b8a6ec2f9d942137d") true (Xa law) (λ_ h=>by cases h) (by kernel_rfl) (λ_ h=>by cases h) naptBack_row_tie rfl ⟨rfl,rfl⟩ (by kernel_rfl) rfl
  (λf fn hf J=>by
   obtain rfl:f=3:=Option.some.inj ((show Tryz.prog.funcNamed "goosepond/goosepondlaw27.NaptBack"=some 3 by kernel_rfl).symm.trans hf)|>.symm;obtain rfl:fn=Tryz.f3:=(Option.some.inj (Tryz.func3.symm.trans J)).symm;exact⟨by kernel_rfl,λj t ht=>by
    rw[Tryz.params3] at ht;have hm:t∈[28,29,5,30,30,31]:=by simpa using Array.mem_of_getElem? ht
    have I:([28,29,5,30,30,31].all λu=> !Tryz.prog.wantsStandIn u)=true:=by kernel_rfl
    exact(show Tryz.prog.wantsStandIn t=false by simpa using List.all_eq_true.1 I t hm)⟩)
  (aer rfl agk)
end Go.Proofs.YtlpncoeijhpddaaGreatDoor
