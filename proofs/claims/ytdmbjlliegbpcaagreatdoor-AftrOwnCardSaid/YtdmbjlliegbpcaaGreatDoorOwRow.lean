import Derived.Test.YtdmbjlliegbpcaaGreatDoorRows
import Derived.WalkKit
import Derived.ProofKit
import Derived.OpenShut
import Derived.ShutString
import Derived.ChangeOld
import Derived.Below
import Derived.Test.YtdmbjlliegbpcaaGreatDoorW2
import Derived.Test.YtdmbjlliegbpcaaGreatDoorW16
import Derived.Test.YtdmbjlliegbpcaaGreatDoorOwCl
import Derived.Test.YtdmbjlliegbpcaaGreatDoorW12
import Derived.Test.YtdmbjlliegbpcaaGreatDoorTie
import Derived.Test.YtdmbjlliegbpcaaGreatDoorCards
import Derived.LaidMore
import Derived.LaidLaws
import Derived.LaidHandle
import Derived.Lay
import Derived.SevenTiedAt
import Derived.Stop.Joined
namespace Go.Proofs.YtdmbjlliegbpcaaGreatDoor
open Go.ChangeShapes Go.WideShapes Go.ChangeAt Go.RowKit Gp
theorem own:ownKnob Tryz.prog.godebug=none:=by kernel_rfl
theorem laidOut:laidOutB Tryz.prog=true:=by kernel_rfl
abbrev DZ:jV:=(.int .u16)
abbrev D5:jV:=(.int .u16)
abbrev D6:jV:=(.slice (.int .u8) 1)
def DY:Prop:=∀(x0:DZ.T) (x1:D5.T) (x2:D6.T) (w:World) (_:DZ.In w x0) (_:D5.In w x1) (_:D6.In w x2) (_:EN.Hdl w),Calls Tryz.prog 3 #[DZ.value x0,D5.value x1,D6.value x2] w λe w'=>e= .returned (.bool true)/\∀S,gW w w' S
noncomputable def laidWorld (os:Os):World:=
 let w0:=World.holding Tryz.prog os ⟨#[],#[],[]⟩
 {w0 with heap:=w0.heap.modify 0 fun
   | .cells _ t frozen=> .cells #[.iface 460 (.agg #[.pointer (some ⟨1,267,none⟩)])] t frozen
   |o=>o}
theorem laidWorld_met (os:Os) (args:Array Value):laidMetH Tryz.prog Rows.aftrOwnRow.laid ((laidWorld os).forCall (λ_ _=>0) ⟨#[],args,[]⟩).memory:=
 laidMetH_of_parts (laidMet_nil _ _) (by kernel_rfl)
theorem et:Tryz.prog.globalNamed "errors.errorType"=some 0:=by kernel_rfl
theorem rt:(Tryz.prog.cutTypes.find? (·.1=="internal/reflectlite.rtype")).map (·.2)=some 460:=by kernel_rfl
theorem ah9:Tryz.prog.types.size=564:=by kernel_rfl
theorem oneRow:((List.range 564).filter λt=>Tryz.prog.rowNamed t [101,114,114,111,114])=[267]:=by kernel_rfl
theorem Y_ {W:World} (h:laidMetH Tryz.prog Rows.aftrOwnRow.laid W):EN.Hdl W:=by
 have h':laidMet Tryz.prog [] W/\handlesMet Tryz.prog Rows.aftrOwnRow.laid W:=h;obtain⟨name,u,ty,e1,e2,e3,e4,e5⟩:=h'.2 _ (List.mem_singleton.2 rfl);have en:name=[101,114,114,111,114]:=(Option.some.inj e1).symm;subst en;obtain rfl:=Option.some.inj (rt.symm.trans e2);have hm:ty∈(List.range 564).filter λt=>Tryz.prog.rowNamed t [101,114,114,111,114]:=List.mem_filter.2 ⟨List.mem_range.2 (by rw[<- ah9];exact e3),e4⟩;rw[oneRow] at hm;obtain rfl:=List.mem_singleton.1 hm;have hh:typeHandle Tryz.prog 267= .pointer (some ⟨1,267,none⟩):=by kernel_rfl
 rw[hh] at e5;have:=World.var?_cell et e5 0;unfold EN.Hdl;simpa using this
set_option maxRecDepth 100000 in
theorem QM (law:DY) (os:Os) (started:os.Started) (H:Type) (enc:TypeId×Value->H):
  ReturnsInHanded {} Tryz.checked os 3 .any (λw args=>(Rows.aftrOwnSpec.pre enc Tryz.prog Tryz.f3 Rows.aftrOwnRow.domain false w args/\laidMetH Tryz.prog Rows.aftrOwnRow.laid w)/\sizedMet enc Tryz.prog Tryz.f3 (OpenSpec.ofChange Rows.aftrOwnSpec) false w args) (Rows.aftrOwnSpec.post enc Tryz.prog Tryz.f3 false true false false):=by
 refine returnsInHanded_of_change_and (C:=Tryz.checked) (X:=λw _=>laidMetH Tryz.prog Rows.aftrOwnRow.laid w) (λ_ _ _ hh h=>h.of_heap hh) own started (by kernel_rfl) Tryz.func3
  (ChangeSpec.witness_at (enc:=enc) (C:=Tryz.checked) (os:=os) (X:=λw _=>laidMetH Tryz.prog Rows.aftrOwnRow.laid w) false (laidWorld os) #[.int .u16 0,.int .u16 0,.slice none 0 0] 8 rfl (by kernel_rfl) (by kernel_rfl) (by kernel_rfl) (by kernel_rfl) (by kernel_rfl) (laidWorld_met os _)) ?_
 intro W base args ds gs before I hW hcnd _ hL _;have u:∀(j:Nat) t v,Tryz.f3.params[j]? =some t->args[j]? =some v->Value.okWide Tryz.prog W .any base t v:=I;have hW':=hW;obtain⟨p,q,hA0,hV,rfl,hfz,hnd⟩:=hW;have hA:DataW.TrodAll enc Tryz.prog W 0 (λ_=>true) true Tryz.f3.params.toList args.toList ds p:=hA0;rw[Tryz.params3] at hA u;obtain⟨v0,vs0,d0,ds0,p0,q0,hargs,rfl,rfl,h0,r0⟩:=trodAll_cons hA;obtain⟨v1,vs1,d1,ds1,p1,q1,rfl,rfl,rfl,h1,r1⟩:=trodAll_cons r0;obtain⟨v2,vs2,d2,ds2,p2,q2,rfl,rfl,rfl,h2,r2⟩:=trodAll_cons r1;obtain⟨rfl,rfl,rfl⟩:=trodAll_nil r2;obtain rfl:args= #[v0,v1,v2]:=by cases args;simp_all
 obtain⟨rfl,rfl⟩:=trodVars_none hV;have lt0:∀x∈p0,x.block<W.heap.size:=by obtain⟨m,hm⟩:=h0;exact DataW.trod_lt m _ _ _ hm
 have lt1:∀x∈p1,x.block<W.heap.size:=by obtain⟨m,hm⟩:=h1;exact DataW.trod_lt m _ _ _ hm
 have lt2:∀x∈p2,x.block<W.heap.size:=by obtain⟨m,hm⟩:=h2;exact DataW.trod_lt m _ _ _ hm
 obtain⟨x0,rfl,in0⟩:=jV.arg DZ (by kernel_rfl) (u 0 _ v0 rfl rfl) h0;obtain⟨x1,rfl,in1⟩:=jV.arg D5 (by kernel_rfl) (u 1 _ v1 rfl rfl) h1;obtain⟨x2,rfl,in2⟩:=jV.arg D6 (by kernel_rfl) (u 2 _ v2 rfl rfl) h2;clear hA0 I;refine(law x0 x1 x2 W in0 in1 in2 (Y_ hL)).mono λe W' ⟨he,bel0⟩=> ?_;subst he;have bel:=adM bel0;exact⟨_,rfl,_,_,_,[],_,[],hW',trodAll_mk1 (shut_bool (by kernel_rfl) _),(trodAll_cons_mk (Below.trod laidOut (by kernel_rfl) (of_decide_eq_true (by kernel_rfl)) h0 bel lt0) (trodAll_cons_mk (Below.trod laidOut (by kernel_rfl) (of_decide_eq_true (by kernel_rfl)) h1 bel lt1) (trodAll_cons_mk (Below.trod laidOut (by kernel_rfl) (of_decide_eq_true (by kernel_rfl)) h2 bel lt2) trodAll_mk0))),rfl,bel.frame _,λh=>by cases h⟩
theorem Wu (law:DY):Rows.aftrOwnRow.holds Tryz.pinned (OpenSpec.ofChange Rows.aftrOwnSpec):=
 OpenClaim.holds_of_wide 3 Tryz.f3 rfl rfl rfl rfl rfl rfl rfl ⟨rfl,rfl,rfl,rfl,rfl⟩ rfl rfl rfl rfl rfl (by kernel_rfl) Tryz.func3 Ϝ
  (of_decide_eq_true (by kernel_rfl)) (by unfold Func.isWrapper;first|(rw[if_pos (by decide +kernel)];kernel_rfl)|(rw[if_neg (by decide +kernel)];exact⟨rfl,rfl⟩))
  (λos started H enc _=>QM law os started H enc)
theorem Ws (law:DY):Rows.AftrOwnCardSaid:=
 Claim7.holds_tied_plain_at .later [] [.handle] true (true,"370e01e86575b0106598f73e3413e5757ac666d3b943668f89b65152b773df76") true (Wu law) (λ_ h=>by cases h) (by kernel_rfl) (λ_ h=>by cases h) aftrOwn_row_tie rfl ⟨rfl,rfl⟩ (by kernel_rfl) rfl
  (λf fn hf J=>by
   obtain rfl:f=3:=Option.some.inj ((show Tryz.prog.funcNamed "goosepond/goosepondlaw33.AftrOwn"=some 3 by kernel_rfl).symm.trans hf)|>.symm;obtain rfl:fn=Tryz.f3:=(Option.some.inj (Tryz.func3.symm.trans J)).symm;exact⟨by kernel_rfl,λj t ht=>by
    rw[Tryz.params3] at ht;have hm:t∈[22,22,23]:=by simpa using Array.mem_of_getElem? ht
    have I:([22,22,23].all λu=> !Tryz.prog.wantsStandIn u)=true:=by kernel_rfl
    exact(show Tryz.prog.wantsStandIn t=false by simpa using List.all_eq_true.1 I t hm)⟩)
  (aco rfl aev)
end Go.Proofs.YtdmbjlliegbpcaaGreatDoor
