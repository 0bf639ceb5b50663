import Derived.Test.YtdmbjlliegbpcaaGreatDoorW11
import Derived.WalkKit
import Derived.LaidEql
import Derived.Stop.Asserts
import Derived.RowKitTokens
open List (getElem?_eq_getElem length_append mem_cons mem_singleton not_mem_nil take_add_one)
open Int (toNat_natCast)
set_option maxRecDepth 100000
set_option maxHeartbeats 2000000
section
namespace Go.Proofs.AS
open Go.RowKit Go.Extern.Stop Go.Stop Go.Extern
theorem as_nil (t:Value) (w:θ):
  Calls Tryz.prog 137 #[.nilIface,t] w λe w'=>e= .returned (.bool false)/\w'=w:=by
 go_enter Tryz.func137,Tryz.ntmps137
 go_wp2
 go_ret
 exact⟨rfl,rfl⟩
theorem WC (t:Addr) (w:θ):(ReflectliteValue.unpack (.iface 273 (.pointer (some t)))).run υ w
  = .ok (.agg #[.pointer (some ⟨1,273,none⟩),.pointer (some ⟨w.heap.size,0,none⟩),.int .u64 150]) (w.alloc (.cells #[.pointer (some t)] 273)):=by kernel_rfl
theorem abX (a:Addr) (w:θ):(ReflectliteValue.methodAny (ReflectliteValue.valueError "reflectlite.Value.Type" 0) (λt _ _ _=>ReflectliteType.toType t) #[.agg #[.pointer (some ⟨1,273,none⟩),.pointer (some a),.int .u64 150]]).run υ w
  = .ok (.iface 460 (.agg #[.pointer (some ⟨1,273,none⟩)])) w:=by kernel_rfl
theorem Ul (h:Value) (w:θ):(Go.method 664 460 (.agg #[h]) "Kind").run υ w= .ok (380,h) w:=by kernel_rfl
theorem abW (w:θ):((ReflectliteType.abiMethod λt=>(λa:Nat=>Value.int IntKind.u8 (a:Int))<$>Rtype.kind t) #[.pointer (some ⟨1,273,none⟩)]).run υ w= .ok (.int .u8 22) w:=by kernel_rfl
theorem abV (w:θ):((ReflectliteType.abiMethod λt=>(λa:Nat=>Value.int IntKind.u8 (a:Int))<$>Rtype.kind t) #[.pointer (some ⟨1,271,none⟩)]).run υ w= .ok (.int .u8 2) w:=by kernel_rfl
theorem rlm (z:Sem Value) (f:TypeId->Addr->Nat->Nat->Sem Value) (v:Value):
  ReflectliteValue.method z f #[v]=(do match<- ReflectliteValue.parts v with|none=>z|some (t,a,fl)=>f t a fl (fl % 32)):=rfl
theorem QU (a:Addr) (w:θ):(ReflectliteValue.parts (.agg #[.pointer (some ⟨1,273,none⟩),.pointer (some a),.int .u64 150])).run υ w= .ok (some (273,a,150)) w:=by kernel_rfl
theorem Ϣ (a p:Addr) (W:θ) (ha:W.cell? a=some (.pointer (some p))):
  (ReflectliteValue.method (ReflectliteValue.valueError "reflectlite.Value.IsNil" 0) ReflectliteValue.isNil #[.agg #[.pointer (some ⟨1,273,none⟩),.pointer (some a),.int .u64 150]]).run υ W= .ok (.bool false) W:=by
 rw[rlm];simp only[Sem.run_bind,QU,Result.andThen];simp[ReflectliteValue.isNil,loadVar,isAgg,underlying,Tryz.underlying273,ha,Result.andThen]
theorem Uk (h:Value) (w:θ):(Go.method 664 460 (.agg #[h]) "Elem").run υ w= .ok (408,.agg #[h]) w:=by kernel_rfl
theorem IZ (h:Value) (w:θ):(Go.method 664 460 (.agg #[h]) "Implements").run υ w= .ok (409,.agg #[h]) w:=by kernel_rfl
theorem Fh (h:Value) (w:θ):(Go.method 664 460 (.agg #[h]) "AssignableTo").run υ w= .ok (406,.agg #[h]) w:=by kernel_rfl
theorem abU (w:θ):(ReflectliteType.method ReflectliteType.elem #[.agg #[.pointer (some ⟨1,273,none⟩)]]).run υ w= .ok (.iface 460 (.agg #[.pointer (some ⟨1,271,none⟩)])) w:=by kernel_rfl
theorem PY (w:θ):(ReflectliteType.relation "Implements" ReflectliteType.implements_ #[.agg #[.pointer (some ⟨1,271,none⟩)],.iface 460 (.agg #[.pointer (some ⟨1,267,none⟩)])]).run υ w= .ok (.bool true) w:=by kernel_rfl
theorem YH (v:Value) (w:θ):(ReflectliteType.typeOf #[.iface 271 v]).run υ w= .ok (.iface 460 (.agg #[.pointer (some ⟨1,271,none⟩)])) w:=by kernel_rfl
theorem PX (w:θ):(ReflectliteType.relation "AssignableTo" ReflectliteType.assignableTo #[.agg #[.pointer (some ⟨1,271,none⟩)],.iface 460 (.agg #[.pointer (some ⟨1,271,none⟩)])]).run υ w= .ok (.bool true) w:=by kernel_rfl
theorem WB (e:Int) (w:θ):(ReflectliteValue.unpack (.iface 271 (Β e))).run υ w
  = .ok (.agg #[.pointer (some ⟨1,271,none⟩),.pointer (some ⟨w.heap.size,0,none⟩),.int .u64 130]) (w.alloc (.cells #[Β e] 271)):=by kernel_rfl
theorem YF (w:θ):(Rtype.elem? 273).run υ w= .ok (some 271) w:=by kernel_rfl
theorem afC (p:Addr) (w:θ):(ReflectliteValue.mk 271 p ReflectliteValue.flagAddr).run υ w= .ok (.agg #[.pointer (some ⟨1,271,none⟩),.pointer (some p),.int .u64 386]) w:=by kernel_rfl
theorem ϡ (a p:Addr) (W:θ) (ha:W.cell? a=some (.pointer (some p))):
  (ReflectliteValue.method (ReflectliteValue.valueError "reflectlite.Value.Elem" 0) ReflectliteValue.elem #[.agg #[.pointer (some ⟨1,273,none⟩),.pointer (some a),.int .u64 150]]).run υ W
   = .ok (.agg #[.pointer (some ⟨1,271,none⟩),.pointer (some p),.int .u64 386]) W:=by
 rw[rlm];simp only[Sem.run_bind,QU,Result.andThen];simp[ReflectliteValue.elem,loadVar,isAgg,underlying,Tryz.underlying273,ha,Result.andThen,YF,afC]
theorem rls (v x:Value):ReflectliteValue.set #[v,x]=(do
  let (some (dst,a,fl),some (src,b,_)):=(<- ReflectliteValue.parts v,<- ReflectliteValue.parts x)
   |unsupported (.noEntry "extern/(internal/reflectlite.Value).Set.zeroValue")
  if fl / ReflectliteValue.flagAddr % 2==0 then unsupported (.noEntry "extern/(internal/reflectlite.Value).Set.unaddressable")
  let val<- loadVar src b
  if<- Rtype.directlyAssignable dst src then storeVar dst a val
  else if<- Rtype.implements dst src then
   if (<- Rtype.kind src)==20 then
    match val with
    | .nilIface=>unsupported (.noEntry "extern/reflectlite: a nil value of one interface type handed on as a value of another")
    |_=>storeVar dst a val
   else storeVar dst a (.iface src val)
  else panicString ("reflectlite.Set: value of type "++(<- Rtype.spelt src)++" is not assignable to type "++(<- Rtype.spelt dst))
  pure (.tuple #[])):=rfl
theorem YG (a:Addr) (w:θ):(ReflectliteValue.parts (.agg #[.pointer (some ⟨1,271,none⟩),.pointer (some a),.int .u64 386])).run υ w= .ok (some (271,a,386)) w:=by kernel_rfl
theorem ϣ (a:Addr) (w:θ):(ReflectliteValue.parts (.agg #[.pointer (some ⟨1,271,none⟩),.pointer (some a),.int .u64 130])).run υ w= .ok (some (271,a,130)) w:=by kernel_rfl
theorem YE (w:θ):(Rtype.directlyAssignable 271 271).run υ w= .ok true w:=by kernel_rfl
theorem adH (ta b:Addr) (e:Int) (old:Value) (W:θ) (hb:W.cell? b=some (Β e)) (ht:W.cell? ta=some old) (hf:W.frozen? ta=false):
  (ReflectliteValue.set #[.agg #[.pointer (some ⟨1,271,none⟩),.pointer (some ta),.int .u64 386],.agg #[.pointer (some ⟨1,271,none⟩),.pointer (some b),.int .u64 130]]).run υ W
   = .ok (.tuple #[]) (W.setCell ta (Β e)):=by
 rw[rls];simp only[Sem.run_bind,YG,ϣ,Result.andThen];simp[ReflectliteValue.flagAddr,loadVar,isAgg,underlying,Tryz.underlying271,hb,Result.andThen,YE,storeVar,Value.cells,storeCells,Addr.add];rw[run_store υ W ta _ _ (by rfl)];simp[ht,hf]
set_option maxHeartbeats 4000000 in
theorem as_hit (e:Int) (t:Addr) (old:Value) (w:θ) (hg:w.cell? ⟨0,0,none⟩=some (.iface 460 (.agg #[.pointer (some ⟨1,267,none⟩)]))) (ht0:w.cell? t=some old) (hf0:w.frozen? t=false):
  Calls Tryz.prog 137 #[.iface 271 (.int .i64 e),.iface 273 (.pointer (some t))] w λev w'=>ev= .returned (.bool true)/\w'=((((w.alloc (.cells #[.pointer (some t)] 273)).alloc (.cells #[.pointer (some ⟨1,273,none⟩),.pointer (some ⟨w.heap.size,0,none⟩),.int .u64 150] 386)).alloc (.cells #[.pointer (some ⟨1,273,none⟩),.pointer (some ⟨w.heap.size,0,none⟩),.int .u64 150] 386)).alloc (.cells #[.int .i64 e] 271)).setCell t (.int .i64 e):=by
 have h6:= @run_callFunc_extern Tryz.prog 234 _ (λargs=>ReflectliteValue.unpack (args.getD 0 (.tuple #[]))) Tryz.func234 (by kernel_rfl) (by kernel_rfl) (by kernel_rfl) (by kernel_rfl);have h7:= @run_callFunc_extern Tryz.prog 235 _ (ReflectliteValue.methodAny (ReflectliteValue.valueError "reflectlite.Value.Type" 0) (λt _ _ _=>ReflectliteType.toType t)) Tryz.func235 (by kernel_rfl) (by kernel_rfl) (by kernel_rfl) (by kernel_rfl);have h8:= @run_callFunc_extern Tryz.prog 236 _ (ReflectliteValue.method (ReflectliteValue.valueError "reflectlite.Value.IsNil" 0) ReflectliteValue.isNil) Tryz.func236 (by kernel_rfl) (by kernel_rfl) (by kernel_rfl) (by kernel_rfl);have h27:= @run_callFunc_extern Tryz.prog 380 _ (ReflectliteType.abiMethod λt=>do pure (.int .u8 (<- Rtype.kind t))) Tryz.func380 (by kernel_rfl) (by kernel_rfl) (by kernel_rfl) (by kernel_rfl)
 have h37:= @run_callFunc_extern Tryz.prog 408 _ (ReflectliteType.method ReflectliteType.elem) Tryz.func408 (by kernel_rfl) (by kernel_rfl) (by kernel_rfl) (by kernel_rfl);have h38:= @run_callFunc_extern Tryz.prog 409 _ (ReflectliteType.relation "Implements" ReflectliteType.implements_) Tryz.func409 (by kernel_rfl) (by kernel_rfl) (by kernel_rfl) (by kernel_rfl);have h10:= @run_callFunc_extern Tryz.prog 299 _ ReflectliteType.typeOf Tryz.func299 (by kernel_rfl) (by kernel_rfl) (by kernel_rfl) (by kernel_rfl);have h35:= @run_callFunc_extern Tryz.prog 406 _ (ReflectliteType.relation "AssignableTo" ReflectliteType.assignableTo) Tryz.func406 (by kernel_rfl) (by kernel_rfl) (by kernel_rfl) (by kernel_rfl);have h11:= @run_callFunc_extern Tryz.prog 300 _ (ReflectliteValue.method (ReflectliteValue.valueError "reflectlite.Value.Elem" 0) ReflectliteValue.elem) Tryz.func300 (by kernel_rfl) (by kernel_rfl) (by kernel_rfl) (by kernel_rfl);have h12:= @run_callFunc_extern Tryz.prog 301 _ ReflectliteValue.set Tryz.func301 (by kernel_rfl) (by kernel_rfl) (by kernel_rfl) (by kernel_rfl);have tO:=YH;have mA:=Fh;have a25:=PX;have v25:=WB;have f6:=WC;have f7:=abX;have mK:=Ul;have mE:=Uk;have mI:=IZ;have k27:=abW;have k25:=abV;have e27:=abU;have i25:=PY;have n8:=Ϣ ⟨w.heap.size,0,none⟩ t ((w.alloc (.cells #[.pointer (some t)] 273)).alloc (.cells #[.pointer (some ⟨1,273,none⟩),.pointer (some ⟨w.heap.size,0,none⟩),.int .u64 150] 386)) (by simp);have I:0<w.heap.size:=by
  rcases Nat.eq_zero_or_pos w.heap.size with h0|h
  ·simp[World.cell?,h0] at hg
  ·exact h
 have hg2:((w.alloc (.cells #[.pointer (some t)] 273)).alloc (.cells #[.pointer (some ⟨1,273,none⟩),.pointer (some ⟨w.heap.size,0,none⟩),.int .u64 150] 386)).cell? ⟨0,0,none⟩=some (.iface 460 (.agg #[.pointer (some ⟨1,267,none⟩)])):=by
  rw[World.cell?_alloc_lt _ _ ⟨0,0,none⟩ (by simp),World.cell?_alloc_lt _ _ ⟨0,0,none⟩ I];exact hg
 have u:t.block<w.heap.size:=by
  rcases Nat.lt_or_ge t.block w.heap.size with h|h
  ·exact h
  ·simp[World.cell?,Array.getElem?_eq_none h] at ht0
 have el:=ϡ ⟨w.heap.size,0,none⟩ t (((w.alloc (.cells #[.pointer (some t)] 273)).alloc (.cells #[.pointer (some ⟨1,273,none⟩),.pointer (some ⟨w.heap.size,0,none⟩),.int .u64 150] 386)).alloc (.cells #[.pointer (some ⟨1,273,none⟩),.pointer (some ⟨w.heap.size,0,none⟩),.int .u64 150] 386)) (by rw[World.cell?_alloc_lt _ _ ⟨w.heap.size,0,none⟩ (by simp;omega)];simp);have st:=adH t ⟨w.heap.size+1+1+1,0,none⟩ e old ((((w.alloc (.cells #[.pointer (some t)] 273)).alloc (.cells #[.pointer (some ⟨1,273,none⟩),.pointer (some ⟨w.heap.size,0,none⟩),.int .u64 150] 386)).alloc (.cells #[.pointer (some ⟨1,273,none⟩),.pointer (some ⟨w.heap.size,0,none⟩),.int .u64 150] 386)).alloc (.cells #[.int .i64 e] 271))
  (by rw[World.cell?_alloc_at _ _ _ _ (by simp)];rfl)
  (by rw[World.cell?_alloc_lt _ _ t (by simp;omega),World.cell?_alloc_lt _ _ t (by simp;omega),World.cell?_alloc_lt _ _ t (by simp;omega),World.cell?_alloc_lt _ _ t u];exact ht0)
  (by rw[World.frozen?_alloc_old _ _ t (by simp;omega),World.frozen?_alloc_old _ _ t (by simp;omega),World.frozen?_alloc_old _ _ t (by simp;omega),World.frozen?_alloc_old _ _ t (Nat.ne_of_lt u)];exact hf0)
 go_enter Tryz.func137,Tryz.ntmps137
 go_wp2
 refine wp_loop_rounds 1 ?_;rw[rounds_succ]
 go_wp2
 go_ret
 exact⟨rfl,rfl⟩
end Go.Proofs.AS
end
section
namespace Go.Proofs.EN
open Gp Go.Proofs Go.Proofs.AN
def Hdl (w:θ):Prop:=w.cell? ⟨0,0,none⟩=some (.iface 460 (.agg #[.pointer (some ⟨1,267,none⟩)]))
theorem Hdl.ext {w w':θ} (h:Hdl w) (hf:Ext w w'):Hdl w':=mJ h hf
theorem adJ (v:Value) (w:θ):FZ .nilIface v w λr w'=>r=false/\w'=w:=by
 refine Calls.mono (AS.as_nil v w) ?_;rintro e w' ⟨rfl,rfl⟩;exact⟨false,rfl,rfl,rfl⟩
theorem adI {w:θ} {t:Nat} {o d:Int} (hg:Hdl w) (hr:Row w t [Β o]):FZ (.iface 271 (Β d)) (.iface 273 (.pointer (some ⟨t,0,none⟩))) w λr w'=>r=true/\gW w w' (·=t)/\Row w' t [Β d]:=by
 have hc:w.cell? ⟨t,0,none⟩=some (Β o):=by rw[hr.cell];rfl
 refine Calls.mono (AS.as_hit d ⟨t,0,none⟩ _ w hg hc (hr.frozen 0)) ?_;rintro e w' ⟨rfl,hw⟩;refine⟨true,rfl,rfl,?_⟩;generalize hW:(((w.alloc (.cells #[.pointer (some ⟨t,0,none⟩)] 273)).alloc (.cells #[.pointer (some ⟨1,273,none⟩),.pointer (some ⟨w.heap.size,0,none⟩),.int .u64 150] 386)).alloc (.cells #[.pointer (some ⟨1,273,none⟩),.pointer (some ⟨w.heap.size,0,none⟩),.int .u64 150] 386)).alloc (.cells #[Β d] 271)=W at hw;have hx:gW w W (·=t):=by
  rw[<- hW];exact(((gW.alloc w _ _).trans (gW.alloc _ _ _) λ_ _ h=>h).trans (gW.alloc _ _ _) λ_ _ h=>h).trans (gW.alloc _ _ _) λ_ _ h=>h
 have hx0:gW w W (λ_=>False):=by
  rw[<- hW];exact(((gW.alloc w _ _).trans (gW.alloc _ _ _) λ_ _ h=>h).trans (gW.alloc _ _ _) λ_ _ h=>h).trans (gW.alloc _ _ _) λ_ _ h=>h
 have u:=hr.fr hx0 (by simp);rw[hw];exact⟨hx.trans (gW.set W ⟨t,0,none⟩ _ rfl) λ_ _ h=>h.symm,u.set 0 (Β d)⟩
end Go.Proofs.EN
end
section
namespace Go.Proofs.AN
open Gp Gp.V4 Go.Proofs Go.Proofs.VN
open Gp.Bind (In64)
section
variable {w0 w w':θ}
theorem YP {w:θ} {a:fO} {n m:Nat} {vs:List Value} (h:mF w a n vs) (hm:m<=n):mF w a m (vs.take m):=by
 cases a with
 |none=>
  have h:vs=[]:=h;subst h;show List.take m []=[];simp
 |some a=>
  obtain⟨h1,h2⟩:=h;refine⟨by simp;omega,λj hj=> ?_⟩;have hj':j<vs.length:=by simp at hj;omega
  have:=h2 j hj';rw[this];rw[List.getElem?_take];have:j<m:=by simp at hj;omega
  rw[if_pos this]
theorem aa2 {s src:fU} {L:List UInt8} (hs:Buf w s (bytesV L)) {at_:Int} (h0:0<=at_) (h1:at_<L.length) {Q:fU->Prop}
  (hQ:∀s',(∀(W:θ) (m:List UInt8) (K:Int->b_),Buf W s (bytesV L)->iq W src m->(∀n W' L',L'.length=L.length->Buf W' s (bytesV L')->gW W W' (fU.at s)->K n W')->wL 1 s' src W K)->Q s'):kT s 1 at_ (s.len:Int) Q:=by
 obtain⟨hl,⟨ha,hb,_⟩|⟨b,pad,ha,hc,hr⟩⟩:=hs
 ·have:L.length=0:=by have:=congrArg List.length hb;simpa [bytesV] using this
  omega
 have O:(bytesV L).length=L.length:=iU L;refine⟨h0,by omega,by omega,hQ _ ?_⟩;intro W m K hs hm hK;have J:qm s.a s.cap at_.toNat 1=some ⟨b,at_.toNat,none⟩:=by
  unfold qm;rw[if_neg (by omega),ha];show some ((⟨b,0,none⟩:Addr).add (at_.toNat * 1))=_;rw[gy];simp
 rw[J];obtain⟨hl2,⟨ha2,_,_⟩|⟨b2,pad2,ha2,hc2,hr2⟩⟩:=hs
 ·rw[ha2] at ha;cases ha
 have Y:b2=b:=by rw[ha2] at ha;cases ha;rfl
 subst Y;have u:Nat.min src.len ((s.len:Int).toNat - at_.toNat)<=src.len:=Nat.min_le_left _ _;have I:Nat.min src.len ((s.len:Int).toNat - at_.toNat)<=(s.len:Int).toNat - at_.toNat:=Nat.min_le_right _ _;generalize hq:Nat.min src.len ((s.len:Int).toNat - at_.toNat)=q at u I;have R:=YP hm.2.1 u;have Z:(bytesV m).take q=bytesV (m.take q):=by simp[bytesV]
 rw[Z] at R;have U:(bytesV (m.take q)).length=q:=by
  have:=hm.1;simp[bytesV];omega
 refine uq (n:=1) (vs:=bytesV (m.take q)) (L:=bytesV L++pad2) hq (by rw[Nat.mul_one];exact R) hr2 (by rw[U,length_append];omega) (D9 _) λW' r f=> ?_;have hz:=r.lt;have N:spl (bytesV L++pad2) at_.toNat (bytesV (m.take q))=bytesV (L.take at_.toNat++m.take q++L.drop (at_.toNat+q))++pad2:=by
  unfold spl;rw[U,List.take_append_of_le_length (by omega),List.drop_append_of_le_length (by omega)];simp[bytesV,List.append_assoc]
 rw[N] at r;have hL':(L.take at_.toNat++m.take q++L.drop (at_.toNat+q)).length=L.length:=by
  have:=hm.1;simp;omega
 refine hK _ W' _ hL' ⟨by rw[iU,hL',hl2,O],.inr ⟨b2,pad2,ha2,by rw[iU,hL',hc2,O],r⟩⟩ (f.mono λy hy=>⟨0,by rw[ha2,hy]⟩)
theorem ab3 (n:Int) {so sn:fU} {lo ln:List UInt8} (ho:iq w so lo) (hn:iq w sn ln) (h1:lo.length<=100) (h2:ln.length<=100):Ez n so sn w λr w'=>lD r/\Ext w w':=by
 apply Ve;intro J;have u:J true:=by
  simp only[J,cond_true];exact⟨by decide,Ext.refl _⟩
 have O:0<=n/\n<=65535->J false:=by
  intro hn16;simp only[J,cond_false];refine gq λa w1 r1 e1 z1 f1=> ?_;have hp:=zF r1 (hn.ext f1);refine cmS1 (Υ hp (by simp) (by intro q hq;simp only[mem_singleton] at hq;subst hq;simp only;omega)) ?_;rintro tt w2 ⟨rfl,f2⟩;rw[Ig];have htl:=Ua ln;refine gq λf w3 r3 e3 z3 f3=> ?_;have x3:=(f1.trans f2).trans f3;refine g_ (i:=0) r3 rfl (by simp) λw4 r4 f4' z4=> ?_;simp only[List.set_cons_zero] at r4;have f4:gW w3 w4 (·=f):=f4' _ rfl;have sz:=(f1.trans f2).size;have x4:Ext w w4:=x3.nw f4;apply G6;refine⟨rfl,gq λk w5 r5 e5 z5 f5=> ?_⟩;have hs5:=ho.ext (x4.trans f5);have I:=r4.ext f5;have hfz:f<w4.heap.size:=r4.lt;have hwz:w.heap.size<=f:=by omega
  have R:∀ad,so.a=some ad->0<lo.length->ad.block<w.heap.size:=λad h h'=>ho.lt h h';rw[Α (n:=65535 - n) (by omega) (by omega),Α] at I;have hwl:(wB lo).length<=51:=by rw[O_];omega
  have lq:lC none w5=w5.heap.size+1:=rfl;refine wz (LC (s:=so) (f0:=k) (l:=lo) (by omega)) (λi W=>(∃v:Nat,v<=65535+65535 * 100+i * 65535/\Row W f [Β (v:Int)])/\gW w5 W (·=f)) (λ_ _=>False) (by simp) ?_ ?_ ?_ (by intro e W W' h;exact h.elim) (by intro e W h;exact h.elim) ?_ ?_ (by intro W h;exact h.elim) (by intro id W h;exact h.elim)
  ·intro W hW _;refine⟨⟨(65535 - n+(tot ln:Int)).toNat,by omega,?_⟩,hW _⟩;have:(((65535 - n+(tot ln:Int)).toNat:Nat):Int)=65535 - n+(tot ln:Int):=by omega
   rw[this];exact I.ext hW
  ·rintro i W ⟨_,hf⟩;exact⟨r5.fr hf (by omega),hs5.fr hf λad ha h0 e=>by have:=R ad ha h0;omega⟩
  ·rintro i W W' ⟨⟨v,hv,hr⟩,hf⟩ hf';rw[lq] at hf';exact⟨⟨v,hv,hr.fr hf' (by omega)⟩,hf.trans hf' λy hy e=>by omega⟩
  ·rintro i x W Kb hx ⟨⟨v,hv,hr⟩,hf⟩ U hk _;have hi:i<(wB lo).length:=(List.getElem?_eq_some_iff.1 hx).1;have hi2:2 * i<lo.length:=by rw[O_] at hi;omega
   rw[Yn lo hi2] at hx
   cases hx
   have hwa:=DW lo (2 * i);have fb:=gW.gG W (lC none w5);rw[lq] at fb U hk ⊢;have N:=hr.fr fb (by omega);refine⟨by trivial,Ld_i 0 (v:Int) N ?_⟩;refine g_ (i:=0) N rfl (by simp) λW2 r2 f2' z2=> ?_;simp only[List.set_cons_zero] at r2;have g2:gW (gG W (w5.heap.size+1)) W2 (·=f):=f2' _ rfl;refine hk W2 (·=f) g2 (λy e=>by omega) ⟨⟨v+(65535 - wordAt lo (2 * i)),by omega,?_⟩,(hf.trans fb λy hy e=>by omega).trans g2 λy _ e=>e⟩;have he:ο.wrap ((v:Int)+ο.wrap (65535 - ((wordAt lo (2 * i):Nat):Int)))=((v+(65535 - wordAt lo (2 * i)):Nat):Int):=by
    rw[Α (n:=65535 - ((wordAt lo (2 * i):Nat):Int)) (by omega) (by omega),Α];omega
   rw[<- he];exact r2
  ·rintro W ⟨⟨v,hv,hr⟩,hf⟩ hm;have Y:=hm rfl;refine Ld_i 0 (v:Int) hr ?_;refine cmS1 (abb (by omega) W) ?_;rintro r W2 ⟨rfl,hw⟩;subst hw;refine⟨Y,?_⟩;have hfl:=MG v;rw[Α];refine⟨by omega,?_⟩;have xW:Ext w W2:=(x4.trans f5).new hf λy hy e=>by omega
   have:=(x4.trans f5).size;exact xW.new (gW.qV W2 w5.heap.size (.deferred none)) λy hy e=>by omega
 clear_value J;by_cases c1:n<0
 ·rw[decide_eq_true c1,cond_true];exact u
 rw[decide_eq_false c1,cond_false];by_cases c2:n>65535
 ·rw[decide_eq_true c2];exact u
 ·rw[decide_eq_false c2];exact O ⟨by omega,by omega⟩
theorem ae6 (n:Int) (k:Nat) (h:k<=4):(jv [] n (k:Int)).length<=4:=by have:=xK [] n k;simp at this;omega
theorem Q8 {s:fU} {l:List UInt8} (hs:iq w s l) (hl:l.length<=2^40) (at_ n:Int) (k:Nat) (hk:k<=4) (h0:0<=at_) (h1:at_+k<=l.length):
  um s at_ n (k:Int) w λy0 y1 y2 w'=>(y0=at_/\(∃m,iq w' y1 m/\m.length<=4)/\∃m,iq w' y2 m/\m.length<=4)/\Ext w w':=by
 apply OT;refine gq λa w1 r1 e1 z1 f1=> ?_;rw[Α];refine kN (hs.ext f1) h0 (by omega) (by omega) λs' hs' _=> ?_;have u:((l.take (at_+(k:Int)).toNat).drop at_.toNat).length<=4:=by simp;omega
 generalize (l.take (at_+(k:Int)).toNat).drop at_.toNat=q at hs' u;refine cmS2 (kC hs' (by omega)) ?_;rintro r w2 ⟨b2,_,f2,n2⟩;refine cmS2 (uO iq.nil (by simp) n k) ?_;rintro r3 w3 ⟨b3,f3,n3⟩;have I:=ae6 n k hk;have x3:=(f1.trans f2).trans f3;have z2:=f2.size;have z3:=f3.size;refine StN_f ((r1.ext f2).ext f3) λw4 r4 f4 z4=> ?_;have x4:Ext w w4:=x3.nw f4;have n2':∀b,fU.at r b->¬b=a:=λb hb e=>by have:=n2 b hb;omega
 have n3':∀b,fU.at r3 b->¬b=a:=λb hb e=>by have:=n3 b hb;omega
 have B2:=(b2.fr (f3 λ_=>False) (by simp)).fr f4 n2';have B3:=b3.fr f4 n3';refine Ld_i 0 at_ r4 (Ld_s 1 r r4 (Ld_s 2 r3 r4 ?_));exact⟨⟨rfl,⟨q,iq.iD B2,u⟩,_,iq.iD B3,I⟩,x4⟩
end
end Go.Proofs.AN
end
section
namespace Go.Proofs.AN
open Gp Gp.V4 Go.Proofs Go.Proofs.VN
open Gp.Bind (In64)
section
variable {w0 w w':θ}
abbrev Ch:=Int×fU×fU
def chV (c:Ch):List Value:=[Β c.1,.slice c.2.1.a c.2.1.len c.2.1.cap,.slice c.2.2.a c.2.2.len c.2.2.cap]
theorem aa0 (c:Ch):(chV c).length=3:=rfl
structure abJ (w:θ) (n:Nat) (c:Ch):Prop where
 at0:0<=c.1
 at1:c.1<n
 old:∃m,iq w c.2.1 m/\m.length<=4
 now:∃m,iq w c.2.2 m/\m.length<=4
theorem abJ.ext {n:Nat} {c:Ch} (h:abJ w n c) (hf:Ext w w'):abJ w' n c:=by
 obtain⟨h1,h2,⟨m,h3,h4⟩,k,h5,h6⟩:=h;exact⟨h1,h2,⟨m,h3.ext hf,h4⟩,k,h5.ext hf,h6⟩
theorem Yo {s a2:fU} {l:List UInt8} (hs:iq w s l) (hl:l.length<=2^40) (place:Int) (hp0:0<=place) (hp1:place+2<=l.length) {cs:List Ch} (aa:mQ 3 chV w a2 cs) (hn:cs.length<=4) (hc:∀c∈cs,abJ w l.length c):
  vS s place a2 w λr w'=>(∃L:List UInt8,Buf w' r (bytesV L)/\L.length=l.length)/\Ext w w'/\∀b,fU.at r b->w.heap.size<=b:=by
 apply U5;have I:a2.len=cs.length:=aa.len;refine cmS2 (kC hs (by omega)) ?_;rintro r w1 ⟨b1,_,f1,n1⟩;have hrl:r.len=l.length:=by rw[b1.1,iU]
 have O:∀b,fU.at r b->b<w1.heap.size:=λb hb=>b1.lt hb;refine gX (λst W=>∃(i:Nat) (L o n:List UInt8),i<=cs.length/\st.2.2.1=(i:Int)/\L.length=l.length/\Buf W r (bytesV L)/\Buf W st.1 (bytesV o)/\Buf W st.2.1 (bytesV n)/\o.length<=4 * i/\n.length<=4 * i/\Ext w W/\w1.heap.size<=W.heap.size/\
   (∀b,fU.at st.1 b->w1.heap.size<=b)/\∀b,fU.at st.2.1 b->w1.heap.size<=b/\¬fU.at st.1 b)
  (λst _=>((cs.length:Int) - st.2.2.1).toNat) ?_ ?_
 ·refine⟨0,l,[],[],by omega,rfl,rfl,b1,Buf.nil,Buf.nil,by simp,by simp,f1,Nat.le_refl _,?_,?_⟩
  ·rintro b ⟨o,h⟩;cases h
  ·rintro b ⟨o,h⟩;cases h
 rintro⟨old,now,ii,⟨⟩⟩ W ⟨i,L,o,n,hi,ac,hL,bL,bo,bn,lo,ln,hx,hz,no,nn⟩ next J
 simp only at ac bo bn no nn;subst ac;rw[I];by_cases af:i<cs.length
 ·have u:((i:Int)<(cs.length:Int)):=by omega
  rw[decide_eq_true u,cond_true];have N:=getElem?_eq_getElem af;have R:cs[i]∈cs:=List.getElem_mem af;obtain⟨q0,q1,⟨m1,hm1,lm1⟩,m2,hm2,lm2⟩:=hc _ R;generalize cs[i]=cc at N hm1 hm2 q0 q1;obtain⟨at_,so,sn⟩:=cc;refine SN.SlN_ix (i:=(i:Int)) aa0 (by omega) (aa.ext hx) (by omega) (by rw[toNat_natCast];exact N) λa9 h9=> ?_;refine iH (k:= .int .i64) (y:=at_) (h9 0 _ rfl) (iH (k:= .slice) (y:=so) (h9 1 _ rfl) (iH (k:= .slice) (y:=sn) (h9 2 _ rfl) ?_));refine gq λU w2 r2 e2 z2 f2=> ?_;refine StN_f r2 λw3 r3 f3 z3=> ?_;have ai:Ext W w3:=f2.nw f3;have x3d:=ai.trans (Ext.drew w3);have r3d:=r3.drew;refine Ld_i 0 at_ r3d ?_;have bL3:Buf w3.drew r (bytesV L):=bL.fr (x3d λ_=>False) (by simp);have bo3:Buf w3.drew old (bytesV o):=bo.fr (x3d λ_=>False) (by simp);have bn3:Buf w3.drew now (bytesV n):=bn.fr (x3d λ_=>False) (by simp);have ha14:W.heap.size<=U:=by omega
  have ltW:∀b,fU.at r b->b<w1.heap.size:=O;refine aa2 (src:=sn) bL3 q0 (by simp only at q1;omega) λs17 aj=> ?_;refine Ld_s 2 sn r3d ?_;refine aj w3.drew m2 _ bL3 (hm2.ext (hx.trans x3d)) λn19 w4 L' hL' bL4 f4=> ?_;have ak:∀b,fU.at r b->w.heap.size<=b:=n1;have x4:Ext w w4:=(hx.trans x3d).new f4 λy hy hb=>by have:=ak y hb;omega
  have r4:=(r3d.fr f4 (λhb=>by have:=ltW _ hb;omega)).drew;have bo4:=(bo3.fr f4 (λb hb hb'=>by have:=no b hb;have:=ltW b hb';omega)).fr (Ext.drew w4 λ_=>False) (by simp);have bn4:=(bn3.fr f4 (λb hb hb'=>by have:=(nn b hb).1;have:=ltW b hb';omega)).fr (Ext.drew w4 λ_=>False) (by simp);have bL4:=bL4.fr (Ext.drew w4 λ_=>False) (by simp);have x4d:=x4.trans (Ext.drew w4);refine Ld_s 1 so r4 (Ld_s 2 sn r4 ?_);have z3:=x3d.size;have z4:=f4.size;have z4d:w4.drew.heap.size=w4.heap.size:=rfl;have z1:=f1.size;have la:U<w3.drew.heap.size:=r3d.lt;refine jd bo4 (hm1.ext x4d) (by omega) λag w5 b5 f5 n5 _=> ?_;have x5:Ext w w5:=x4d.new f5 λy hy hb=>by have:=no y hb;omega
  have z5:=f5.size;have am:¬fU.at old U:=λhb=>by have:=bo.lt hb;omega
  refine⟨by rw[gy,(r4.fr f5 am).cell];rfl,?_⟩;have bn5:=bn4.fr f5 λb hb=>(nn b hb).2;refine jd bn5 (hm2.ext x5) (by omega) λan w6 b6 f6 n6 _=> ?_;have x6:Ext w w6:=x5.new f6 λy hy hb=>by have:=(nn y hb).1;omega
  have z6:=f6.size;have ah:∀b,fU.at ag b->¬fU.at now b:=by
   intro b hb hb';rcases n5 b hb with h|h
   ·exact(nn b hb').2 h
   ·have:=bn.lt hb';omega
  have bL6:Buf w6 r (bytesV L'):=(bL4.fr f5 λb hb hb'=>by have:=no b hb';have:=ltW b hb;omega).fr f6 λb hb hb'=>by have:=(nn b hb').1;have:=ltW b hb;omega
  have hw:ο.wrap ((i:Int)+1)=(i:Int)+1:=Α;show next (ag,an,ο.wrap ((i:Int)+1),()) w6
  rw[hw];refine J _ _ ⟨i+1,L',o++m1,n++m2,by omega,by push_cast;rfl,by omega,bL6,b5.fr f6 ah,b6,by rw[length_append];omega,by rw[length_append];omega,x6,by omega,λb hb=> ?_,λb hb=>⟨?_,λhb'=> ?_⟩⟩ (by simp only;omega)
  ·rcases n5 b hb with h|h
   ·exact no b h
   ·omega
  ·rcases n6 b hb with h|h
   ·exact(nn b h).1
   ·omega
  ·rcases n6 b hb with h|h
   ·exact ah b hb' h
   ·have:=b5.lt hb';omega
 ·have u:¬((i:Int)<(cs.length:Int)):=by omega
  rw[decide_eq_false u,cond_false];refine cmS9 (GK (hs.ext hx) (by omega) place 2) ?_;rintro g e w2 ⟨hw,_⟩;subst hw;refine cmS1 (ab3 g (iq.iD bo) (iq.iD bn) (by omega) (by omega)) ?_;rintro ch w3 ⟨hch,f3⟩;have bL3:=bL.fr (f3 λ_=>False) (by simp);refine cmS3 (O5 (iq.iD bL3) (by omega) place ch 2) ?_;rintro r2 e2 w4 ⟨Y,f4,Z⟩;have ao:=(Nz (l:=L) (by unfold iK mg;refine⟨by omega,by omega,?_⟩;have:(2:Int).toNat=2:=rfl;rw[this];omega) hp0 (by omega) Y).2;refine⟨⟨_,ao,?_⟩,(hx.trans f3).trans f4,λb hb=>by have:=Z b hb;have:=(hx.trans f3).size;omega⟩;have h2:(2:Int).toNat=2:=rfl;rw[h2];simp only[length_append,List.length_take,List.length_drop,iG];omega
end
end Go.Proofs.AN
end
section
namespace Go.Proofs.AN
open Gp Gp.V4 Go.Proofs Go.Proofs.VN
open Gp.Bind (In64)
section
variable {w0 w w':θ}
def evN (n:Int):Value:= Β n
theorem afk (s0:fU) (x0 x1 x2 x3 x4 x5 x6:Int) (x7 x8:Bool) (x9:fU) (N:Int) {d:fU} {m:List UInt8} (hd:iq w d m) (hm:m.length<=2^40):
  qN s0 x0 x1 x2 x3 x4 x5 x6 x7 x8 x9 d N w λr w'=>(r= -1\/(0<=r/\r+2<=m.length))/\Ext w w':=by
 apply FN;refine gq λa w1 r1 e1 z1 f1=> ?_;refine WN.Ij (enc:=WN.Uw) (ev:=evN) λw2 g2 z2 f2=> ?_;have O:a≠w1.heap.size:=by have:=r1.lt;omega
 refine xP (ev:=evN) g2 WN.eqW 17 6 (WN.aae _) λw3 g3 f3 z3=> ?_;refine xP (ev:=evN) g3 WN.eqW 6 16 (WN.aae _) λw4 g4 f4 z4=> ?_;refine xP (ev:=evN) g4 WN.eqW 1 2 (WN.aae _) λw5 g5 f5 z5=> ?_;have f35:gW w2 w5 (·=w1.heap.size):=(f3.trans f4 λ_ _ h=>h).trans f5 λ_ _ h=>h;have s1:=f1.size;have x5:Ext w w5:=(f1.trans f2).nw f35;have r5:=(r1.ext f2).fr f35 O;have hd5:=hd.ext x5;refine iH (k:= .int .i64) (y:=x4) (by rw[gy,gy,r5.cell];rfl) ?_;have key:∀(v:Int),(v=6\/v=16\/v=2\/v=0)->(let u:Bool->b_:=λR I=>(bif R then ((-1:Int)= -1\/(0<=(-1:Int)/\(-1:Int)+2<=(m.length:Int)))/\Ext w I else (v= -1\/(0<=v/\v+2<=(m.length:Int)))/\Ext w I)
   Ld .slice w5 (Addr.add (Addr.add ⟨a,0,none⟩ 1) 10) λU=>(bif (decide ((ο.wrap (v+2))>(U.len:Int))) then u true w5 else
    Ld ν w5 (Addr.add (Addr.add ⟨a,0,none⟩ 1) 4) λY=>(bif (Y==17) then
     rV w5 ⟨a,0,none⟩ λZ aa ac af ag ah ai aj ak am an ao aq=>jJ Z aa ac af ag ah ai aj ak am an ao aq v w5 λar au=>u (ar==0) au
    else u false w5))):=by
  intro v hv;intro J;refine iH (k:= .slice) (y:=d) (by rw[gy,gy,r5.cell];rfl) ?_;rw[Α];have hl:=hd.1;by_cases c1:v+2>(d.len:Int)
  ·rw[decide_eq_true c1,cond_true];exact⟨.inl rfl,x5⟩
  rw[decide_eq_false c1,cond_false];have hJ:∀q W,Ext w W->J q W:=by
   intro q W hx;simp only[J]
   cases q
   ·exact⟨.inr ⟨by omega,by omega⟩,hx⟩
   ·exact⟨.inl trivial,hx⟩
  clear_value J;refine iH (k:= .int .i64) (y:=x4) (by rw[gy,gy,r5.cell];rfl) ?_
  cases (x4==17)
  ·exact hJ _ _ x5
  ·rw[cond_true];refine OY r5 ?_;refine cmS1 (Nv _ _ _ _ _ _ _ _ _ _ _ _ hd5 hm v) ?_;rintro n w6 ⟨_,f6⟩;exact hJ _ _ (x5.trans f6)
 refine FW (k:= .int .i64) g5 WN.eqW x4 (WN.aae _) (λ_=>key 0 (by omega)) (λb hb=> ?_);have hb':b=6\/b=16\/b=2\/b=0:=by
  rw[Ar] at hb;split at hb
  ·cases hb;omega
  rw[Ar] at hb;split at hb
  ·cases hb;omega
  rw[Ar] at hb;split at hb
  ·cases hb;omega
  ·cases hb
 exact key b hb'
theorem chs {pc:Nat} {cs:List Ch} (hr:Row w pc (cs.flatMap chV)):mQ 3 chV w ⟨some ⟨pc,0,none⟩,cs.length,cs.length⟩ cs:=(iV.row (n:=3) (f:=chV) hr).sl aa0 (by omega)
theorem aa9 {s d:fU} {l m:List UInt8} (hs:iq w s l) (hl:l.length<=2^40) (hd:iq w d m) (x0 x1 x2 x3 x4 x5 x6:Int) (x7 x8:Bool) (x9:fU) {u:Int} (h20:20<=u) (hm8:8<=m.length) (hml:u+(m.length:Int)<=l.length)
  (aa pa an n:Int) (ha:aa=12\/aa=16) (hpa:pa=0\/pa=2):
  nU s x0 x1 x2 x3 x4 x5 x6 x7 x8 x9 d u aa pa an n w λr w'=>(∃L:List UInt8,iq w' r L/\L.length<=2^40)/\Ext w w':=by
 apply Ht;refine gq λa w1 r1 e1 z1 f1=> ?_;intro J;have hJ:∀q,q=0\/q=2\/q=4->J q:=by
  intro q hq;simp only[J];refine Ld_s 0 s r1 ?_;refine cmS22 (Q8 (hs.ext f1) hl aa an 4 (by omega) (by omega) (by omega)) ?_;rintro c0 c1 c2 w2 ⟨⟨hc0,⟨m1,hm1,lm1⟩,m2,hm2,lm2⟩,f2⟩;have hc0:=hc0.symm;subst hc0;refine gq λb w3 r3 e3 z3 f3=> ?_;refine StN_f r3 λw4 r4 f4 z4=> ?_;have U:Ext w2 w4:=f3.nw f4;have g4:=f2.trans U;have Y:=r1.ext g4;have x4':=f1.trans g4;refine Ld_s 0 s Y (Ld_i 12 u Y ?_);rw[Α (n:=u+q) (by omega) (by omega)];refine cmS22 (Q8 (hs.ext x4') hl (u+q) n 2 (by omega) (by omega) (by omega)) ?_;rintro d0 d1 d2 w5 ⟨⟨rfl,⟨m3,hm3,lm3⟩,m4,hm4,lm4⟩,f5⟩;refine gq λk w6 r6 e6 z6 f6=> ?_;refine StN_f r6 λw7 r7 f7 z7=> ?_;have N:Ext w5 w7:=f6.nw f7;have g7:=f5.trans N;have x7':=x4'.trans g7;have Z:=Y.ext g7;have O:=r4.ext g7;have C1:abJ w7 l.length (aa,c1,c2):=⟨by show 0<=aa;omega,by show aa<l.length;omega,⟨m1,(hm1.ext U).ext g7,lm1⟩,m2,(hm2.ext U).ext g7,lm2⟩;have C2:abJ w7 l.length (u+q,d1,d2):=⟨by show 0<=u+q;omega,by show u+q<l.length;omega,⟨m3,hm3.ext N,lm3⟩,m4,hm4.ext N,lm4⟩;refine Ld_s 0 s Z ?_;refine Ld_i 0 aa O (Ld_s 1 c1 O (Ld_s 2 c2 O ?_));refine gq λpc w8 r8 e8 z8 f8=> ?_;have x8':=x7'.trans f8;refine cmS2 (Yo (cs:=[(aa,c1,c2)]) (hs.ext x8') hl 10 (by omega) (by omega) (chs (cs:=[(aa,c1,c2)]) r8) (by simp) (by
   intro c hc;simp only[mem_singleton] at hc;subst hc;exact C1.ext f8)) ?_
  rintro o1 w9 ⟨⟨L1,B1,hL1⟩,f9,n9⟩;have ac:=f8.trans f9;have x9':=x7'.trans ac;have aq:=Z.ext ac;refine OY aq ?_;refine cmS1 (afk _ _ _ _ _ _ _ _ _ _ _ _ (hd.ext x9') (by omega)) ?_;rintro r R ⟨hr,f10⟩;have x710:=ac.trans f10;have I:=x7'.trans x710;have r110:=Z.ext x710;have r410:=O.ext x710;have r710:=r7.ext x710;have af:Buf R o1 (bytesV L1):=B1.fr (f10 λ_=>False) (by simp);rcases hr with rfl|⟨hr0,hr1⟩
  ·
   rw[show ((-1:Int)== -1)=true from rfl,cond_true];have ag:=Ext.drew R;refine Ld_i 0 (u+q) r710.drew ?_;have Bd:Buf R.drew o1 (bytesV L1):=af.fr (ag λ_=>False) (by simp);refine aa2 (src:=d2) Bd (by omega) (by omega) λs17 ar=> ?_;refine Ld_s 2 d2 r710.drew ?_;refine ar R.drew m4 _ Bd (((hm4.ext N).ext x710).ext ag) λnn ak L' hL' au f11=> ?_;have hn9:=x8'.size;exact⟨⟨L',iq.iD au,by omega⟩,(I.trans ag).new f11 λy hy hb=>by have:=n9 y hb;omega⟩
  have av:(r== -1)=false:=by rw[beq_eq_false_iff_ne];omega
  rw[av,cond_false];refine Ld_i 12 u r110 ?_;refine iH (k:= .int .i64) (y:=x4) (by rw[gy,gy,r110.cell];rfl) ?_;have aw:ο.wrap (r+u)=r+u:=Α;rw[aw];by_cases h1:(x4==1)=true
  ·rw[h1,cond_true];refine Ld_i 0 (u+q) r710 (Ld_s 1 d1 r710 (Ld_s 2 d2 r710 ?_));refine gq λpc2 ak ah ax ay f11=> ?_;refine cmS2 (Yo (cs:=[(u+q,d1,d2)]) ((iq.iD af).ext f11) (by omega) (r+u) (by omega) (by omega) (chs (cs:=[(u+q,d1,d2)]) ah) (by simp) (by
    intro c hc;simp only[mem_singleton] at hc;subst hc;rw[hL1];exact(C2.ext x710).ext f11)) ?_
   rintro o2 az ⟨⟨L2,B2,hL2⟩,f12,aA⟩;exact⟨⟨L2,iq.iD B2,by omega⟩,(I.trans f11).trans f12⟩
  ·have h1:(x4==1)=false:=by simpa using h1
   rw[h1,cond_false];refine Ld_i 0 aa r410 (Ld_s 1 c1 r410 (Ld_s 2 c2 r410 ?_));refine Ld_i 0 (u+q) r710 (Ld_s 1 d1 r710 (Ld_s 2 d2 r710 ?_));refine gq λpc2 ak ah ax ay f11=> ?_;refine cmS2 (Yo (cs:=[(aa,c1,c2),(u+q,d1,d2)]) ((iq.iD af).ext f11) (by omega) (r+u) (by omega) (by omega) (chs (cs:=[(aa,c1,c2),(u+q,d1,d2)]) ah) (by simp) (by
    intro c hc;rw[hL1];simp only[mem_cons,not_mem_nil,or_false] at hc;rcases hc with rfl|rfl
    ·exact(C1.ext x710).ext f11
    ·exact(C2.ext x710).ext f11)) ?_
   rintro o2 az ⟨⟨L2,B2,hL2⟩,f12,aA⟩;have am:=(I.trans f11).trans f12;have r112:=(r110.ext f11).ext f12;refine cmS9 (GK (iq.iD B2) (by omega) (r+u) 2) ?_;rintro g e ai ⟨hw,_⟩;subst hw;have hf:(∃L:List UInt8,iq ai o2 L/\L.length<=2^40)/\Ext w ai:=⟨⟨L2,iq.iD B2,by omega⟩,am⟩;have ht:vH o2 (r+u) 65535 2 ai λaB _ ao=>(∃L:List UInt8,iq ao aB L/\L.length<=2^40)/\Ext w ao:=by
    refine cmS3 (O5 (iq.iD B2) (by omega) (r+u) 65535 2) ?_;rintro o3 e3 w14 ⟨aj,f14,_⟩;have aC:=(Nz (l:=L2) (by unfold iK mg;refine⟨by omega,by omega,?_⟩;have:(2:Int).toNat=2:=rfl;rw[this];omega) (by omega) (by omega) aj).2;refine⟨⟨_,iq.iD aC,?_⟩,am.trans f14⟩;have h2:(2:Int).toNat=2:=rfl;rw[h2];simp only[length_append,List.length_take,List.length_drop,iG];omega
   cases (g==0)
   ·exact hf
   ·rw[cond_true];refine iH (k:= .int .i64) (y:=x4) (by rw[gy,gy,r112.cell];rfl) ?_
    cases (x4==17)
    ·exact hf
    ·exact ht
 clear_value J;refine iH (k:= .int .i64) (y:=x4) (by rw[gy,gy,r1.cell];rfl) ?_
 cases (x4==1)
 ·exact hJ _ (by omega)
 ·exact hJ _ (by omega)
end
end Go.Proofs.AN
end
section
namespace Go.Proofs.AN
open Gp Gp.V4 Go.Proofs Go.Proofs.VN
open Gp.Bind (In64)
section
variable {w0 w w':θ}
theorem abu {s:fU} {l:List UInt8} (hs:iq w s l) (hl:l.length<=2^40) (an n:Int) {K:fU->Int->Int->Int->Int->Int->Int->Int->Bool->Bool->fU->fU->Int->Int->b_}
  (hK:∀s0 t i o l' p s' d' df mf op da hd e w' (m:List UInt8),Ext w w'->iq w' da m->m.length<=2^40->(e=0->s0=s/\20<=hd/\hd+(m.length:Int)<=(l.length:Int)/\8<=m.length)->K s0 t i o l' p s' d' df mf op da hd e w'):Bh s an n w K:=by
 apply XK;refine gq λa w1 r1 e1 z1 f1=> ?_;refine OX (hs.ext f1) hl λt i o l' p s' d' df mf op da x y z e w2 f2 _ _ _ _ _=> ?_;refine gq λb w3 r3 e3 z3 f3=> ?_;refine gq λk w4 r4 e4 z4 f4=> ?_;refine StN_f (r3.ext f4) λw5 r5 f5 z5=> ?_;have z1f:=f1.size;have z2f:=f2.size;have z3f:=f3.size;refine StN_f (r4.fr f5 (by omega)) λw6 r6 f6 z6=> ?_;have x6:Ext w w6:=((((f1.trans f2).trans f3).trans f4).nw f5).nw f6;have u:Ext w1 w6:=((((f2).trans f3).trans f4).nw f5).nw f6;have zr:∀(W:θ) (e:Int),Ext w1 W->e≠0->iw (mP ⟨none,0,0⟩ 0 0 0 0 0 0 0 false false ⟨none,0,0⟩ ⟨none,0,0⟩ 0) W ⟨a,0,none⟩ 0 λI=>rV I ⟨a,0,none⟩ λy0 y1 y2 y3 y4 y5 y6 y7 y8 y9 U Y Z=>K y0 y1 y2 y3 y4 y5 y6 y7 y8 y9 U Y Z e I:=by
  intro W e hW he;refine StN_f (r1.ext hW) λw2 r2 f2 z2=> ?_;refine OY r2 ?_;exact hK _ _ _ _ _ _ _ _ _ _ _ _ _ e w2 [] ((f1.trans hW).nw f2) iq.nil (by simp) (λh=>absurd h he)
 by_cases he:e=0;rotate_left
 ·have:(e !=0)=true:=by rw[bne_iff_ne];exact he
  rw[this,cond_true];exact zr w6 e u he
 subst he;rw[show ((0:Int) !=0)=false from rfl,cond_false];have hT:∀W,Ext w1 W->iw (mP ⟨none,0,0⟩ 0 0 0 0 0 0 0 false false ⟨none,0,0⟩ ⟨none,0,0⟩ 0) W ⟨a,0,none⟩ 0 λJ=>rV J ⟨a,0,none⟩ λaa ac af ag ah ai aj ak am ao aq ar au=>K aa ac af ag ah ai aj ak am ao aq ar au 1 J:=λW hW=>zr W 1 hW (by omega);have hF:∀W,Ext w1 W->vP s W λav aw ax ay az aA aB aC aD aE aF aG aH aI aJ=>iw (mP av aw ax ay az aA aB aC aD aE aF aG aH) aJ ⟨a,0,none⟩ 0 λN=>rV N ⟨a,0,none⟩ λaK aL aM aN aO aP aQ aR aS aT aU aV aW=>K aK aL aM aN aO aP aQ aR aS aT aU aV aW aI N:=by
  intro W hW;refine ZV (hs.ext (f1.trans hW)) hl λt i o l' p s' d' df mf op da hd e w7 m f7 O hm hm8 _ _ _ s0 h0=> ?_;have R:=r1.ext (hW.trans f7);refine StN_f R λw8 r8 f8 z8=> ?_;refine OY r8 ?_;refine hK _ _ _ _ _ _ _ _ _ _ _ _ _ e w8 m (((f1.trans hW).trans f7).nw f8) (O.fr f8 λad ha h0 e=>jg R (by simp) O ha h0 e) hm λhe=> ?_;obtain⟨g1,g2,g3⟩:=h0 he;exact⟨g1,g2,g3,hm8 he⟩
 refine cmS0 (Ak an w6) ?_;rintro r w7 ⟨_,hw⟩;subst hw
 cases r
 ·exact hT w7 u
 rw[Bool.not_true,cond_false];refine cmS0 (mO n 2 w7) ?_;rintro r w8 ⟨_,hw⟩;subst hw
 cases r
 ·exact hT w8 u
 ·exact hF w8 u
theorem ah1 {s:fU} {l:List UInt8} (hs:iq w s l) (hl:l.length<=2^40) (an n:Int):Q5 s an n w λr _ w'=>(∃L:List UInt8,iq w' r L/\L.length<=2^40)/\Ext w w':=by
 apply Zx;refine abu hs hl an n λs0 t i o l' p s' d' df mf op da hd e w1 m f1 I hm h0=> ?_;refine gq λa w2 r2 e2 z2 f2=> ?_;refine StN_f r2 λw3 r3 f3 z3=> ?_;have u:Ext w1 w3:=f2.nw f3;by_cases he:e=0;rotate_left
 ·have:(e !=0)=true:=by rw[bne_iff_ne];exact he
  rw[this,cond_true];exact⟨⟨[],iq.nil,by simp⟩,f1.trans u⟩
 subst he;rw[show ((0:Int) !=0)=false from rfl,cond_false];obtain⟨rfl,J,N,hm8⟩:=h0 rfl;refine OY r3 ?_;have x3:=f1.trans u;refine cmS2 (aa9 (hs.ext x3) hl (I.ext u) _ _ _ _ _ _ _ _ _ _ J hm8 N 16 2 an n (by omega) (by omega)) ?_;rintro r w4 ⟨hr,f4⟩;exact⟨hr,x3.trans f4⟩
theorem ae8 {s:fU} {l:List UInt8} (hs:iq w s l) (hl:l.length<=2^40) (an n:Int):LP s an n w λr _ w'=>(∃L:List UInt8,iq w' r L/\L.length<=2^40)/\Ext w w':=by
 apply U3;refine abu hs hl an n λs0 t i o l' p s' d' df mf op da hd e w1 m f1 I hm h0=> ?_;refine gq λa w2 r2 e2 z2 f2=> ?_;refine StN_f r2 λw3 r3 f3 z3=> ?_;have u:Ext w1 w3:=f2.nw f3;by_cases he:e=0;rotate_left
 ·have:(e !=0)=true:=by rw[bne_iff_ne];exact he
  rw[this,cond_true];exact⟨⟨[],iq.nil,by simp⟩,f1.trans u⟩
 subst he;rw[show ((0:Int) !=0)=false from rfl,cond_false];obtain⟨rfl,J,N,hm8⟩:=h0 rfl;refine OY r3 ?_;have x3:=f1.trans u;refine cmS2 (aa9 (hs.ext x3) hl (I.ext u) _ _ _ _ _ _ _ _ _ _ J hm8 N 12 0 an n (by omega) (by omega)) ?_;rintro r w4 ⟨hr,f4⟩;exact⟨hr,x3.trans f4⟩
theorem aam (k c r:Int) {s:fU} {l:List UInt8} (hs:iq w s l) (hl:l.length<=2^40) (q:Bool) (an n:Int) {K:Int->Int->Int->fU->Int->b_}
  (hK:∀k c r s' e w' (L:List UInt8),Ext w w'->iq w' s' L->L.length<=2^40->K k c r s' e w'):yC k c r s q an n w K:=by
 apply OQ;refine gq λa w1 r1 e1 z1 f1=> ?_;refine gq λb w2 r2 e2 z2 f2=> ?_;have U:=r1.ext f2;have x2:=f1.trans f2;have za:=f1.size;have zb:=f2.size;have fin:∀(o:fU) (e:Int) (W:θ) (L:List UInt8),Ext w2 W->iq W o L->L.length<=2^40->
   (bif (e !=0) then iw abO W ⟨b,0,none⟩ 0 λu=>Ld ν u (Addr.add ⟨b,0,none⟩ 0) λac=>Ld ν u (Addr.add ⟨b,0,none⟩ 1) λaf=>Ld ν u (Addr.add ⟨b,0,none⟩ 2) λag=>Ld .slice u (Addr.add ⟨b,0,none⟩ 3) λah=>K ac af ag ah e u
    else St W (Addr.add ⟨a,0,none⟩ 3) (Δ o) λI=>Ld ν I (Addr.add ⟨a,0,none⟩ 0) λY=>Ld ν I (Addr.add ⟨a,0,none⟩ 1) λZ=>Ld ν I (Addr.add ⟨a,0,none⟩ 2) λaa=>Ld .slice I (Addr.add ⟨a,0,none⟩ 3) λO=>iw [Β Y,Β Z,Β aa,Δ O] I ⟨b,0,none⟩ 0 λN=>Ld ν N (Addr.add ⟨b,0,none⟩ 0) λai=>Ld ν N (Addr.add ⟨b,0,none⟩ 1) λaj=>Ld ν N (Addr.add ⟨b,0,none⟩ 2) λak=>Ld .slice N (Addr.add ⟨b,0,none⟩ 3) λam=>K ai aj ak am 0 N):=by
  intro o e W L hW ho hL
  cases (e !=0)
  rotate_left
  ·rw[cond_true];refine StN_f (r2.ext hW) λw3 r3 f3 z3=> ?_;refine V5 (x3:=⟨none,0,0⟩) (K:=λy0 y1 y2 y3 W=>K y0 y1 y2 y3 e W) r3 ?_;exact hK _ _ _ _ _ w3 [] ((x2.trans hW).nw f3) iq.nil (by simp)
  rw[cond_false];have r1W:=U.ext hW;refine g_ (i:=3) r1W rfl (by simp) λw3 r3 f3' z3=> ?_;have f3:gW W w3 (·=a):=f3' _ rfl;simp only[List.set_cons_succ,List.set_cons_zero] at r3;have ho3:=ho.fr f3 λad ha h0 e=>jg r1W (by simp) ho ha h0 e;refine V5 (K:=λY Z aa O W=>_) r3 ?_;have r2W:=(r2.ext hW).fr f3 (by omega);refine StN_f r2W λw4 r4 f4 z4=> ?_;refine V5 (K:=λy0 y1 y2 y3 W=>K y0 y1 y2 y3 0 W) r4 ?_;exact hK _ _ _ _ _ w4 L (((x2.trans hW).nw f3).nw f4) (ho3.fr f4 λad ha h0 e=>jg r2W (by simp) ho3 ha h0 e) hL
 intro J;have hJ:∀v,(∀Q:Value->b_,(∀(o:fU) (e:Int) W (L:List UInt8),Ext w2 W->iq W o L->L.length<=2^40->Q (.tuple ⟨[Δ o,Β e]⟩) W)->jy υ [.one .slice,.one ν] v [Δ s,Β an,Β n] w2 Q)->J v:=by
  intro v hv;simp only[J];refine Ld_s 3 s U ?_;refine hv _ λo e W L hW ho hL=> ?_;exact⟨o,e,rfl,fin o e W L hW ho hL⟩
 clear_value J;have hs2:=hs.ext x2
 cases q
 ·refine hJ _ λQ hQ=> ?_;refine CN.kV (by kernel_rfl) ?_;refine Calls.mono (ah1 hs2 hl an n) ?_;rintro e W' ⟨o,e',he,⟨L,hL,R⟩,hx⟩;exact⟨o,e',he,hQ o e' W' L hx hL R⟩
 ·refine hJ _ λQ hQ=> ?_;refine CN.kV (by kernel_rfl) ?_;refine Calls.mono (ae8 hs2 hl an n) ?_;rintro e W' ⟨o,e',he,⟨L,hL,R⟩,hx⟩;exact⟨o,e',he,hQ o e' W' L hx hL R⟩
end
end Go.Proofs.AN
end
section
namespace Go.Proofs.EN
open Gp Gp.V4 Go.Proofs Go.Proofs.AN Go.Proofs.VN
open Gp.Bind (Bnd Slots live GoodB freeN getS In64)
open Gp.Ses (Ses)
variable {w w':θ} {a:EA} {c:Cf} {e:ES}
abbrev KV:=Int->Int->Int->Int->Int->Int->Int->Bool->Bool->fU->fU->b_
theorem QB (p:jG) {o d:fU} (ho:iq w o p.opts) (h1:p.opts.length<=2^40) (k1 k2 k3:Int) {s:fU} {m:List UInt8} (hs:iq w s m) (hm:m.length<=2^40) (q:Bool) (an n:Int) {K:KV}
  (hK:∀x0 x1 x2 x3 x4 x5 x6 x7 x8 x9 N w',Ext w w'->K x0 x1 x2 x3 x4 x5 x6 x7 x8 x9 N w'):
  Bg p.tos p.id p.off p.ttl p.proto p.src p.dst p.df p.mf o d k1 k2 k3 s q an n w K:=by
 apply XH;refine gq λa w1 r1 e1 z1 f1=> ?_;refine gq λb w2 r2 e2 z2 f2=> ?_;refine gq λg w3 r3 e3 z3 f3=> ?_;have x3:=(f1.trans f2).trans f3;have za:=f1.size;have zb:=f2.size;have zc:=f3.size;have O:=(r1.ext f2).ext f3;have u:=r2.ext f3;refine V5 (K:=λx0 x1 x2 x3 W=>_) u ?_;refine aam k1 k2 k3 (hs.ext x3) hm q an n λu0 u1 u2 s' e' w4 L f4 hL hll=> ?_;refine StN_f (u.ext f4) λw5 r5 f5 z5=> ?_;have x5:Ext w w5:=(x3.trans f4).nw f5;have hL5:iq w5 s' L:=hL.fr f5 λad ha h0 e=>jg (u.ext f4) (by simp) hL ha h0 e;have I:=(O.ext f4).fr f5 (by omega);have R:=(r3.ext f4).fr f5 (by omega);refine Ld_s 9 o I ?_;refine cmS2 (kC (ho.ext x5) (by omega)) ?_;rintro oc w6 ⟨_,_,f6,_⟩;have J:=I.ext f6;refine g_ (i:=9) J rfl (by simp) λw7 r7 f7' z7=> ?_;have f7:gW w6 w7 (·=a):=f7' _ rfl;have x7:Ext w w7:=(x5.trans f6).nw f7;have U:=(r5.ext f6).fr f7 (by omega);have Y:=(R.ext f6).fr f7 (by omega);have hL7:iq w7 s' L:=(hL5.ext f6).fr f7 λad ha h0 e=>jg J (by simp) (hL5.ext f6) ha h0 e;refine V5 (K:=λx0 x1 x2 x3 W=>_) U ?_;refine cmS3 (VR ⟨u0,u1,u2,L⟩ hL7) ?_;rintro r e8 w8 ⟨_,_,f8,_,_⟩;have Z:=r7.ext f8;refine g_ (i:=10) Z rfl (by simp) λw9 r9 f9' z9=> ?_;have f9:gW w8 w9 (·=a):=f9' _ rfl;simp only[List.set_cons_succ,List.set_cons_zero] at r9;have x9:Ext w w9:=(x7.trans f8).nw f9;refine jF r9 ?_;have aa:=(Y.ext f8).fr f9 (by omega);refine StN_f aa λac af f10 z10=> ?_;refine jF af ?_;exact hK _ _ _ _ _ _ _ _ _ _ _ ac (x9.nw f10)
theorem Y0 (h:nH w a c e) (i:Int) (hi:In64 i) (p:jG) {o d:fU} (ho:iq w o p.opts) (h1:p.opts.length<=2^40) (k1 k2 k3:Int) {s:fU} {m:List UInt8} (hs:iq w s m) (hm:m.length<=2^40)
  {K:Int->Int->Int->Int->Int->Int->Int->Bool->Bool->fU->fU->Int->b_}
  (hK:∀x0 x1 x2 x3 x4 x5 x6 x7 x8 x9 aa why w',Ext w w'->K x0 x1 x2 x3 x4 x5 x6 x7 x8 x9 aa why w'):
  pq (some ⟨a.x,0,none⟩) i p.tos p.id p.off p.ttl p.proto p.src p.dst p.df p.mf o d k1 k2 k3 s w K:=by
 apply DJ;refine gq λg1 w1 r1 e1 z1 f1=> ?_;refine gq λg2 w2 r2 e2 z2 f2=> ?_;refine gq λg3 w3 r3 e3 z3 f3=> ?_;have x3:=(f1.trans f2).trans f3;have za:=f1.size;have zb:=f2.size;have zc:=f3.size;have O:=(r1.ext f2).ext f3;have R:=r2.ext f3;have fin:∀(W:θ) (why:Int),Ext w3 W->iw ξ W ⟨g3,0,none⟩ 0 λU=>ig U ⟨g3,0,none⟩ λy0 y1 y2 y3 y4 y5 y6 y7 y8 y9 Y=>K y0 y1 y2 y3 y4 y5 y6 y7 y8 y9 Y why U:=by
  intro W why hW;refine StN_f (r3.ext hW) λw4 r4 f4 z4=> ?_;refine jF r4 ?_;exact hK _ _ _ _ _ _ _ _ _ _ _ why w4 ((x3.trans hW).nw f4)
 refine Ld_s 3 s R ?_;refine OX (hs.ext x3) hm λt i' o' l' p' s' dd df mf op da x y z ee w4 f4 is ix iy idd iz=> ?_;refine gq λb1 w5 r5 e5 z5 f5=> ?_;refine gq λb2 w6 r6 e6 z6 f6=> ?_;refine StN_f (r5.ext f6) λw7 r7 f7 z7=> ?_;have zd:=f5.size;have ze:=f6.size;have zf:=f4.size;refine StN_f (r6.fr f7 (by omega)) λw8 r8 f8 z8=> ?_;have x8:Ext w3 w8:=((f4.trans (f5.trans f6)).nw f7).nw f8
 cases (ee !=0)
 rotate_left
 ·exact fin w8 1 x8
 rw[cond_false];have xd:=x8.trans (Ext.drew w8);have hE8:=h.ext (x3.trans xd);refine iI.2 (iH (k:= .ptr) (y:=some ⟨a.B.d,0,none⟩) (by rw[gy];exact hE8.c2) ?_);refine Ld_i 0 x r8.drew (yw (k:= .int .i64) (i:=6) (x:=dd) (r7.fr f8 (by omega)).drew rfl (Ld_i 2 z r8.drew ?_));refine cmS4 (L_ hE8.db i x dd z (by
  intro n hn;simp only[mem_cons,not_mem_nil,or_false] at hn;rcases hn with rfl|rfl|rfl|rfl
  ·exact hi
  ·exact ix
  ·exact idd
  ·exact iz)) ?_
 rintro n9 t9 w9 ⟨rfl,rfl,f9⟩;have x9:=xd.trans f9;generalize e.Mi (Bind.keyS [i,x,dd,z])=mo
 cases mo with
 |none=>
  rw[Option.isSome_none,Bool.not_false,cond_true];exact fin w9 9 x9
 |some v=>
  rw[Option.isSome_some,Bool.not_true,cond_false];have hE9:=h.ext (x3.trans x9);refine iI.2 (iH (k:= .ptr) (y:=some ⟨a.B.d,0,none⟩) (by rw[gy];exact hE9.c2) ?_);refine cmS19 (Mc hE9.db _) ?_;rintro a1 a2 a3 a4 a5 a6 a7 a8 r w10 ⟨_,_,f10⟩;refine gq λb3 w11 ac e11 z11 f11=> ?_;refine StN_f ac λI J f12 z12=> ?_;have zg:=x9.size;have zh:=f10.size;have u:Ext w3 I:=((x9.trans f10).trans f11).nw f12;have r112:=O.ext u;have r212:=R.ext u;refine jF r112 ?_;refine V5 (K:=λx0 x1 x2 x3 W=>_) r212 ?_;have g5:I.cell? (Addr.add (Addr.add ⟨b3,0,none⟩ 4) 1)=some (Β a6):=by rw[gy,gy,J.cell];rfl
  have g6:I.cell? (Addr.add (Addr.add ⟨b3,0,none⟩ 4) 2)=some (Β a7):=by rw[gy,gy,J.cell];rfl
  refine iH (k:= .int .i64) (y:=a6) g5 (iH (k:= .int .i64) (y:=a7) g6 ?_);refine QB p (ho.ext (x3.trans u)) h1 _ _ _ (hs.ext (x3.trans u)) hm false a6 a7 λy0 y1 y2 y3 y4 y5 y6 y7 y8 y9 Y w13 f13=> ?_;refine StN_f (r112.ext f13) λaf ag f14 z14=> ?_;have hb3:b3<I.heap.size:=J.lt;have hg1:g1<w3.heap.size:=O.lt;have hb3':w3.heap.size<=b3:=by omega
  refine iH (k:= .int .i64) (y:=a6) (by rw[gy,gy,((J.ext f13).fr f14 (by omega)).cell];rfl) ?_;refine g_ (i:=5) ag rfl (by simp) λah Z N z15=> ?_;have f15:gW af ah (·=g1):=N _ rfl;simp only[List.set_cons_succ,List.set_cons_zero] at Z;refine jF Z ?_;have r315:=(((r3.ext u).ext f13).fr f14 (by omega)).fr f15 (by omega);refine StN_f r315 λai aj f16 z16=> ?_;refine jF aj ?_;exact hK _ _ _ _ _ _ _ _ _ _ _ 0 ai (((((x3.trans u).trans f13).nw f14).nw f15).nw f16)
end Go.Proofs.EN
end
section
namespace Go.Proofs.AN
open Gp Gp.V4 Go.Proofs Go.Proofs.VN
open Gp.Bind (In64)
theorem Xh {n:Nat} (hn:n<=2^46) (w:θ):lM ⟨none,0,0⟩ (n:Int) w λr w'=>Buf w' r (bytesV [])/\Ext w w'/\∀b,fU.at r b->w.heap.size<=b:=by
 apply tZ;rw[decide_eq_false (by omega),cond_false];have e0:ο.wrap (((0:Nat):Int) - ((0:Nat):Int))=0:=rfl;simp -zeta only[e0];rw[show ((n:Int) - 0)=(n:Int) by omega,Α];intro J;by_cases hz:(n:Int)>0
 ·rw[decide_eq_true hz,cond_true];refine⟨by omega,by omega,by simp,?_⟩;show QE 5 1 1 [.int .u8 0] (⟨none,0,0⟩:fU) (n:Int) w _;refine JQ (old:=[]) (by show 0<0+n;omega) (by show (0+n) * 1<=_;omega) (by show 0+n<=_;omega) rfl λc w1 hc r1 f1 z1=> ?_;have hc:0+n<=c:=hc;refine⟨by omega,by omega,by simp,?_⟩;have u:qm (some (⟨w.heap.size,0,none⟩:Addr)) c (0:Int).toNat 1=some ⟨w.heap.size,0,none⟩:=by
   unfold qm;split<;>simp[Addr.add]
  show J ⟨qm (some (⟨w.heap.size,0,none⟩:Addr)) c (0:Int).toNat 1,0,c - 0⟩ w1;rw[u];refine⟨⟨rfl,.inr ⟨w.heap.size,gZ [.int .u8 0] n++gZ [.int .u8 0] (c - (0+n)),rfl,?_,by simpa [bytesV] using r1⟩⟩,f1,λb ⟨o,hb⟩=>by cases hb;exact Nat.le_refl _⟩;simp only[length_append,nD,List.length_cons,List.length_nil,bytesV,List.map_nil];omega
 ·rw[decide_eq_false hz,cond_false];exact⟨Buf.nil,Ext.refl _,λb ⟨o,hb⟩=>by cases hb⟩
def tq (ps:List (fU×List UInt8)):List UInt8:=ps.flatMap (·.2)
theorem Wv {ps:List (fU×List UInt8)} {n:Nat} (h:∀p∈ps,p.2.length<=n):(tq ps).length<=ps.length * n:=by
 induction ps with
 |nil=>simp[tq]
 |cons p ps ih=>
  have h1:=h p (by simp);have h2:=ih λq hq=>h q (by simp[hq]);unfold tq at h2 ⊢;rw[List.flatMap_cons,length_append,List.length_cons,Nat.add_mul];omega
theorem Df {ps:List (fU×List UInt8)} {i:Nat} {p:fU×List UInt8} (h:ps[i]? =some p):tq (ps.take (i+1))=tq (ps.take i)++p.2:=by
 unfold tq;rw[take_add_one,h,List.flatMap_append];simp
theorem Nq {w:θ} {s:fU} {ps:List (fU×List UInt8)} (hs:Parts w s ps) {i:Nat} {p:fU×List UInt8} (hp:ps[i]? =some p) {K:Addr->Prop} (hK:∀a,w.cell? a=some (.slice p.1.a p.1.len p.1.cap)->iq w p.1 p.2->K a):iM s 1 (i:Int) K:=by
 have hlt:=(List.getElem?_eq_some_iff.1 hp).1;have hl:=hs.1;obtain⟨b,o,ha,hc,hb⟩:=hs.2 i p hp;refine⟨_,ha,by omega,by omega,?_⟩;rw[toNat_natCast,Nat.mul_one,gy];exact hK _ hc hb
theorem Oc {w:θ} {s:fU} {ps:List (fU×List UInt8)} (hs:Parts w s ps) (hn:ps.length<=8) (hl:∀p∈ps,p.2.length<=2^40):
  jP s w λr w'=>Buf w' r (bytesV (tq ps))/\Ext w w'/\∀b,fU.at r b->w.heap.size<=b:=by
 apply qQ;have hsl:=hs.1;have bnd:∀i,(tq (ps.take i)).length<=2^43:=λi=>by
  have h1:=Wv (ps:=ps.take i) (n:=2^40) λp hp=>hl p (List.mem_of_mem_take hp);have h2:(ps.take i).length<=8:=by simp;omega
  have h3:(ps.take i).length * 2^40<=8 * 2^40:=Nat.mul_le_mul_right _ h2;omega
 refine gX (λst W=>W=w/\∃i:Nat,i<=ps.length/\st.2.1=(i:Int)/\st.1=((tq (ps.take i)).length:Int)) (λst _=>ps.length - st.2.1.toNat) ⟨rfl,0,by omega,rfl,by simp[tq]⟩ ?_;rintro⟨t,x,⟨⟩⟩ W ⟨rfl,i,hi,hx,ht⟩ next J
 simp only at hx ht;subst hx ht;by_cases R:(i:Int)<(s.len:Int)
 ·rw[decide_eq_true R,cond_true];have hp:=getElem?_eq_getElem (show i<ps.length by omega);generalize ps[i]'(by omega)=p at hp;refine Nq hs hp λa hc hb=> ?_;simp only[Vm,hc,f_,gQ];have b1:=bnd (i+1);have e1:=Df hp;have hpl:=hb.1;rw[e1,length_append] at b1;rw[Α (n:=((tq (ps.take i)).length:Int)+(p.1.len:Int)) (by omega) (by omega),decide_eq_false (by omega),cond_false,Α];exact J _ _ ⟨rfl,i+1,by omega,by simp,by rw[e1,length_append];simp only;omega⟩ (by simp only;omega)
 ·rw[decide_eq_false R,cond_false];have b1:=bnd i;refine cmS2 (Xh (by omega) W) ?_;rintro r w1 ⟨g1,g2,g3⟩;refine gX (λst W'=>∃j:Nat,j<=ps.length/\st.2.1=(j:Int)/\Buf W' st.1 (bytesV (tq (ps.take j)))/\(∀b,fU.at st.1 b->W.heap.size<=b)/\Ext W W') (λst _=>ps.length - st.2.1.toNat) ⟨0,by omega,rfl,by simpa [tq] using g1,g3,g2⟩ ?_;rintro⟨u,x,⟨⟩⟩ W' ⟨j,hj,hx,hb,N,O⟩ next' I
  simp only at hx hb N;subst hx;by_cases U:(j:Int)<(s.len:Int)
  ·rw[decide_eq_true U,cond_true];have hp:=getElem?_eq_getElem (show j<ps.length by omega);generalize ps[j]'(by omega)=p at hp;refine Nq (hs.fr O) hp λa hc Y=> ?_;simp only[Vm,hc,f_,gQ];have b2:=bnd (j+1);have e1:=Df hp;rw[e1,length_append] at b2;refine jd hb Y (by omega) λs' w' h1 h2 h3 _=> ?_;rw[Α];have z1:=O.size;refine I _ _ ⟨j+1,by omega,by simp,by rw[e1];exact h1,λb hb'=> ?_,O.new h2 λy hy hb'=>by have:=N y hb';omega⟩ (by simp only;omega);rcases h3 b hb' with g|g
   ·exact N b g
   ·omega
  ·rw[decide_eq_false U,cond_false];rw[List.take_of_length_le (by omega)] at hb;exact⟨hb,O,N⟩
section
variable {w0 w w':θ}
theorem Nr (t o:Int) (w:θ):pG t o w λr w'=>r=(if t= -1 then o else t)/\w'=w:=by
 apply U2;by_cases h:t= -1
 ·subst h;exact⟨rfl,rfl⟩
 ·have:(t== -1)=false:=by rw[beq_eq_false_iff_ne];exact h
  rw[this,cond_false,if_neg h];exact⟨rfl,rfl⟩
def NI (a b:Int) (L:List UInt8):List UInt8:=jv (jv (jv (jv [] a 2) b 2) (8+(L.length:Int)) 2) 0 2++L
def ada (sa da:Int) (m:List UInt8):Int:=if (65535 - fold (qE [(⟨none,0,0⟩,xJ sa da 17 (m.length:Int)),(⟨none,0,0⟩,m)]):Nat)=0 then 65535 else ((65535 - fold (qE [(⟨none,0,0⟩,xJ sa da 17 (m.length:Int)),(⟨none,0,0⟩,m)]):Nat):Int)
def Ih (sa da a b:Int) (ns:Bool) (L:List UInt8):List UInt8:=if ns then NI a b L else (NI a b L).take 6++jD 2 (ada sa da (NI a b L)).toNat++(NI a b L).drop 8
theorem Ρ (s s':fU) (l m:List UInt8):qE [(s,l),(s',m)]=tot l+tot m:=by simp[qE]
theorem ac_ (a b:Int) (ns:Bool) {d:fU} {L:List UInt8} (hd:iq w d L):Gl a b ns d w λr w'=>(lD a->lD b->L.length<=60000->r=0)/\(r=0->L.length<=65527)/\Ext w w':=by
 apply XY;refine gq λp w1 r1 e1 z1 f1=> ?_;have hl:=hd.1;intro J;have u:∀W,Ext w W->¬(lD a/\lD b)->J true W:=λW hx hn=>by
  simp only[J,cond_true];exact⟨λh1 h2=>absurd ⟨h1,h2⟩ hn,(λh=>by cases h),hx⟩
 have I:∀W,Ext w1 W->J false W:=λW hx=>by
  simp only[J,cond_false];refine Ld_s 3 d (r1.ext hx) ?_;by_cases c:(d.len:Int)>65527
  ·rw[decide_eq_true c,cond_true];exact⟨λ_ _ h=>by omega,(λh=>by cases h),f1.trans hx⟩
  ·rw[decide_eq_false c,cond_false];exact⟨λ_ _ _=>trivial,λ_=>by omega,f1.trans hx⟩
 clear_value J;have fit:∀n:Int,iK n 2↔lD n:=λn=>by
  unfold iK mg;have:(2:Int).toNat=2:=rfl;rw[this];constructor
  ·rintro⟨_,h1,h2⟩;omega
  ·intro h;refine⟨by omega,by omega,by omega⟩
 refine Ld_i 0 a r1 ?_;refine cmS0 (mO a 2 w1) ?_;rintro r w2 ⟨hr,hw⟩;subst hw
 cases r
 ·rw[Bool.not_false,cond_true];exact u _ f1 λh=>of_decide_eq_false hr.symm ((fit a).2 h.1)
 rw[Bool.not_true,cond_false];refine Ld_i 1 b r1 ?_;refine cmS0 (mO b 2 w2) ?_;rintro r w3 ⟨hr,hw⟩;subst hw
 cases r
 ·exact u _ f1 λh=>of_decide_eq_false hr.symm ((fit b).2 h.2)
 ·exact I _ (Ext.refl _)
theorem ac3 (sa da:Int) {s:fU} {m:List UInt8} (hs:iq w s m) (hl:m.length<=2^40):ED sa da s w λr w'=>r=ada sa da m/\Ext w w':=by
 apply Vh;refine cmS2 (IJ sa da 17 _ w) ?_;rintro ps w1 ⟨u,f1⟩;have hpl:=BH sa da 17 (s.len:Int);refine gq λp w2 r2 e2 z2 f2=> ?_;have I:=hs.1;refine cmS1 (SC (II r2 (u.ext f2) ((hs.ext f1).ext f2)) (by simp) (by simp;omega)) ?_;rintro r w3 ⟨hr,f3⟩;have x3:=(f1.trans f2).trans f3;have e:r=((65535 - fold (qE [(⟨none,0,0⟩,xJ sa da 17 (m.length:Int)),(⟨none,0,0⟩,m)]):Nat):Int):=by
  rw[hr,Ρ,Ρ,I]
 unfold ada;rw[e];generalize (65535 - fold (qE [(⟨none,0,0⟩,xJ sa da 17 (m.length:Int)),(⟨none,0,0⟩,m)]):Nat)=q;by_cases h0:q=0
 ·subst h0;exact⟨rfl,x3⟩
 ·have:(((q:Nat):Int)==0)=false:=by rw[beq_eq_false_iff_ne];omega
  rw[this,cond_false,if_neg h0];exact⟨rfl,x3⟩
theorem agW (sa da:Int) (m:List UInt8):1<=ada sa da m/\ada sa da m<=65535:=by
 unfold ada;split
 ·decide
 ·rename_i h;omega
theorem ac9 (sa da a b:Int) (ns:Bool) {d:fU} {L:List UInt8} (hd:iq w d L) (hl:L.length<=2^40):
  Gj sa da a b ns d w λr e w'=>Ext w w'/\(lD a->lD b->L.length<=60000->e=0/\iq w' r (Ih sa da a b ns L)/\∀x,fU.at r x->w.heap.size<=x):=by
 apply XW;refine gq λp w1 r1 e1 z1 f1=> ?_;refine Ld_i 0 a r1 (Ld_i 1 b r1 (Ld_b 2 ns r1 (Ld_s 3 d r1 ?_)));refine cmS1 (ac_ a b ns (hd.ext f1)) ?_;rintro ce w2 ⟨ag,ah,f2⟩;have x2:=f1.trans f2;by_cases hc:ce=0;rotate_left
 ·have:(ce !=0)=true:=by rw[bne_iff_ne];exact hc
  rw[this,cond_true];exact⟨x2,λh1 h2 h3=>absurd (ag h1 h2 h3) hc⟩
 have hL:=ah hc;subst hc;rw[show ((0:Int) !=0)=false from rfl,cond_false];have R:=r1.ext f2;have ai:=hd.1;refine Ld_i 0 a R (Ld_i 1 b R (Ld_s 3 d R ?_));rw[Α];refine gq λg w3 r3 e3 z3 f3=> ?_;have x3:=x2.trans f3;have f13:=f2.trans f3
 let ns4:List Int:=[a,b,8+(d.len:Int),0]
 let acc:Nat->List UInt8:=λi=>(ns4.take i).foldl (λl n=>jv l n 2) []
 have J:∀i n,ns4[i]? =some n->acc (i+1)=jv (acc i) n 2:=by
  intro i n hi;simp only[acc];rw[take_add_one,hi,List.foldl_append];rfl
 have Y:∀i,(acc i).length<=2 * i:=by
  intro i
  induction i with
  |zero=>simp[acc]
  |succ i ih=>
   cases hi:ns4[i]? with
   |none=>
    simp only[acc] at ih ⊢;rw[take_add_one,hi];simp only[Option.toList_none,List.append_nil];omega
   |some n=>
    rw[J i n hi];have:(jv (acc i) n 2).length<=(acc i).length+2:=xK _ _ 2;omega
 refine gX (λst W=>∃i:Nat,i<=4/\st.2.1=(i:Int)/\Buf W st.1 (bytesV (acc i))/\Ext w1 W/\(∀x,fU.at st.1 x->w1.heap.size<=x)/\Ext w3 W) (λst _=>(4 - st.2.1).toNat) ⟨0,by omega,rfl,Buf.nil,f13,(λx h=>by obtain⟨o,h⟩:=h;cases h),Ext.refl _⟩ ?_;rintro⟨s,ii,⟨⟩⟩ W ⟨i,hi,Z,hb,hx,hn,hx3⟩ next N
 simp only at Z hb hn;subst Z;by_cases aa:(i:Int)<4
 ·rw[decide_eq_true aa,cond_true];have I:ns4[i]? =some (ns4[i]'(by show i<4;omega)):=getElem?_eq_getElem _;generalize ns4[i]'(by show i<4;omega)=n at I;have O:W.cell? ⟨g,i,none⟩=some (Β n):=by
   rw[(r3.ext hx3).cell];have:([Β a,Β b,Β (8+(d.len:Int)),Β 0]:List Value)=ns4.map λn=>Β n:=rfl;rw[this,List.getElem?_map,I];rfl
  show iM ⟨some ⟨g,0,none⟩,4,4⟩ 1 (i:Int) _;refine⟨⟨g,0,none⟩,rfl,by omega,by show (i:Int)<((4:Nat):Int);omega,?_⟩;have ha9:(⟨g,0,none⟩:Addr).add ((i:Int).toNat * 1)=⟨g,i,none⟩:=by rw[toNat_natCast,Nat.mul_one,gy,Nat.zero_add]
  rw[ha9];refine iH (k:= .int .i64) (y:=n) O ?_;have hai:=Y i;refine cmS2 (uO (iq.iD hb) (by omega) n 2) ?_;rintro s2 w5 ⟨b5,f5,n5⟩;have aj:ο.wrap ((i:Int)+1)=(i:Int)+1:=Α;show next (s2,ο.wrap ((i:Int)+1),()) w5
  rw[aj];refine N _ _ ⟨i+1,by omega,by push_cast;rfl,by rw[J i n I];exact b5,hx.trans f5,λx ak=>by have:=n5 x ak;have:=hx.size;omega,hx3.trans f5⟩ (by simp only;omega)
 ·rw[decide_eq_false aa,cond_false];have hi4:i=4:=by omega
  subst hi4;have r1W:=r1.ext hx;refine Ld_s 3 d r1W ?_;have ha4:(acc 4).length<=8:=Y 4;have u:acc 4++L=NI a b L:=by
   unfold NI;have:acc 4=jv (jv (jv (jv [] a 2) b 2) (8+(d.len:Int)) 2) 0 2:=rfl;rw[this,ai]
  refine jd hb ((hd.ext f1).ext hx) (by omega) λs5 w5 b5 f5 n5 _=> ?_;rw[u] at b5;have x5:Ext w w5:=(f1.trans hx).new f5 λy hy hb=>by have:=hn y hb;have:=f1.size;omega
  have hp1:¬fU.at s p:=λhb=>by have:=hn p hb;have:=r1.lt;omega
  have am:=r1W.fr f5 hp1;refine Ld_b 2 ns am ?_
  cases ns
  rotate_left
  ·rw[cond_true];exact⟨x5,λ_ _ _=>⟨rfl,by unfold Ih;exact iq.iD b5,λx hx5=>by
    have:=f1.size;have:=hx.size;rcases n5 x hx5 with h|h
    ·have:=hn x h;omega
    ·omega⟩⟩
  rw[cond_false];have hul:(NI a b L).length<=8+L.length:=by rw[<- u,length_append];omega
  refine cmS1 (ac3 sa da (iq.iD b5) (by omega)) ?_;rintro sm w6 ⟨ac,f6⟩;have b6:=b5.fr (f6 λ_=>False) (by simp);obtain⟨u1,u2⟩:=agW sa da (NI a b L);rw[<- ac] at u1 u2;refine cmS3 (O5 (iq.iD b6) (by omega) 6 sm 2) ?_;rintro r7 e7 w7 ⟨U,f7,n7⟩;refine⟨(x5.trans f6).trans f7,λh1 h2 h3=> ?_⟩;have hlen:8<=(NI a b L).length:=by
   have q:∀(l:List UInt8) (n:Int),lD n->(jv l n 2).length=l.length+2:=λl n hn=>by
    unfold jv;rw[if_pos ⟨⟨by omega,by omega⟩,by omega,by have:(2:Int).toNat=2:=rfl;rw[this];omega⟩,length_append];have:(2:Int).toNat=2:=rfl;rw[this,iG]
   unfold NI;rw[length_append,q _ _ (by decide),q _ _ (by omega),q _ _ h2,q _ _ h1];simp
  have af:=Nz (l:=NI a b L) (by unfold iK mg;refine⟨by omega,by omega,?_⟩;have:(2:Int).toNat=2:=rfl;rw[this];omega) (by omega) (by omega) U;refine⟨af.1,?_,λx hx7=>by have:=n7 x hx7;have:=(x5.trans f6).size;omega⟩;unfold Ih;rw[<- ac];exact iq.iD af.2
end
end Go.Proofs.AN
end
section
namespace Go.Proofs.AN
open Gp Gp.V4 Go.Proofs Go.Proofs.VN
open Gp.Bind (In64)
section
variable {w0 w w':θ}
def prV (c:Int×Int):List Value:=[Β c.1,Β c.2]
theorem Ya (c:Int×Int):(prV c).length=2:=rfl
theorem ah0 (l:List UInt8) (n k:Int):(jv l n k).length<=l.length+4:=by
 unfold jv;split
 ·rename_i h;have:=h.1;unfold mg at this;rw[length_append,iG];omega
 ·omega
theorem ZQ {b:Nat} {s s' s'':fU} {l l' l'':List UInt8} (h:Row w b [Δ s,.slice s'.a s'.len s'.cap,.slice s''.a s''.len s''.cap]) (hs:iq w s l) (hs':iq w s' l') (hs'':iq w s'' l''):Parts w ⟨some ⟨b,0,none⟩,3,3⟩ [(s,l),(s',l'),(s'',l'')]:=by
 refine⟨rfl,λi p hi=> ?_⟩
 match i,hi with
 |0,hi=>simp at hi;subst hi;exact⟨b,0,rfl,by rw[h.cell];rfl,hs⟩
 |1,hi=>simp at hi;subst hi;exact⟨b,0,rfl,by rw[h.cell];rfl,hs'⟩
 |2,hi=>simp at hi;subst hi;exact⟨b,0,rfl,by rw[h.cell];rfl,hs''⟩
 |(n+3),hi=>simp at hi
theorem TY (x0 x1 x2 x3 x4 x5 x6 x7:Int) (x8 x9:fU) (w:θ):yV x0 x1 x2 x3 x4 x5 x6 x7 x8 x9 w λr w'=>(∃l:List (Int×Int),mQ 2 prV w' r l/\l.length=9)/\Ext w w':=by
 apply Vf;refine gq λa w1 r1 e1 z1 f1=> ?_;refine Ld_s 8 x8 r1 ⟨by omega,?_⟩;refine Ld_i 0 x0 r1 (Ld_i 1 x1 r1 (Ld_i 2 x2 r1 (Ld_i 3 x3 r1 ⟨by omega,?_⟩)));refine Ld_i 4 x4 r1 (Ld_i 5 x5 r1 (Ld_i 6 x6 r1 (Ld_i 7 x7 r1 ?_)));refine gq λg w2 r2 e2 z2 f2=> ?_;have hb:=iV.row (n:=2) (f:=prV) (xs:=[(x0,2),(x1,2),(x2,4),(x3,4),(Ql .i64 (FU .i64 (ο.wrap (Int.tdiv (ο.wrap (20+(x8.len:Int))) 4)) 4) x4,1),(x5,1),(x6,2),(0,2),(x7,2)]) r2;exact⟨⟨_,hb.sl Ya (by omega),rfl⟩,f1.trans f2⟩
theorem ac7 (x0 x1 x2 x3 x4 x5 x6 x7:Int) (x8 x9:fU) (w:θ) (h8:x8.len<=2^40) (h9:x9.len<=2^40):Gh x0 x1 x2 x3 x4 x5 x6 x7 x8 x9 w λe w'=>(e=0->x8.len<=65535/\x9.len<=65535)/\Ext w w':=by
 apply XU;refine gq λa w1 r1 e1 z1 f1=> ?_;intro J;have hJ:∀q,J q:=by
  intro q;simp only[J]
  cases q
  rotate_left
  ·exact⟨(λh=>by cases h),f1⟩
  rw[cond_false];refine ZY r1 ?_;refine cmS2 (TY _ _ _ _ _ _ _ _ _ _ w1) ?_;rintro r w2 ⟨⟨l,hl,R⟩,f2⟩;have U:r.len=9:=by rw[hl.len,R]
  rw[U];refine gX (λst W=>∃i:Nat,i<=9/\st.1=(i:Int)/\Ext w2 W) (λst _=>(9 - st.1).toNat) ⟨0,by omega,rfl,Ext.refl _⟩ ?_;rintro⟨ii,⟨⟩⟩ W ⟨i,hi,N,hx⟩ next u
  simp only at N;subst N;by_cases O:(i:Int)<((9:Nat):Int)
  ·rw[decide_eq_true O,cond_true];have I:=getElem?_eq_getElem (show i<l.length by omega);generalize l[i]'(by omega)=c at I;show iM r 2 (i:Int) _;refine SN.SlN_ix (i:=(i:Int)) Ya (by omega) (hl.ext hx) (by omega) (by rw[toNat_natCast];exact I) λa9 h9'=> ?_;refine iH (k:= .int .i64) (y:=c.1) (h9' 0 _ rfl) (iH (k:= .int .i64) (y:=c.2) (h9' 1 _ rfl) ?_);refine gq λk w3 r3 e3 z3 f3=> ?_;refine StN_f r3 λw4 r4 f4 z4=> ?_;have x4':Ext W w4:=f3.nw f4;refine Ld_i 0 c.1 r4 (Ld_i 1 c.2 r4 ?_);refine cmS0 (mO _ _ w4) ?_;rintro q w5 ⟨_,hw⟩;subst hw
   cases q
   ·exact⟨(λh=>by cases h),((f1.trans f2).trans hx).trans x4'⟩
   ·rw[Bool.not_true,cond_false];have Y:ο.wrap ((i:Int)+1)=(i:Int)+1:=Α;show next (ο.wrap ((i:Int)+1),()) w5
    rw[Y];exact u _ _ ⟨i+1,by omega,by push_cast;rfl,hx.trans x4'⟩ (by simp only;omega)
  ·rw[decide_eq_false O,cond_false];have rW:=r1.ext (f2.trans hx);refine Ld_s 8 x8 rW (Ld_s 9 x9 rW ?_);have xW:=(f1.trans f2).trans hx;rw[Α (n:=20+(x8.len:Int)) (by omega) (by omega),Α];by_cases hb:20+(x8.len:Int)+(x9.len:Int)>65535
   ·rw[decide_eq_true hb,cond_true];exact⟨(λh=>by cases h),xW⟩
   ·rw[decide_eq_false hb,cond_false];exact⟨λ_=>⟨by omega,by omega⟩,xW⟩
 clear_value J;refine Ld_s 8 x8 r1 ?_
 cases (decide ((x8.len:Int)>40))
 rotate_left
 ·exact hJ _
 rw[cond_false];refine Ld_s 8 x8 r1 ⟨by omega,?_⟩
 cases ((Int.tmod (x8.len:Int) 4) !=0)
 rotate_left
 ·exact hJ _
 rw[cond_false];refine Ld_i 4 x4 r1 ?_
 cases (decide (x4<0))
 rotate_left
 ·exact hJ _
 rw[cond_false];exact Ld_i 4 x4 r1 (hJ _)
theorem ac6 (sa da x0 x1 x2 x3 x4 x5 x6 x7:Int) {x8 x9:fU} (h8:Ui w x8) (h9:Ui w x9):Gg sa da x0 x1 x2 x3 x4 x5 x6 x7 x8 x9 w λ_ _ w'=>Ext w w':=by
 obtain⟨L8,g8,l8⟩:=h8;obtain⟨L9,g9,l9⟩:=h9;have k8:=g8.1;have k9:=g9.1;apply XT;refine gq λa w1 r1 e1 z1 f1=> ?_;refine ZY r1 ?_;refine cmS1 (ac7 _ _ _ _ _ _ _ _ _ _ w1 (by omega) (by omega)) ?_;rintro ce w2 ⟨O,f2⟩;have x2:=f1.trans f2;by_cases hc:ce=0;rotate_left
 ·have:(ce !=0)=true:=by rw[bne_iff_ne];exact hc
  rw[this,cond_true];exact x2
 obtain⟨q8,q9⟩:=O hc;subst hc;rw[show ((0:Int) !=0)=false from rfl,cond_false];refine ZY (r1.ext f2) ?_;refine cmS2 (TY _ _ _ _ _ _ _ _ _ _ w2) ?_;rintro r w3 ⟨⟨l,hl,R⟩,f3⟩;have U:r.len=9:=by rw[hl.len,R]
 rw[U];have x3:=x2.trans f3;refine gX (λst W=>∃(i:Nat) (m:List UInt8),i<=9/\st.2.1=(i:Int)/\Buf W st.1 (bytesV m)/\m.length<=4 * i/\Ext w3 W) (λst _=>(9 - st.2.1).toNat) ⟨0,[],by omega,rfl,Buf.nil,by simp,Ext.refl _⟩ ?_;rintro⟨s,ii,⟨⟩⟩ W ⟨i,m,hi,J,hb,hm,hx⟩ next u
 simp only at J hb;subst J;by_cases N:(i:Int)<((9:Nat):Int)
 ·rw[decide_eq_true N,cond_true];have I:=getElem?_eq_getElem (show i<l.length by omega);generalize l[i]'(by omega)=c at I;show iM r 2 (i:Int) _;refine SN.SlN_ix (i:=(i:Int)) Ya (by omega) (hl.ext hx) (by omega) (by rw[toNat_natCast];exact I) λa9 h9'=> ?_;refine iH (k:= .int .i64) (y:=c.1) (h9' 0 _ rfl) (iH (k:= .int .i64) (y:=c.2) (h9' 1 _ rfl) ?_);refine gq λk w4 r4 e4 z4 f4=> ?_;refine StN_f r4 λw5 r5 f5 z5=> ?_;have x5':Ext W w5:=f4.nw f5;refine Ld_i 0 c.1 r5 (Ld_i 1 c.2 r5 ?_);refine cmS2 (uO ((iq.iD hb).ext x5') (by omega) c.1 c.2) ?_;rintro s2 w6 ⟨b6,f6,_⟩;have hp4:=ah0 m c.1 c.2;have Y:ο.wrap ((i:Int)+1)=(i:Int)+1:=Α;show next (s2,ο.wrap ((i:Int)+1),()) w6
  rw[Y];exact u _ _ ⟨i+1,_,by omega,by push_cast;rfl,b6,by omega,(hx.trans x5').trans f6⟩ (by simp only;omega)
 ·rw[decide_eq_false N,cond_false];have rW:=r1.ext ((f2.trans f3).trans hx);have xW:=x3.trans hx;refine Ld_s 8 x8 rW (Ld_s 9 x9 rW ?_);refine gq λg w4 r4 e4 z4 f4=> ?_;have x4':=xW.trans f4;refine cmS2 (Oc (ZQ r4 ((iq.iD hb).ext f4) (g8.ext x4') (g9.ext x4')) (by simp) (by
   intro p hp;simp only[mem_cons,not_mem_nil,or_false] at hp;rcases hp with rfl|rfl|rfl<;>simp only<;>omega)) ?_
  rintro o w5 ⟨b5,f5,_⟩;have Z:(tq [(s,m),(x8,L8),(x9,L9)]).length<=2^20:=by
   simp only[tq,List.flatMap_cons,List.flatMap_nil,List.append_nil,length_append];omega
  generalize tq [(s,m),(x8,L8),(x9,L9)]=M at b5 Z;have hol:o.len=M.length:=by rw[b5.1,iU]
  refine cmS2 (IJ sa da 6 _ w5) ?_;rintro ps w6 ⟨aa,f6⟩;have hpl:=BH sa da 6 (o.len:Int);refine gq λq w7 r7 e7 z7 f7=> ?_;have b7:=(b5.fr (f6 λ_=>False) (by simp)).fr (f7 λ_=>False) (by simp);refine cmS1 (SC (II r7 (aa.ext f7) (iq.iD b7)) (by simp) (by simp;omega)) ?_;rintro sm w8 ⟨_,f8⟩;refine cmS3 (O5 ((iq.iD b7).ext f8) (by omega) 16 sm 2) ?_;rintro r9 e9 w9 ⟨_,f9,_⟩;exact((((x4'.trans f5).trans f6).trans f7).trans f8).trans f9
theorem adf (x0 x1 x2:Int) {x3:fU} (h3:Ui w x3) (n:Int) {K:Int->Int->Int->fU->b_} (hK:∀y0 y1 y2 y3 w',Ext w w'->Ui w' y3->K y0 y1 y2 y3 w'):BU x0 x1 x2 x3 n w K:=by
 obtain⟨L,g3,l3⟩:=h3;apply SX;refine gq λa w1 r1 e1 z1 f1=> ?_;refine gq λb w2 r2 e2 z2 f2=>⟨by omega,?_⟩;have u:=r1.ext f2;have za:=f1.size;have zb:=f2.size;refine Ld_i 2 x2 u ?_;refine g_ (i:=2) u rfl (by simp) λw3 r3 f3' z3=> ?_;have f3:gW w2 w3 (·=a):=f3' _ rfl;simp only[List.set_cons_succ,List.set_cons_zero] at r3;have x3':Ext w w3:=(f1.trans f2).nw f3;refine Ld_s 3 x3 r3 ?_;refine cmS2 (kC (g3.ext x3') (by omega)) ?_;rintro o w4 ⟨bo,_,f4,no⟩;have r4:=r3.ext f4;refine g_ (i:=3) r4 rfl (by simp) λw5 r5 f5' z5=> ?_;have f5:gW w4 w5 (·=a):=f5' _ rfl;simp only[List.set_cons_succ,List.set_cons_zero] at r5;refine V5 (K:=λx0 x1 x2 x3 W=>_) r5 ?_;have I:=(((r2.fr f3 (by omega)).ext f4).fr f5 (by omega));refine StN_f I λw6 r6 f6 z6=> ?_;have zo:=x3'.size;have ao:∀c,fU.at o c->c≠a/\c≠b:=λc hc=>by have:=no c hc;have:=r3.lt;have:=(r2.fr f3 (by omega)).lt;omega
 refine V5 (K:=K) r6 ?_;exact hK _ _ _ _ w6 (((x3'.trans f4).nw f5).nw f6) ⟨L,iq.iD ((bo.fr f5 λc hc=>(ao c hc).1).fr f6 λc hc=>(ao c hc).2),l3⟩
end
end Go.Proofs.AN
end
section
namespace Go.Proofs.AN
open Gp Gp.V4 Go.Proofs Go.Proofs.VN
open Gp.Bind (In64)
section
variable {w0 w w':θ}
abbrev BK (a b:Int):List Value:=[Β a,Β b]
theorem ahK (v:Value) (a b:Int) (w:θ) (K:Value->b_):JR υ (.iface 451 v) "goosepond/ports.with" (BK a b) [.one .any] w K=fZ υ 392 (v::BK a b) [.one .any] w K:=by kernel_rfl
theorem ahO (v:Value) (a b:Int) (w:θ) (K:Value->b_):JR υ (.iface 453 v) "goosepond/ports.with" (BK a b) [.one .any] w K=fZ υ 399 (v::BK a b) [.one .any] w K:=by kernel_rfl
theorem ahM (v:Value) (a b:Int) (w:θ) (K:Value->b_):JR υ (.iface 455 v) "goosepond/ports.with" (BK a b) [.one .any] w K=fZ υ 402 (v::BK a b) [.one .any] w K:=by kernel_rfl
theorem ahJ (v:Value) (a b:Int) (w:θ) (K:fU->Int->b_):JR υ (.iface 451 v) "goosepond/ports.build" (BK a b) [.one .slice,.one ν] w K=fZ υ 390 (v::BK a b) [.one .slice,.one ν] w K:=by kernel_rfl
theorem ahN (v:Value) (a b:Int) (w:θ) (K:fU->Int->b_):JR υ (.iface 453 v) "goosepond/ports.build" (BK a b) [.one .slice,.one ν] w K=fZ υ 397 (v::BK a b) [.one .slice,.one ν] w K:=by kernel_rfl
theorem ahL (v:Value) (a b:Int) (w:θ) (K:fU->Int->b_):JR υ (.iface 455 v) "goosepond/ports.build" (BK a b) [.one .slice,.one ν] w K=fZ υ 400 (v::BK a b) [.one .slice,.one ν] w K:=by kernel_rfl
def BG (t o:Int):Int:=if t= -1 then o else t
inductive ag6 (w:θ) (p:jG) (a b:Int) (v:Value):Prop
 |dat (a0 a1:Int) (a2:Bool) (a3:fU) (hv:v= .iface 451 (.agg ⟨[Β a0,Β a1,.bool a2,Δ a3]⟩)) (hb:Ui w a3) (hg:qw p->a0=BG a (wordAt p.data 0:Int)/\a1=BG b (wordAt p.data 2:Int)/\a2=false/\iq w a3 (p.data.drop 8))
 |seg (a0 a1 a2 a3 a4 a5 a6 a7:Int) (a8 a9:fU) (h:p.proto=6) (hv:v= .iface 453 (.agg ⟨kY a0 a1 a2 a3 a4 a5 a6 a7 a8 a9⟩)) (hb8:Ui w a8) (hb9:Ui w a9)
 |que (a0 a1 a2:Int) (a3:fU) (h:p.proto=1) (hv:v= .iface 455 (.agg ⟨[Β a0,Β a1,Β a2,Δ a3]⟩)) (hb:Ui w a3)
theorem Ui.fr {s:fU} {S:Nat->Prop} (h:Ui w s) (hf:gW w w' S) {b:Nat} {vs:List Value} (hr:Row w b vs) (hv:∀v∈vs,∀n,v≠.int .u8 n) (hS:∀y,S y->y=b):Ui w' s:=by
 obtain⟨L,h1,h2⟩:=h;exact⟨L,h1.fr hf λad ha h0 e=>jg hr hv h1 ha h0 (hS _ e),h2⟩
theorem acj {p:jG} {v:Value} (hf:Form w p v) (a b:Int) {K:Value->b_} (hK:∀v' w',Ext w w'->ag6 w' p a b v'->K v' w'):JR υ v "goosepond/ports.with" (BK a b) [.one .any] w K:=by
 cases hf with
 |dat a0 a1 a2 a3 h hv i0 i1 hb hg=>
  subst hv;rw[ahK];apply EP;refine gq λg w1 r1 e1 z1 f1=> ?_;have x1:=f1.trans (Ext.drew w1);have r1d:=r1.drew;refine Ld_i 0 a0 r1d (Ld_i 1 a1 r1d ?_);refine cmS1 (Nr a a0 _) ?_;rintro r w2 ⟨rfl,hw⟩;subst hw;refine⟨by rw[gy,r1d.cell];rfl,?_⟩;refine cmS1 (Nr b a1 _) ?_;rintro r w2 ⟨rfl,hw⟩;subst hw;refine g_ (i:=0) r1d rfl (by simp) λw3 r3 f3' z3=> ?_;refine g_ (i:=1) r3 rfl (by simp) λw4 r4 f4' z4=> ?_;simp only[List.set_cons_succ,List.set_cons_zero] at r4;have f4:gW w1.drew w4 (·=g):=(f3' (·=g) rfl).trans (f4' (·=g) rfl) λ_ _ h=>h;have x4:Ext w w4:=x1.nw f4;refine Ld_i 0 (if a= -1 then a0 else a) r4 (Ld_i 1 (if b= -1 then a1 else b) r4 (Ld_b 2 a2 r4 (Ld_s 3 a3 r4 ?_)))
  refine hK _ w4 x4 (.dat _ _ _ _ rfl (hb.ext x4) λg=> ?_);obtain⟨g0,g1,g2,g3⟩:=hg g;exact⟨by rw[g0];rfl,by rw[g1];rfl,g2,g3.ext x4⟩
 |seg a0 a1 a2 a3 a4 a5 a6 a7 a8 a9 h hv i0 i1 hb8 hb9=>
  subst hv;rw[ahO];apply FK;refine gq λg w1 r1 e1 z1 f1=> ?_;have x1:=f1.trans (Ext.drew w1);have r1d:=r1.drew;refine Ld_i 0 a0 r1d (Ld_i 1 a1 r1d ?_);refine cmS1 (Nr a a0 _) ?_;rintro r w2 ⟨rfl,hw⟩;subst hw;refine⟨by rw[gy,r1d.cell];rfl,?_⟩;refine cmS1 (Nr b a1 _) ?_;rintro r w2 ⟨rfl,hw⟩;subst hw;refine g_ (i:=0) r1d rfl (by simp) λw3 r3 f3' z3=> ?_;refine g_ (i:=1) r3 rfl (by simp) λw4 r4 f4' z4=> ?_;simp only[List.set_cons_succ,List.set_cons_zero] at r4;have f4:gW w1.drew w4 (·=g):=(f3' (·=g) rfl).trans (f4' (·=g) rfl) λ_ _ h=>h;have x4:Ext w w4:=x1.nw f4;refine ZY r4 ?_;exact hK _ w4 x4 (.seg _ _ _ _ _ _ _ _ _ _ h rfl (hb8.ext x4) (hb9.ext x4))
 |que a0 a1 a2 a3 h hv hb=>
  subst hv;rw[ahM];apply Ju;refine gq λg w1 r1 e1 z1 f1=> ?_;have x1:=f1.trans (Ext.drew w1);have r1d:=r1.drew;refine V5 (K:=λx0 x1 x2 x3 W=>_) r1d ?_;refine cmS1 (Nr a b _) ?_;rintro r w2 ⟨_,hw⟩;subst hw;refine⟨by rw[gy,r1d.cell];rfl,by rw[gy,r1d.cell];rfl,by rw[gy,r1d.cell];rfl,by rw[gy,r1d.cell];rfl,?_⟩;refine adf a0 a1 a2 (hb.ext x1) r λy0 y1 y2 y3 w3 f3 hy=> ?_;have I:=r1d.ext f3;refine StN_f I λw4 r4 f4 z4=> ?_;have x4:Ext w w4:=(x1.trans f3).nw f4;refine V5 (K:=λJ N O u W=>K (.iface 455 (.agg ⟨[Β J,Β N,Β O,Δ u]⟩)) W) r4 ?_;exact hK _ w4 x4 (.que _ _ _ _ h rfl (hy.fr f4 I (by simp) λy hy=>hy))
theorem ϴ {p:jG} {a b:Int} {v:Value} (hf:ag6 w p a b v) (sa da:Int) {K:fU->Int->b_}
  (hK:∀r e w',Ext w w'->(qw p->lD (BG a (wordAt p.data 0:Int))->lD (BG b (wordAt p.data 2:Int))->p.data.length<=60000->e=0/\iq w' r (Ih sa da (BG a (wordAt p.data 0:Int)) (BG b (wordAt p.data 2:Int)) false (p.data.drop 8))/\∀x,fU.at r x->w.heap.size<=x)->K r e w'):
  JR υ v "goosepond/ports.build" (BK sa da) [.one .slice,.one ν] w K:=by
 cases hf with
 |dat a0 a1 a2 a3 hv hb hg=>
  subst hv;rw[ahJ];apply DL;refine gq λg w1 r1 e1 z1 f1=> ?_;refine Ld_i 0 a0 r1 (Ld_i 1 a1 r1 (Ld_b 2 a2 r1 (Ld_s 3 a3 r1 ?_)));obtain⟨L,h1,h2⟩:=hb;refine cmS3 (ac9 sa da a0 a1 a2 (h1.ext f1) h2) ?_;rintro r e w2 ⟨f2,hu⟩;refine hK r e w2 (f1.trans f2) λg k0 k1 hl=> ?_;obtain⟨rfl,rfl,rfl,g3⟩:=hg g;have hL:=h1.unique g3;subst hL;obtain⟨q1,q2,q3⟩:=hu k0 k1 (by simp;omega);exact⟨q1,q2,λx hx=>by have:=q3 x hx;have:=f1.size;omega⟩
 |seg a0 a1 a2 a3 a4 a5 a6 a7 a8 a9 h hv hb8 hb9=>
  subst hv;rw[ahN];apply ER;refine gq λg w1 r1 e1 z1 f1=> ?_;refine ZY r1 ?_;refine cmS3 (ac6 sa da _ _ _ _ _ _ _ _ (hb8.ext f1) (hb9.ext f1)) ?_;intro r e w2 f2;exact hK r e w2 (f1.trans f2) λg=>by have:=g.1;omega
 |que a0 a1 a2 a3 h hv hb=>
  subst hv;rw[ahL];apply Ho;refine gq λg w1 r1 e1 z1 f1=> ?_;refine V5 (K:=λx0 x1 x2 x3 W=>_) r1 ?_;obtain⟨L,h1,h2⟩:=hb;refine cmS3 (VR ⟨a0,a1,a2,L⟩ (h1.ext f1)) ?_;rintro r e w2 ⟨_,_,f2,_,_⟩;exact hK r e w2 (f1.trans f2) λg=>by have:=g.1;omega
end
end Go.Proofs.AN
end
section
namespace Go.Proofs.AN
open Gp Gp.V4 Go.Proofs Go.Proofs.VN
open Gp.Bind (In64)
section
variable {w0 w w':θ}
theorem IW (l:List UInt8) (i:Nat):lD (wordAt l i:Int):=by
 have:=DW l i;constructor<;>omega
theorem Form.fr {p:jG} {v:Value} (h:Form w p v) {S:Nat->Prop} (hf:gW w w' S) {b:Nat} {vs:List Value} (hr:Row w b vs) (hv:∀v∈vs,∀n,v≠.int .u8 n) (hS:∀y,S y->y=b):Form w' p v:=by
 cases h with
 |dat a0 a1 a2 a3 h hv' i0 i1 hb hg=>
  refine .dat a0 a1 a2 a3 h hv' i0 i1 (hb.fr hf hr hv hS) λg=> ?_;obtain⟨g0,g1,g2,g3⟩:=hg g;exact⟨g0,g1,g2,g3.fr hf λad ha h0 e=>jg hr hv g3 ha h0 (hS _ e)⟩
 |seg a0 a1 a2 a3 a4 a5 a6 a7 a8 a9 h hv' i0 i1 hb8 hb9=>exact .seg a0 a1 a2 a3 a4 a5 a6 a7 a8 a9 h hv' i0 i1 (hb8.fr hf hr hv hS) (hb9.fr hf hr hv hS)
 |que a0 a1 a2 a3 h hv' hb=>exact .que a0 a1 a2 a3 h hv' (hb.fr hf hr hv hS)
structure PkR (w:θ) (q:jG) (x0 x1 x2 x3 x4 x5 x6:Int) (x7 x8:Bool) (x9 x10:fU):Prop where
 f:x0=q.tos/\x1=q.id/\x2=q.off/\x3=q.ttl/\x4=q.proto/\x5=q.src/\x6=q.dst/\x7=q.df/\x8=q.mf
 o:iq w x9 q.opts
 d:iq w x10 q.data
def Xy (p:jG) (sa da po qo:Int):jG:={p with src:=sa,dst:=da,data:=Ih sa da (BG po (wordAt p.data 0:Int)) (BG qo (wordAt p.data 2:Int)) false (p.data.drop 8)}
structure ahk (n:Nat) (w:θ) (p:jG) (sa da po qo:Int) (x0 x1 x2 x3 x4 x5 x6:Int) (x7 x8:Bool) (x9 x10:fU) (e:Int):Prop where
 e:e=0
 pk:PkR w (Xy p sa da po qo) x0 x1 x2 x3 x4 x5 x6 x7 x8 x9 x10
 new:∀x,fU.at x10 x->n<=x
def adv (p:jG) (sa da po qo:Int):Prop:=qw p/\(kD sa/\kD da)/\(-1<=po/\po<=65535/\ -1<=qo/\qo<=65535/\(0<=po\/0<=qo))/\p.data.length<=60000
theorem abr {t o:Int} (h: -1<=t/\t<=65535) (ho:lD o):lD (BG t o):=by
 unfold BG;split
 ·exact ho
 ·exact⟨by omega,by omega⟩
theorem Zg (p:jG) {o d:fU} (ho:iq w o p.opts) (hd:iq w d p.data) (h1:p.opts.length<=2^40) (h2:p.data.length<=2^40) (sa da po qo:Int)
  {K:Int->Int->Int->Int->Int->Int->Int->Bool->Bool->fU->fU->Int->b_}
  (hK:∀x0 x1 x2 x3 x4 x5 x6 x7 x8 x9 af e w',Ext w w'->(adv p sa da po qo->ahk w.heap.size w' p sa da po qo x0 x1 x2 x3 x4 x5 x6 x7 x8 x9 af e)->K x0 x1 x2 x3 x4 x5 x6 x7 x8 x9 af e w'):
  xw p.tos p.id p.off p.ttl p.proto p.src p.dst p.df p.mf o d sa da po qo w K:=by
 apply Td;refine gq λa w3 r3 e3 z3 f3=> ?_;refine gq λb w4 r4 e4 z4 f4=> ?_;refine gq λc w5 r5 e5 z5 f5=> ?_;refine gq λg w6 r6 e6 z6 f6=> ?_;have zc:=f3.size;have zd:=f4.size;have ze:=f5.size;have zf:=f6.size;have x6:Ext w w6:=((f3.trans f4).trans f5).trans f6;have ag:=((r3.ext f4).ext f5).ext f6;have av:=(r4.ext f5).ext f6;have aw:=r5.ext f6;refine jF ag ?_;refine Lm p (ho.ext x6) (hd.ext x6) h1 h2 λv e w7 f7 hF hG=> ?_;have x7:=x6.trans f7;have ah:=ag.ext f7;have N:=av.ext f7;have O:=aw.ext f7;have ai:=r6.ext f7;have z7:=f7.size;have bad:∀(W:θ) (e:Int),Ext w7 W->¬adv p sa da po qo->iw ξ W ⟨g,0,none⟩ 0 λaj=>ig aj ⟨g,0,none⟩ λy0 y1 y2 y3 y4 y5 y6 y7 y8 y9 ax=>K y0 y1 y2 y3 y4 y5 y6 y7 y8 y9 ax e aj:=by
  intro W e hW hn;refine StN_f (ai.ext hW) λw8 r8 f8 z8=> ?_;refine jF r8 ?_;exact hK _ _ _ _ _ _ _ _ _ _ _ e w8 ((x7.trans hW).nw f8) λh=>absurd h hn
 by_cases he:e=0;rotate_left
 ·have:(e !=0)=true:=by rw[bne_iff_ne];exact he
  rw[this,cond_true];exact bad w7 e (Ext.refl _) λhh=>he (hG hh.1)
 subst he;show cond false _ _;rw[cond_false];have hF7:=hF rfl;refine⟨by omega,by omega,?_⟩;refine Ld_i 0 po O ⟨by omega,by omega,?_⟩;refine Ld_i 1 qo O ?_;intro J;have R:∀(W:θ),Ext w7 W->¬adv p sa da po qo->J true W:=λW hW hn=>bad W 1 hW hn;have ay:∀(W:θ),Ext w7 W->J false W:=by
  intro W hW;show cond false _ _;rw[cond_false];have hd':=hW.trans (Ext.drew W);have U:=N.ext hd';have az:=ah.ext hd';have z8:=hd'.size;refine⟨by omega,by omega,Ld_i 0 sa U ⟨by omega,by omega,Ld_i 1 da U ?_⟩⟩;refine g_ (i:=5) az rfl (by simp) λw8 r8 f8' z8'=> ?_;have f8:gW W.drew w8 (·=a):=f8' _ rfl;have y8:Ext w w8:=(x7.trans hd').nw f8;refine⟨by rw[gy,((U.fr f8 (by omega))).cell];rfl,?_⟩;refine g_ (i:=6) r8 rfl (by simp) λw9 r9 f9' z9'=> ?_;have f9:gW w8 w9 (·=a):=f9' _ rfl;have y9:Ext w w9:=y8.nw f9;simp only[List.set_cons_succ,List.set_cons_zero] at r9;refine Ld_s 9 o r9 ?_;refine cmS2 (kC (ho.ext y9) (by omega)) ?_;rintro oc ak ⟨aA,_,f10,_⟩;have am:=r9.ext f10;refine g_ (i:=9) am rfl (by simp) λu an Y z11=> ?_;have f11:gW ak u (·=a):=Y _ rfl;have aB:Ext w u:=(y9.trans f10).nw f11;simp only[List.set_cons_succ,List.set_cons_zero] at an;have y11d:=aB.trans (Ext.drew u);have r11d:=an.drew;have I:gW w7 u.drew (·=a):=((((hd'.fr f8).trans f9 λ_ _ h=>h).ext f10).trans f11 λ_ _ h=>h).ext (Ext.drew u);have r511:=O.fr I (by omega);have hF11:=hF7.fr I ah (by simp) λy hy=>hy;have r611:=ai.fr I (by omega);refine⟨by omega,by omega,Ld_i 0 po r511 ⟨by omega,by omega,Ld_i 1 qo r511 ?_⟩⟩;refine Ld_i 5 sa r11d (Ld_i 6 da r11d ?_);refine acj hF11 po qo λv' w12 f12 hF2=> ?_;have Z:=r11d.ext f12;refine⟨by rw[gy,Z.cell];rfl,by rw[gy,Z.cell];rfl,?_⟩;refine ϴ hF2 sa da λr e aC f13 hB=> ?_;have aa:=Z.ext f13;refine g_ (i:=10) aa rfl (by simp) λao aq ac z14=> ?_;have f14:gW aC ao (·=a):=ac _ rfl;simp only[List.set_cons_succ,List.set_cons_zero] at aq;have aD:Ext w ao:=((y11d.trans f12).trans f13).nw f14;refine jF aq ?_;have zz:=f12.size;have zy:=f13.size;have r614:=((r611.ext f12).ext f13).fr f14 (by omega);refine StN_f r614 λaE aF f15 z15=> ?_;refine jF aF ?_;refine hK _ _ _ _ _ _ _ _ _ _ _ e aE (aD.nw f15) λhm=> ?_;obtain⟨hg,_,⟨m1,m2,m3,m4,_⟩,hl⟩:=hm;obtain⟨q1,q2,qn⟩:=hB hg (abr ⟨m1,m2⟩ (IW _ _)) (abr ⟨m3,m4⟩ (IW _ _)) hl;have bo:iq ak oc p.opts:=iq.iD aA;have b1:=bo.fr f11 λad ha h0 e=>jg am (by simp) bo ha h0 e;have b2:=((b1.ext (Ext.drew u)).ext f12).ext f13;have b3:=b2.fr f14 λad ha h0 e=>jg aa (by simp) b2 ha h0 e;refine⟨q1,⟨⟨rfl,rfl,rfl,rfl,rfl,rfl,rfl,rfl,rfl⟩,b3.fr f15 λad ha h0 e=>jg r614 (by simp) b3 ha h0 e,?_⟩,λx hx=>by have:=qn x hx;have:=I.size;omega⟩;have q3:=q2.fr f14 λad ha h0 e=>jg aa (by simp) q2 ha h0 e;exact q3.fr f15 λad ha h0 e=>jg r614 (by simp) q3 ha h0 e
 clear_value J;refine⟨by omega,by omega,Ld_i 0 sa N ?_⟩;refine cmS0 (Ak sa w7) ?_;rintro q w8 ⟨rfl,hw⟩;subst hw;by_cases k1:kD sa;rotate_left
 ·rw[decide_eq_false k1,Bool.not_false,cond_true];exact R _ (Ext.refl _) λhh=>k1 hh.2.1.1
 rw[decide_eq_true k1,Bool.not_true,cond_false];refine⟨by omega,by omega,Ld_i 1 da N ?_⟩;refine cmS0 (Ak da _) ?_;rintro q w8 ⟨rfl,hw⟩;subst hw;by_cases k2:kD da;rotate_left
 ·rw[decide_eq_false k2,Bool.not_false,cond_true];exact R _ (Ext.refl _) λhh=>k2 hh.2.1.2
 rw[decide_eq_true k2,Bool.not_true,cond_false];refine cmS0 (mO _ 2 _) ?_;rintro q w8 ⟨hq,hw⟩;subst hw
 cases q
 ·refine R _ (Ext.refl _) λhh=>of_decide_eq_false hq.symm ?_;obtain⟨_,_,⟨m1,m2,m3,m4,m5⟩,_⟩:=hh;have ar:∀x:Int,(x=po\/x=qo)->0<=x->iK x 2:=λx hx h0=>⟨by decide,h0,by show x<65536;omega⟩;by_cases au:qo>po
  ·rw[if_pos au];exact ar _ (.inr rfl) (by omega)
  ·rw[if_neg au];exact ar _ (.inl rfl) (by omega)
 exact ay _ (Ext.refl _)
theorem afY (p:jG) {o d:fU} (ho:iq w o p.opts) (hd:iq w d p.data) (h1:p.opts.length<=2^40) (h2:p.data.length<=2^40) (ad po:Int)
  {K:Int->Int->Int->Int->Int->Int->Int->Bool->Bool->fU->fU->Int->b_}
  (hK:∀x0 x1 x2 x3 x4 x5 x6 x7 x8 x9 u e w',Ext w w'->(adv p ad p.dst po (-1)->ahk w.heap.size w' p ad p.dst po (-1) x0 x1 x2 x3 x4 x5 x6 x7 x8 x9 u e)->K x0 x1 x2 x3 x4 x5 x6 x7 x8 x9 u e w'):
  Em p.tos p.id p.off p.ttl p.proto p.src p.dst p.df p.mf o d ad po w K:=by
 apply U1;refine gq λg0 w1 r1 e1 z1 f1=> ?_;refine gq λg1 w2 r2 e2 z2 f2=> ?_;have x2:=f1.trans f2;have I:=r1.ext f2;have za:=f1.size;have zb:=f2.size;refine jF I (Ld_i 6 p.dst I ?_);refine Zg p (ho.ext x2) (hd.ext x2) h1 h2 _ _ _ _ λy0 y1 y2 y3 y4 y5 y6 y7 y8 y9 y10 e W hW hR=> ?_;refine StN_f (r2.ext hW) λw4 r4 f4 z4=> ?_;refine jF r4 ?_;refine hK _ _ _ _ _ _ _ _ _ _ _ e w4 ((x2.trans hW).nw f4) λhm=> ?_;obtain⟨q1,⟨q2,b3,q3⟩,q4⟩:=hR hm;exact⟨q1,⟨q2,b3.fr f4 λad ha h0 e=>jg (r2.ext hW) (by simp) b3 ha h0 e,q3.fr f4 λad ha h0 e=>jg (r2.ext hW) (by simp) q3 ha h0 e⟩,λx hx=>by have:=q4 x hx;omega⟩
end
end Go.Proofs.AN
end
