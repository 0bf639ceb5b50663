import Derived.Test.YtcmnjlhbgjhbcaaGreatDoorW1
import Derived.Scope
import Derived.ProofKit
import Derived.OpenShut
import Derived.ChangeOld
import Derived.Below
import Derived.Deep.Slices
open List (flatMap_cons length_append length_take map_cons)
open Nat (add_mul blt_eq)
open Option (getD_some map_some)
open Array (getElem?_modify getElem?_push)
open Bool (and_eq_true or_eq_false_iff)
section
namespace Gp
open Go
def writes:Code->List Nat
 | .region _ ops _=>KU ops.toList
 | .seq a b=>writes a++writes b
 | .cond _ a b=>writes a++writes b
 | .block _ a=>writes a
 | .loop a=>writes a
 | .scope a=>writes a
 |_=>[]
def jH:Code->Bool
 | .seq a b=>jH a||jH b
 | .cond _ a b=>jH a||jH b
 | .block _ a=>jH a
 | .loop a=>jH a
 | .scope a=>jH a
 | .rangeFunc _ _ _ _=>true
 |_=>false
@[reducible] def J6:List (Nat×Kind)->Type
 |[]=>Unit
 |(_,k)::r=>k.T×J6 r
def encS:(st:List (Nat×Kind))->J6 st->Env
 |[],_=>[]
 |(s,k)::r,x=>(s,k.enc x.1)::encS r x.2
def TY:(st:List (Nat×Kind))->Env->(J6 st->Prop)->Prop
 |[],_,φ=>φ ()
 |(s,k)::r,env,φ=>match env.get s with
  |some v=>k.dec v λx=>TY r env λy=>φ (x,y)
  |none=>False
def without (ws:List Nat):Env->Env
 |[]=>[]
 |(s,v)::r=>cond (vZ s ws) (without ws r) ((s,v)::without ws r)
def iQ {S:Type} (body:S->World->(S->b_)->Prop) (s:S) (w:World):Prop:=
 ∃I:Nat->S->b_,(∃n,I n s w)/\∀n s w,I n s w->body s w λs' w'=>∃m,m<n/\I m s' w'
@[reducible] def ZV:List Kind->Type
 |[]=>Unit
 |k::r=>k.T×ZV r
def QA:(ks:List Kind)->ZV ks->List Value
 |[],_=>[]
 |k::r,x=>k.enc x.1::QA r x.2
def KY:List Nat->List Value->Env
 |[],_=>[]
 |_::_,[]=>[]
 |s::r,v::vs=>(s,v)::KY r vs
@[reducible] def ShT:Shape->Type
 | .one k=>k.T
 | .agg ks=>ZV ks
def abT:(s:Shape)->ShT s->Value
 | .one k,x=>k.enc x
 | .agg ks,x=> .agg ⟨QA ks x⟩
@[reducible] def zM:List Shape->Type
 |[]=>Unit
 |s::r=>ShT s×zM r
def encR:(ks:List Shape)->zM ks->List Value
 |[],_=>[]
 |s::r,x=>abT s x.1::encR r x.2
inductive JSh where
 |sh (s:Shape)
 |addr
 |kW (ks:List Kind)
@[reducible] def JT:JSh->Type
 | .sh s=>ShT s
 | .addr=>Addr
 | .kW ks=>ZV ks
def abR:(s:JSh)->JT s->Value
 | .sh s,x=>abT s x
 | .addr,a=> .pointer (some a)
 | .kW ks,x=> .tuple ⟨QA ks x⟩
def aeN:(ks:List Kind)->List Value->(ZV ks->Prop)->Prop
 |[],[],φ=>φ ()
 |k::r,v::vs,φ=>k.dec v λx=>aeN r vs λy=>φ (x,y)
 |_,_,_=>False
def amL:(s:JSh)->Value->(JT s->Prop)->Prop
 | .sh (.one k),v,φ=>k.dec v φ
 | .sh (.agg ks),.agg cs,φ=>aeN ks cs.toList φ
 | .addr,.pointer (some a),φ=>φ a
 | .kW ks,.tuple cs,φ=>aeN ks cs.toList φ
 |_,_,_=>False
@[reducible] def acz:List (Nat×JSh)->Type
 |[]=>Unit
 |(_,s)::r=>JT s×acz r
def ac1:(st:List (Nat×JSh))->acz st->Env
 |[],_=>[]
 |(t,s)::r,x=>(t,abR s x.1)::ac1 r x.2
def aff:(st:List (Nat×JSh))->Env->(acz st->Prop)->Prop
 |[],_,φ=>φ ()
 |(t,s)::r,env,φ=>match env.get t with
  |some v=>amL s v λx=>aff r env λy=>φ (x,y)
  |none=>False
def aby {S:Type} (body:S->Prop) (k:(S->Prop)->Prop):Prop:=k body
inductive CY where
 |leaf
 |seq (a b:CY)
 |join (st:List (Nat×JSh)) (a b:CY)
 |cond (a b:CY)
 |blk (a:CY)
 |loop (st:List (Nat×Kind)) (a:CY)
 |rng (ks:List Shape) (a b:CY)
def gZ (w:World) (l:Nat) (st:LoopState) (p:Option Code):World:=
 {w with heap:=w.heap.modify l fun| .loop lp=> .loop {lp with state:=st,pending:=p}|o=>o}
def fF (w:World) (l:Nat):World:=
 {w with heap:=w.heap.modify l fun| .loop lp=> .loop {lp with state:= .busy}|o=>o}
def vM:Exit->Bool
 | .normal=>true
 |_=>false
def yM:Exit->Option (Option Code)
 | .normal=>some none
 | .ret=>some (some .ret)
 | .exit id=>some (some (.exit id))
 |_=>none
structure akd (P:Program) (r:Option Nat) (w:World) (ks:List Shape) (bodyS:Nat->zM ks->World->(Exit->b_)->Prop)
  (l:Nat) (L:LoopState->Option Code->b_) (w1:World):Prop where
 at_:l=if r.isNone then w.heap.size+1 else w.heap.size
 size:w1.heap.size=l+1
 old:∀b,b<w.heap.size->w1.heap[b]? =w.heap[b]?
 io:w1.os=w.os/\w1.tape=w.tape/\w1.output=w.output
 marks:r=none->w1.heap[w.heap.size]? =some (.deferred (some []))
 ready:L .ready none w1
 frame:∀st p W W',L st p W->W'.heap[l]? =W.heap[l]? ->L st p W'
 set:∀st p st' p' W,L st p W->L st' p' (gZ W l st' p')
 busy:∀p W,L .ready p W->L .busy p (fF W l)
 isLoop:∀st p W,L st p W->∃lp,W.heap[l]? =some (.loop lp)
 yield:∀(x:zM ks) (W:World) (p:Option Code) (R:Bool->b_),L .ready p W->
  bodyS l x W (λe W'=>L .busy p W'/\∃j,yM e=some j/\R (vM e) (gZ W' l (if vM e then .ready else .done) j))->BZ P l (encR ks x) W R
def pX:Code->List Nat
 | .exit id=>[id]
 | .seq a b=>pX a++pX b
 | .cond _ a b=>pX a++pX b
 | .block _ a=>pX a
 | .loop a=>pX a
 | .scope a=>pX a
 | .rangeFunc _ _ _ b=>pX b
 |_=>[]
def Lh (id:Nat):List (Nat×(b_))->b_
 |[],_=>False
 |(i,K)::r,w=>cond (Nat.beq i id) (K w) (Lh id r w)
def ab2 (Kn Kr:b_) (Kx:List (Nat×(b_))) (p:Option Code) (w:World):Prop:=
 match p with
 |none=>Kn w
 |some .ret=>Kr w
 |some (.exit id)=>Lh id Kx w
 |_=>False
def Ez (P:Program) (r:Option Nat) (ks:List Shape) (vf:Value) (w:World) (bodyS:Nat->zM ks->World->(Exit->b_)->Prop)
  (Kn Kr:b_) (Kx:List (Nat×(b_))):Prop:=
 (∀l₀,r=some l₀->∃lp,w.heap[l₀]? =some (.loop lp))/\
 match vf with
 | .func (.func f) first cap=>jZ P f=true/\∀l L w1,akd P r w ks bodyS l L w1->
   EM P [] f (first.toList++(Value.func (.yield l) #[] #[]::cap.toList)) w1 λ_ w2=>∃st p,L st p w2/\st≠.busy/\ab2 Kn Kr Kx p (gZ w2 l .exhausted p)
 |_=>False
def den (P:Program) (nt:Nat):Code->Option Nat->CY->Env->List Nat->World->(Exit->Env->List Nat->b_)->Prop
 | .skip,_,_,env,ds,w,K=>K .normal env ds w
 | .label _,_,_,env,ds,w,K=>K .normal env ds w
 | .ret,_,_,env,ds,w,K=>K .ret env ds w
 | .exit id,_,_,env,ds,w,K=>K (.exit id) env ds w
 | .region _ ops draw,_,_,env,ds,w,K=>cond draw (KT P nt ops.toList env w λenv' w'=>K .normal env' ds w') (RU P nt ops.toList 0 ops.toList env w λenv' w'=>K .normal env' ds w')
 | .seq a b,r,an,env,ds,w,K=>match an with
  | .seq x y=>den P nt a r x env ds w λe env' ds' w'=>match e with
   | .normal=>den P nt b r y env' ds' w' K
   |e=>K e env' ds' w'
  | .join st x y=>cond (jH a)
   (aby (S:=acz st×List Nat×World) (λs=>den P nt b r y (ac1 st s.1++without (writes a) env) s.2.1 s.2.2 K) λJ=>den P nt a r x env ds w λe env' ds' w'=>match e with
    | .normal=>aff st env' λs'=>J (s',ds',w')
    |e=>K e env' ds' w')
   (aby (S:=acz st×World) (λs=>den P nt b r y (ac1 st s.1++without (writes a) env) ds s.2 K) λJ=>den P nt a r x env ds w λe env' ds' w'=>match e with
    | .normal=>aff st env' λs'=>J (s',w')
    |e=>K e env' ds' w')
  |_=>False
 | .cond c a b,r,an,env,ds,w,K=>match an with
  | .cond x y=>match evO env c with
   |some (.bool t)=>cond t (den P nt a r x env ds w K) (den P nt b r y env ds w K)
   |_=>False
  |_=>False
 | .block id a,r,an,env,ds,w,K=>match an with
  | .blk x=>den P nt a r x env ds w λe env' ds' w'=>match e with
   | .exit id'=>cond (Nat.beq id' id) (K .normal env' ds' w') (K (.exit id') env' ds' w')
   |e=>K e env' ds' w'
  |_=>False
 | .scope a,r,an,env,ds,w,K=>den P nt a r an env ds w λe env' ds' w'=>match e with
  | .goto _=>False
  |e=>K e env' ds' w'
 | .loop a,r,an,env,ds,w,K=>match an with
  | .loop st x=>cond (jH a)
   (TY st env λs0=>iQ (S:=J6 st×List Nat) (λs w next=>den P nt a r x (encS st s.1++without (writes a) env) s.2 w λe env' ds' w'=>match e with
    | .normal=>TY st env' λs'=>next (s',ds') w'
    |e=>K e env' ds' w') (s0,ds) w)
   (TY st env λs0=>iQ (S:=J6 st) (λs w next=>den P nt a r x (encS st s++without (writes a) env) ds w λe env' ds' w'=>match e with
    | .normal=>TY st env' λs'=>next s' w'
    |e=>K e env' ds' w') s0 w)
  |_=>False
 | .rangeFunc g ps assign body,r,an,env,ds,w,K=>match an with
  | .rng ks x y=>cond (!jH assign && (Nat.beq ps.toList.length ks.length && (Ew ps.toList && ps.toList.all λs=>Nat.blt s nt))) (Ez P r ks (ev env g) w
   (λl x' W Kb=>den P nt assign (some l) x (KY ps.toList (encR ks x')++env) [] W λe env1 _ W1=>match e with
    | .normal=>W1.heap[l]? =W.heap[l]? /\den P nt body (some l) y env1 [] (fF W1 l) λe _ _ W2=>Kb e W2
    |_=>False)
   (λw'=>K .normal env (cond r.isNone (w.heap.size::ds) ds) w') (λw'=>K .ret env (cond r.isNone (w.heap.size::ds) ds) w')
   ((pX body).map λid=>(id,λw'=>K (.exit id) env (cond r.isNone (w.heap.size::ds) ds) w'))) False
  |_=>False
 |_,_,_,_,_,_,_=>False
end Gp
end
section
namespace Gp
open Go
def mkD (ds:List Nat):List Deferred:=ds.map λD=>{target:= .collected D,args:= #[]}
theorem GI {k:Kind} {v:Value} {φ:k.T->Prop} (h:k.dec v φ):∃x,v=k.enc x/\φ x:=by
 cases k<;>cases v<;>first
  |exact h.elim
  |exact⟨_,rfl,h⟩
  |skip
 case int.int k k' n=>
  simp only[Kind.dec] at h
  cases hb:Dq k k' with
  |false=>rw[hb] at h;exact h.elim
  |true=>
   rw[hb] at h;have:=BK hb;subst this;exact⟨n,rfl,h⟩
theorem get_append (A B:Env) (s:Nat):Env.get (A++B) s=match Env.get A s with|some v=>some v|none=>Env.get B s:=by
 induction A with
 |nil=>rfl
 |cons x A ih=>
  obtain⟨t,v⟩:=x;rw[List.cons_append,jg,jg];by_cases h:t=s
  ·simp[h]
  ·simp[h,ih]
theorem mW (ws:List Nat) (env:Env) (s:Nat):Env.get (without ws env) s=if s∈ws then none else Env.get env s:=by
 induction env with
 |nil=>simp[without,Env.get]
 |cons x env ih=>
  obtain⟨t,v⟩:=x;simp only[without]
  cases hb:vZ t ws with
  |true=>
   have ht:=kS.1 hb;simp only[cond_true,ih,jg];by_cases h:t=s
   ·subst h;simp[ht]
   ·simp[h]
  |false=>
   have ht:t∉ws:=λhm=>by rw[kS.2 hm] at hb;cases hb
   simp only[cond_false,jg,ih];by_cases h:t=s
   ·subst h;simp[ht]
   ·simp[h]
theorem GL:∀(st:List (Nat×Kind)) (env:Env) (φ:J6 st->Prop),TY st env φ->∃x,φ x/\∀t v,Env.get (encS st x) t=some v->env.get t=some v:=by
 intro st
 induction st with
 |nil=>exact λenv φ h=>⟨(),h,λt v hv=>by simp[encS,Env.get] at hv⟩
 |cons p st ih=>
  obtain⟨s,k⟩:=p;intro env φ h;simp only[TY] at h
  cases hg:env.get s with
  |none=>simp only[hg] at h
  |some v=>
   simp only[hg] at h;obtain⟨x,hx,h⟩:=GI h;obtain⟨y,hy,h2⟩:=ih env _ h;refine⟨(x,y),hy,λt u hu=> ?_⟩;simp only[encS,jg] at hu;by_cases e:s=t
   ·subst e;simp at hu;rw[<- hu,hg,hx]
   ·rw[if_neg e] at hu;exact h2 t u hu
theorem UR:∀(ks:List Kind) (vs:List Value) (φ:ZV ks->Prop),aeN ks vs φ->∃x,vs=QA ks x/\φ x:=by
 intro ks
 induction ks with
 |nil=>exact λvs φ h=>match vs,h with|[],h=>⟨(),rfl,h⟩
 |cons k ks ih=>
  intro vs φ h
  cases vs with
  |nil=>exact h.elim
  |cons v vs=>
   simp only[aeN] at h;obtain⟨x,hx,h⟩:=GI h;obtain⟨y,hy,h⟩:=ih _ _ h;exact⟨(x,y),by rw[QA,hx,hy],h⟩
theorem acY {s:JSh} {v:Value} {φ:JT s->Prop} (h:amL s v φ):∃x,v=abR s x/\φ x:=by
 cases s with
 |sh s=>cases s with
  |one k=>exact GI h
  |agg ks=>cases v<;>first
   |exact h.elim
   |(obtain⟨x,hx,h⟩:=UR _ _ _ h
     refine⟨x,?_,h⟩;simp only[abR,abT,<- hx])
 |addr=>cases v<;>first
   |exact h.elim
   |(rename_i q;cases q with
     |none=>exact h.elim
     |some a=>exact⟨a,rfl,h⟩)
 |kW ks=>cases v<;>first
   |exact h.elim
   |(obtain⟨x,hx,h⟩:=UR _ _ _ h
     refine⟨x,?_,h⟩;simp only[abR,<- hx])
theorem U4:∀(st:List (Nat×JSh)) (env:Env) (φ:acz st->Prop),aff st env φ->∃x,φ x/\∀t v,Env.get (ac1 st x) t=some v->env.get t=some v:=by
 intro st
 induction st with
 |nil=>exact λenv φ h=>⟨(),h,λt v hv=>by simp[ac1,Env.get] at hv⟩
 |cons p st ih=>
  obtain⟨s,k⟩:=p;intro env φ h;simp only[aff] at h
  cases hg:env.get s with
  |none=>simp only[hg] at h
  |some v=>
   simp only[hg] at h;obtain⟨x,hx,h⟩:=acY h;obtain⟨y,hy,h2⟩:=ih env _ h;refine⟨(x,y),hy,λt u hu=> ?_⟩;simp only[ac1,jg] at hu;by_cases e:s=t
   ·subst e;simp at hu;rw[<- hu,hg,hx]
   ·rw[if_neg e] at hu;exact h2 t u hu
theorem least (p:Nat->Prop) (h:∃n,p n):∃n,p n/\∀m,p m->n<=m:=by
 obtain⟨n,hn⟩:=h
 induction n using Nat.strongRecOn with
 |_ n ih=>
  by_cases hx:∃m,m<n/\p m
  ·obtain⟨m,hm,hp⟩:=hx;exact ih m hm hp
  ·exact⟨n,hn,λm hm=>Nat.le_of_not_lt λj=>hx ⟨m,j,hm⟩⟩
theorem wpIn_loop_ghost {F:Fence} {n:Nat} {P:Program} {c:Code} {Q:Exit->Act->b_} {a:Act} {w:World} (I:Nat->Act->b_) (h₀:∃m,I m a w)
  (round:∀m a w,I m a w->c.wpIn F n P (Exit.then (λa' w'=>∃m',m'<m/\I m' a' w') Q) a w):(Code.loop c).wpIn F n P Q a w:=by
 have hl:∀a w,(∃m,I m a w)->∃m,I m a w/\∀k,I k a w->m<=k:=λa w h=>least (λm=>I m a w) h;refine wpIn_loop (λa w=>∃m,I m a w) (λa w=> @dite Nat (∃m,I m a w) (Classical.propDecidable _) (λh=>Classical.choose (hl a w h)) (λ_=>0)) h₀ ?_;intro a w h;obtain⟨hI,hmin⟩:=Classical.choose_spec (hl a w h);refine wpIn_mono (round _ a w hI) λe a' w' hq=> ?_
 cases e<;>first|exact hq|skip
 obtain⟨m',hlt,hI'⟩:=hq;refine⟨⟨m',hI'⟩,?_⟩;have h':∃m,I m a' w':=⟨m',hI'⟩;obtain⟨_,j⟩:=Classical.choose_spec (hl a' w' h');simp only[dif_pos h,dif_pos h'];have:=j m' hI';omega
section
variable {P:Program} {F:Fence} {n:Nat} {b:Frame} {a:Act} {k:List Item} {cs:List Frame} {w:World} {Q:Exit->Act->b_}
theorem uM {c:Code}:step P (lone (b.atR a (.code (.scope c)::k)) cs w)= .next (lone (b.atR a (.code c:: .inScope c::k)) cs w):=
 step_lone_go (by simp[stepG,stepG.exec,Frame.atR])
theorem Uz {c:Code}:step P (lone (b.atR a (.inScope c::k)) cs w)= .next (lone (b.atR a k) cs w):=
 step_lone_go (by simp[stepG,stepG.exec,Frame.atR])
theorem Io {c:Code} (h:c.wpIn F n P (Exit.noGoto Q) a w):(Code.scope c).wpIn F n P Q a w:=by
 intro b k cs u hb hr;have h0:(lone (b.atR a (.code (.scope c)::k)) cs w).fenced P F:=fenced_calm hb hr rfl;obtain⟨e,a₁,w₁,hq,j⟩:=h b (.inScope c::k) cs u hb hr
 cases e with
 |normal=>exact⟨.normal,a₁,w₁,hq,.head h0 uM (StepsIn.trans j (.one (fenced_calm hb hr rfl) Uz))⟩
 |exit id=>
  have hx:exitTo id (.inScope c::k)=exitTo id k:=by simp[exitTo]
  exact⟨.exit id,a₁,w₁,hq,λk' hk=> .head h0 uM (j.1 k' (by rw[hx];exact hk)),
   λhr' hk=>let ⟨k₁,h1,h2⟩:=j.2 hr' (by rw[hx];exact hk);⟨k₁,h1,.head h0 uM h2⟩⟩
 |goto l=>exact hq.elim
 |ret=>exact⟨_,a₁,w₁,hq,.of_steps (.one h0 uM) j⟩
 |panic ch=>exact⟨_,a₁,w₁,hq,.of_steps (.one h0 uM) j⟩
 |outgrown=>exact⟨_,a₁,w₁,hq,.of_steps (.one h0 uM) j⟩
end
theorem YA {env:Env} {a:Act} (ha:Agr env a) {c:Operand} {v:Value} (h:evO env c=some v):a.eval c=v:=by
 have:=amP ha (x:=c) (by rw[h];rfl);rw[<- this,ev,h];rfl
section
variable {P:Program}
theorem Og (w:World) (l:Nat) (f:Obj->Obj) (b:Nat):(w.heap.modify l f)[b]? =if l=b then (w.heap[b]?).map f else w.heap[b]? :=by
 rw[getElem?_modify]
theorem abf {w:World} {l:Nat} {lp:Loop} (h:w.heap[l]? =some (.loop lp)) (st:LoopState) (p:Option Code):(gZ w l st p).heap[l]? =some (.loop {lp with state:=st,pending:=p}):=by
 simp only[gZ,Og,if_true,h,map_some]
theorem aeA {w:World} {l:Nat} {lp:Loop} (h:w.heap[l]? =some (.loop lp)):(fF w l).heap[l]? =some (.loop {lp with state:= .busy}):=by
 simp only[fF,Og,if_true,h,map_some]
theorem CU {w:World} {l:Nat} {o:Obj} (h:w.heap[l]? =some o) (f:Obj->Obj):w.heap.setIfInBounds l (f o)=w.heap.modify l f:=by
 apply Array.ext_getElem?;intro i;have hl:=(Array.getElem?_eq_some_iff.1 h).1;rw[Array.getElem?_setIfInBounds,getElem?_modify];by_cases e:l=i
 ·subst e;have h2:w.heap[l]=o:=by have:=Array.getElem?_eq_getElem hl;rw[h] at this;exact(Option.some.inj this).symm
  simp[hl,h2]
 ·simp[e]
theorem run_getLoop {w:World} {l:Nat} {lp:Loop} (h:w.heap[l]? =some (.loop lp)):(Instr.getLoop l).run P w= .ok lp w:=by
 simp[Instr.getLoop,getObj,Sem.run,h]
theorem JR {w:World} {l:Nat} {lp:Loop} {o:Obj} (h:w.heap[l]? =some (.loop lp)):(setObj l o).run P w= .ok () {w with heap:=w.heap.setIfInBounds l o}:=by
 simp[setObj,Sem.run,h]
theorem run_beginRound {w:World} {l:Nat} {lp:Loop} (h:w.heap[l]? =some (.loop lp)) (hr:lp.state= .ready):(Instr.beginRound l).run P w= .ok () (fF w l):=by
 simp only[Instr.beginRound,Sem.run_bind,run_getLoop h,Result.andThen_ok,JR h,hr,Sem.run_pure];simp only[fF];rw[<- CU h]
theorem run_endRound {w:World} {l:Nat} {lp:Loop} (h:w.heap[l]? =some (.loop lp)) (j:Option Code):
  (Instr.endRound l j).run P w= .ok (.bool j.isNone) (gZ w l (if j.isNone then .ready else .done) j):=by
 simp only[Instr.endRound,Sem.run_bind,run_getLoop h,Result.andThen_ok,JR h,Sem.run_pure];simp only[gZ];rw[<- CU h]
theorem run_endLoop {w:World} {l:Nat} {lp:Loop} (h:w.heap[l]? =some (.loop lp)) (hb:lp.state≠.busy):
  (Instr.endLoop l).run P w= .ok lp.pending (gZ w l .exhausted lp.pending):=by
 have hb':¬(lp.state= .busy):=hb;simp[Instr.endLoop,run_getLoop h,JR h,hb'];simp only[gZ];rw[<- CU h]
abbrev O1 (ps:List Nat) (vs:List Value) (tmps:Array Value):Array Value:=(ps.zip vs).foldl (λ(tmps:Array Value) (p:Nat×Value)=>tmps.setIfInBounds p.1 p.2) tmps
theorem adw:∀(ps:List Nat) (vs:List Value) (tmps:Array Value),(O1 ps vs tmps).size=tmps.size:=by
 intro ps
 induction ps with
 |nil=>intro vs tmps;rfl
 |cons p ps ih=>
  intro vs tmps
  cases vs with
  |nil=>rfl
  |cons v vs=>simp only[O1,List.zip_cons_cons,List.foldl_cons] at ih ⊢;rw[ih];simp
theorem QZ:∀(ps:List Nat) (vs:List Value) (tmps:Array Value) (s:Nat),s∉ps->(O1 ps vs tmps)[s]? =tmps[s]? :=by
 intro ps
 induction ps with
 |nil=>intro vs tmps s _;rfl
 |cons p ps ih=>
  intro vs tmps s h
  cases vs with
  |nil=>rfl
  |cons v vs=>
   simp only[O1,List.zip_cons_cons,List.foldl_cons] at ih ⊢;rw[ih vs _ s (λx=>h (by simp[x]))];have:¬(p=s):=λx=>h (by simp[x]);simp[this]
theorem afy:∀(ps:List Nat) (vs:List Value) (tmps:Array Value),Ew ps=true->(∀s∈ps,s<tmps.size)->
  ∀s v,Env.get (KY ps vs) s=some v->(O1 ps vs tmps)[s]? =some v:=by
 intro ps
 induction ps with
 |nil=>intro vs tmps _ _ s v h;simp[KY,Env.get] at h
 |cons p ps ih=>
  intro vs tmps j z s v h
  cases vs with
  |nil=>simp[KY,Env.get] at h
  |cons u vs=>
   simp only[Ew,and_eq_true,Bool.not_eq_true'] at j;simp only[KY,jg] at h;have e:O1 (p::ps) (u::vs) tmps=O1 ps vs (tmps.setIfInBounds p u):=rfl;rw[e];by_cases hs:p=s
   ·subst hs;rw[if_pos rfl] at h;have hn:p∉ps:=λx=>by rw[kS.2 x] at j;simp at j
    rw[QZ _ _ _ _ hn];have:p<tmps.size:=z p (by simp);simp[this,<- h]
   ·rw[if_neg hs] at h;exact ih vs _ j.2 (λs hs=>by simpa using z s (by simp[hs])) s v h
end
end Gp
end
section
namespace Gp
open Go
section
variable {P:Program}
theorem JY.self {nt:Nat} {dfr:List Deferred} {ws ws':List Nat} {a0 a:Act} {env:Env} (h:JY nt dfr ws a0 env a):JY nt dfr ws' a env a:=⟨h.agr,h.size,h.defers,λ_ _=>rfl⟩
theorem JY.trans {nt:Nat} {d1 d2:List Deferred} {ws ws':List Nat} {a0 a a':Act} {env env':Env} (h:JY nt d1 ws a0 env a) (h':JY nt d2 ws' a env' a') (hs:∀s∈ws',s∈ws):JY nt d2 ws a0 env' a':=
 ⟨h'.agr,h'.size,h'.defers,λs hn=>(h'.same s λx=>hn (hs s x)).trans (h.same s hn)⟩
theorem JY.env {nt:Nat} {dfr:List Deferred} {ws:List Nat} {a0 a:Act} {env env':Env} (h:JY nt dfr ws a0 env a) (he:∀s v,env'.get s=some v->a.tmps[s]? =some v):JY nt dfr ws a0 env' a:=
 ⟨he,h.size,h.defers,h.same⟩
def LL (l:Nat) (fn:FuncId) (tmps:Array Value) (ps:Array Tmp) (assign body:Code) (dfr:Nat) (st:LoopState) (p:Option Code) (W:World):Prop:=
 W.heap[l]? =some (.loop {state:=st,pending:=p,fn:=fn,tmps:=tmps,params:=ps,assign:=assign,body:=body,defers:=dfr})
def BX (P:Program) (nt:Nat) (c:Code):Prop:=
 ∀(r:Option Nat) (an:CY) (env:Env) (ds:List Nat) (w:World) (K:Exit->Env->List Nat->b_) (n:Nat) (Q:Exit->Act->b_) (ws:List Nat) (a0 a:Act),
  den P nt c r an env ds w K->JY nt (mkD ds) ws a0 env a->(∀s∈writes c,s∈ws)->
  (∀e env' ds' w' a',JY nt (mkD ds') ws a0 env' a'->(jH c=false->ds'=ds)->K e env' ds' w'->Q e a' w')->c.wpIn (Fr r) n P Q a w
theorem ac2:∀(st:List (Nat×Kind)) (x y:J6 st) (t:Nat),Env.get (encS st x) t=none->Env.get (encS st y) t=none:=by
 intro st
 induction st with
 |nil=>exact λx y t h=>h
 |cons p st ih=>
  obtain⟨s,k⟩:=p;intro x y t h;simp only[encS,jg] at h ⊢;by_cases e:s=t
  ·simp[e] at h
  ·simp only[e,if_false] at h ⊢;exact ih _ _ _ h
theorem X5 {nt:Nat} {dfr dfr':List Deferred} {ws ws':List Nat} {st:List (Nat×Kind)} {x y:J6 st} {env env':Env} {a0 a a':Act} (h:JY nt dfr ws a0 (encS st y++without ws' env) a)
  (h':JY nt dfr' ws' a env' a') (hx:∀t v,Env.get (encS st x) t=some v->env'.get t=some v):∀s v,Env.get (encS st x++without ws' env) s=some v->a'.tmps[s]? =some v:=by
 intro s v hs;rw[get_append] at hs
 cases he:Env.get (encS st x) s with
 |some u=>rw[he] at hs;simp at hs;subst hs;exact h'.agr s u (hx s u he)
 |none=>
  rw[he] at hs;simp only at hs;have hw:s∉ws':=by
   intro hw;rw[mW] at hs;simp[hw] at hs
  rw[h'.same s hw];refine h.agr s v ?_;rw[get_append,ac2 st x y s he];exact hs
theorem UE {st:List (Nat×Kind)} {x:J6 st} {env:Env} {a:Act} (ws':List Nat) (h:Agr env a)
  (hx:∀t v,Env.get (encS st x) t=some v->env.get t=some v):∀s v,Env.get (encS st x++without ws' env) s=some v->a.tmps[s]? =some v:=by
 intro s v hs;rw[get_append] at hs
 cases he:Env.get (encS st x) s with
 |some u=>rw[he] at hs;simp at hs;subst hs;exact h s u (hx s u he)
 |none=>
  rw[he] at hs;simp only[mW] at hs;by_cases hw:s∈ws'
  ·simp[hw] at hs
  ·simp only[hw,if_false] at hs;exact h s v hs
theorem X4 {nt:Nat} {dfr:List Deferred} {ws':List Nat} {B env env':Env} {a a':Act} (ha:Agr env a)
  (h':JY nt dfr ws' a env' a') (hx:∀t v,Env.get B t=some v->env'.get t=some v):∀s v,Env.get (B++without ws' env) s=some v->a'.tmps[s]? =some v:=by
 intro s v hs;rw[get_append] at hs
 cases he:Env.get B s with
 |some u=>rw[he] at hs;simp at hs;subst hs;exact h'.agr s u (hx s u he)
 |none=>
  rw[he] at hs;simp only[mW] at hs;by_cases hw:s∈ws'
  ·simp[hw] at hs
  ·simp only[hw,if_false] at hs;rw[h'.same s hw];exact ha s v hs
theorem aaF {nt:Nat} {x y:Code} (ihx:BX P nt x) (ihy:BX P nt y) {st:List (Nat×JSh)} {ax ay:CY} {r:Option Nat} {env:Env} {ds:List Nat} {w:World} {K:Exit->Env->List Nat->b_}
  {n:Nat} {Q:Exit->Act->b_} {ws:List Nat} {a0 a:Act} (h:den P nt (.seq x y) r (.join st ax ay) env ds w K) (ha:JY nt (mkD ds) ws a0 env a) (I:∀s∈writes (.seq x y),s∈ws)
  (hQ:∀e env' ds' w' a',JY nt (mkD ds') ws a0 env' a'->(jH (.seq x y)=false->ds'=ds)->K e env' ds' w'->Q e a' w'):(Code.seq x y).wpIn (Fr r) n P Q a w:=by
 have u:∀s∈writes x,s∈ws:=λs hs=>I s (by simp[writes,hs]);have J:∀s∈writes y,s∈ws:=λs hs=>I s (by simp[writes,hs]);simp only[den] at h
 cases hr:jH x with
 |false=>
  rw[hr] at h;simp only[cond_false,aby] at h;refine wpIn_seq (ihx r ax env ds w _ n _ (writes x) a a h ha.self (λs hs=>hs) ?_);intro e env' ds' w' a' ha' z hk;have z:=z hr;subst z
  cases e with
  |normal=>
   obtain⟨s',hb,hs'⟩:=U4 _ _ _ hk;refine ihy r ay _ ds' w' K n Q ws a0 a' hb ((ha.trans ha' u).env (X4 ha.agr ha' hs')) J ?_;intro e2 env2 ds2 w2 a2 ha2 j hk2;refine hQ _ _ _ _ _ ha2 (λhx=> ?_) hk2;simp only[jH,or_eq_false_iff] at hx;exact j hx.2
  |_=>exact hQ _ _ _ _ _ (ha.trans ha' u) (λ_=>rfl) hk
 |true=>
  rw[hr] at h;simp only[cond_true,aby] at h;refine wpIn_seq (ihx r ax env ds w _ n _ (writes x) a a h ha.self (λs hs=>hs) ?_);intro e env' ds' w' a' ha' _ hk
  cases e with
  |normal=>
   obtain⟨s',hb,hs'⟩:=U4 _ _ _ hk;refine ihy r ay _ ds' w' K n Q ws a0 a' hb ((ha.trans ha' u).env (X4 ha.agr ha' hs')) J ?_;intro e2 env2 ds2 w2 a2 ha2 j hk2;refine hQ _ _ _ _ _ ha2 (λhx=> ?_) hk2;simp[jH,hr] at hx
  |_=>exact hQ _ _ _ _ _ (ha.trans ha' u) (λhx=>by simp[jH,hr] at hx) hk
theorem aaO {nt:Nat} {c:Code} (ih:BX P nt c):BX P nt (.loop c):=by
 intro r an env ds w K n Q ws a0 a h ha u hQ
 cases an with
 |loop st x=>
  simp only[den] at h
  cases hr:jH c with
  |false=>
   rw[hr] at h;simp only[cond_false] at h;obtain⟨s0,⟨I,h0,j⟩,hs0⟩:=GL _ _ _ h;refine wpIn_loop_ghost (λm a' w'=>∃s:J6 st,I m s w'/\JY nt (mkD ds) ws a0 (encS st s++without (writes c) env) a') ?_ ?_
   ·obtain⟨m,hm⟩:=h0;exact⟨m,s0,hm,ha.env (UE _ ha.agr hs0)⟩
   ·rintro m a1 w1 ⟨s,hI,ha1⟩;refine ih r x _ ds w1 _ n _ (writes c) a1 a1 (j m s w1 hI) ha1.self (λs hs=>hs) ?_;intro e env' ds' w' a' ha' z hk;have z:=z hr;subst z
    cases e with
    |normal=>
     obtain⟨s',⟨m',J,hI'⟩,hs'⟩:=GL _ _ _ hk;exact⟨m',J,s',hI',(ha1.trans ha' u).env (X5 ha1 ha' hs')⟩
    |_=>exact hQ _ _ _ _ _ (ha1.trans ha' u) (λ_=>rfl) hk
  |true=>
   rw[hr] at h;simp only[cond_true] at h;obtain⟨s0,⟨I,h0,j⟩,hs0⟩:=GL _ _ _ h;refine wpIn_loop_ghost (λm a' w'=>∃s:J6 st×List Nat,I m s w'/\JY nt (mkD s.2) ws a0 (encS st s.1++without (writes c) env) a') ?_ ?_
   ·obtain⟨m,hm⟩:=h0;exact⟨m,(s0,ds),hm,ha.env (UE _ ha.agr hs0)⟩
   ·rintro m a1 w1 ⟨s,hI,ha1⟩;refine ih r x _ s.2 w1 _ n _ (writes c) a1 a1 (j m s w1 hI) ha1.self (λs hs=>hs) ?_;intro e env' ds' w' a' ha' _ hk
    cases e with
    |normal=>
     obtain⟨s',⟨m',J,hI'⟩,hs'⟩:=GL _ _ _ hk;exact⟨m',J,(s',ds'),hI',(ha1.trans ha' u).env (X5 ha1 ha' hs')⟩
    |_=>exact hQ _ _ _ _ _ (ha1.trans ha' u) (λhx=>by simp[jH,hr] at hx) hk
 |_=>exact h.elim
theorem TV {fn:FuncId} {tmps:Array Value} {ps:Array Tmp} {assign body:Code} {w:World}:
  (Instr.enterLoop fn tmps ps assign body none).run P w=
   .ok (w.heap.size+1,[{target:= .collected w.heap.size,args:= #[]}])
    ((w.alloc (.deferred (some []))).alloc (.loop {state:= .ready,pending:=none,fn:=fn,tmps:=tmps,params:=ps,assign:=assign,body:=body,defers:=w.heap.size})):=by
 simp[Instr.enterLoop]
theorem MW {fn:FuncId} {tmps:Array Value} {ps:Array Tmp} {assign body:Code} {w:World} {l₀:Nat} {lp:Loop} (h:w.heap[l₀]? =some (.loop lp)):
  (Instr.enterLoop fn tmps ps assign body (some l₀)).run P w=
   .ok (w.heap.size,[]) (w.alloc (.loop {state:= .ready,pending:=none,fn:=fn,tmps:=tmps,params:=ps,assign:=assign,body:=body,defers:=lp.defers})):=by
 simp[Instr.enterLoop,run_getLoop h]
theorem adt {e:Exit} {j:Option Code} (h:yM e=some j):j.isNone=vM e:=by
 cases e<;>simp[yM] at h<;>subst h<;>rfl
theorem ZC {nt:Nat} {assign body:Code} (ih1:BX P nt assign) (ih2:BX P nt body) {l:Nat} {fn:FuncId} {tmps:Array Value} {ps:Array Tmp} {dfr:Nat} {ks:List Shape} {x y:CY} {env:Env}
  (hlen:Nat.beq ps.toList.length ks.length=true) (Y:Ew ps.toList=true) (Z:∀s∈ps.toList,s<nt) (aa:jH assign=false) (U:tmps.size=nt) (ab:∀s v,env.get s=some v->tmps[s]? =some v)
  {x':zM ks} {W:World} {p:Option Code} {R:Bool->b_} (hL:LL l fn tmps ps assign body dfr .ready p W)
  (h:den P nt assign (some l) x (KY ps.toList (encR ks x')++env) [] W λe env1 _ W1=>match e with
    | .normal=>W1.heap[l]? =W.heap[l]? /\den P nt body (some l) y env1 [] (fF W1 l) λe _ _ W2=>
      (LL l fn tmps ps assign body dfr .busy p W2/\∃j,yM e=some j/\R (vM e) (gZ W2 l (if vM e then .ready else .done) j))
    |_=>False):BZ P l (encR ks x') W R:=by
 have ac:∀(ks:List Shape) (x:zM ks),(encR ks x).length=ks.length:=by
  intro ks
  induction ks with
  |nil=>intro x;rfl
  |cons k ks ih=>intro x;simp[encR,ih]
 have hl2:(encR ks x').length=ps.size:=by
  rw[ac];have:=Nat.eq_of_beq_eq_true hlen;simpa using this.symm
 refine⟨fn,O1 ps.toList (encR ks x') tmps,assign,body,?_,?_⟩
 ·have h1:(ps.zip (⟨encR ks x'⟩:Array Value)).foldl (λ(tmps:Array Value) (x:Tmp×Value)=>tmps.setIfInBounds x.1 x.2) tmps=O1 ps.toList (encR ks x') tmps:=by
   rw[<- Array.foldl_toList,Array.toList_zip]
  simp only[Instr.yield,Sem.run_bind,run_getLoop hL,Result.andThen_ok];have h2:¬((⟨encR ks x'⟩:Array Value).size≠ps.size):=by simpa using hl2
  simp only[h2,if_false,Sem.run_pure];congr 2
 ·refine roundIn_of_wpIn (F:=Fence.wide) trivial ?_;have hA:JY nt (mkD []) (writes assign) {tmps:=O1 ps.toList (encR ks x') tmps,defers:=[]} (KY ps.toList (encR ks x')++env) {tmps:=O1 ps.toList (encR ks x') tmps,defers:=[]}:=by
   refine⟨λs v hs=> ?_,by simp[adw,U],rfl,λ_ _=>rfl⟩;rw[get_append] at hs
   cases he:Env.get (KY ps.toList (encR ks x')) s with
   |some u=>
    rw[he] at hs;simp only[Option.some.injEq] at hs;subst hs;exact afy _ _ _ Y (λs hs=>by rw[U];exact Z s hs) s u he
   |none=>
    rw[he] at hs;have hn:s∉ps.toList:=by
     intro hm;have:∀(ps:List Nat) (vs:List Value),ps.length=vs.length->s∈ps->Env.get (KY ps vs) s≠none:=by
      intro ps
      induction ps with
      |nil=>intro vs _ h;cases h
      |cons q ps ih=>
       intro vs hl hm
       cases vs with
       |nil=>simp at hl
       |cons v vs=>
        simp only[KY,jg];by_cases e:q=s
        ·simp[e]
        ·simp only[e,if_false];refine ih vs (by simpa using hl) ?_
         cases hm with
         |head=>exact absurd rfl e
         |tail _ h=>exact h
     exact this _ _ (by simpa using hl2.symm) hm he
    show (O1 ps.toList (encR ks x') tmps)[s]? =some v;rw[QZ _ _ _ _ hn];exact ab s v hs
  refine ih1 (some l) x _ [] W _ 0 _ (writes assign) _ _ h hA (λs hs=>hs) ?_;intro e env1 ds1 W1 a1 ha1 z hk;have z:=z aa;subst z
  cases e with
  |normal=>
   obtain⟨I,hk⟩:=hk;have hL1:W1.heap[l]? =some (.loop {state:= .ready,pending:=p,fn:=fn,tmps:=tmps,params:=ps,assign:=assign,body:=body,defers:=dfr}):=I.trans hL;refine⟨fF W1 l,run_beginRound hL1 rfl,?_⟩;have ha1':JY nt (mkD []) (writes body) a1 env1 a1:=ha1.self;refine ih2 (some l) y env1 [] _ _ 0 _ (writes body) a1 a1 hk ha1' (λs hs=>hs) ?_;intro e env2 ds2 W2 a2 ha2 _ hk2;obtain⟨hL2,j,hj,hR⟩:=hk2;have J:=run_endRound (P:=P) hL2 j;rw[adt hj] at J;have hR':∃b:Bool,Ending.returned (.bool (vM e))= .returned (.bool b)/\R b (gZ W2 l (if vM e then .ready else .done) j):=⟨_,rfl,hR⟩
   cases e<;>simp only[yM,Option.some.injEq] at hj<;>first
    |(subst hj;exact⟨_,_,J,hR'⟩)
    |(cases hj;done)
  |_=>exact hk.elim
theorem acP (hP:ET P) {f:FuncId} {first cap:Array Value} {l:Nat} {W:World} (hb:jZ P f=true) {a:Act} {g:Operand} (hg:a.eval g= .func (.func f) first cap):
  ∃d,(resolve a.eval (rangeCall g l) 0).run P W= .ok d W/\(invoke d.target d.args).run P W= .ok (.enter f ⟨first.toList++(Value.func (.yield l) #[] #[]::cap.toList)⟩) W:=by
 refine⟨{target:= .fn (.func f) cap,args:=first++ #[.func (.yield l) #[] #[]]},?_,?_⟩
 ·simp only[resolve,hg,Deferred.ofValue,Sem.run_pure,List.map_toArray,map_cons,List.map_nil];rfl
 ·have e:first++ #[Value.func (.yield l) #[] #[]]++cap=⟨first.toList++(Value.func (.yield l) #[] #[]::cap.toList)⟩:=by apply Array.toList_inj.mp;simp
  simp only[invoke,e];exact yZ hP hb _ _
theorem aax {id:Nat} {w:World} {K:Exit->b_}:∀(l:List Nat),Lh id (l.map λid=>(id,K (.exit id))) w->K (.exit id) w:=by
 intro l
 induction l with
 |nil=>intro h;exact h.elim
 |cons i l ih=>
  intro h;simp only[map_cons,Lh] at h
  cases hb:Nat.beq i id with
  |true=>
   rw[hb] at h;have:=Nat.eq_of_beq_eq_true hb;subst this;exact h
  |false=>rw[hb] at h;exact ih h
theorem aaG {K:Exit->b_} {l:List Nat} {p:Option Code} {w:World} (h:ab2 (K .normal) (K .ret) (l.map λid=>(id,K (.exit id))) p w) {F:Fence} {n:Nat} {Q:Exit->Act->b_} {a:Act}
  (hQ:∀e w,K e w->Q e a w):(p=none->Q .normal a w)/\∀c,p=some c->c.wpIn F n P Q a w:=by
 cases p with
 |none=>exact⟨λ_=>hQ _ _ h,λc hc=>by cases hc⟩
 |some c=>
  refine⟨λhc=>by(cases hc),λc' hc=> ?_⟩
  cases hc
  cases c<;>first|exact h.elim|exact wpIn_ret (hQ _ _ h)|exact wpIn_exit (hQ _ _ (aax l h))
theorem adT (hP:ET P) {nt:Nat} {g:Operand} {ps:Array Tmp} {assign body:Code} (ih1:BX P nt assign) (ih2:BX P nt body):BX P nt (.rangeFunc g ps assign body):=by
 intro r an env ds w K n Q ws a0 a h ha hws hQ
 cases an with
 |rng ks x y=>
  simp only[den] at h
  cases hb:(!jH assign && (Nat.beq ps.toList.length ks.length && (Ew ps.toList && ps.toList.all λs=>Nat.blt s nt))) with
  |false=>rw[hb] at h;exact h.elim
  |true=>
   rw[hb] at h;simp only[cond_true] at h;simp only[and_eq_true,List.all_eq_true,blt_eq,Bool.not_eq_true'] at hb;obtain⟨U,hlen,Y,Z⟩:=hb;obtain⟨hr0,h⟩:=h;split at h
   ·rename_i f first cap hv
    obtain⟨j,h⟩:=h;have hg:a.eval g= .func (.func f) first cap:=by
     cases hx:evO env g with
     |none=>simp[ev,hx,undef] at hv
     |some v=>
      have:=YA ha.agr hx;simp only[ev,hx,getD_some] at hv;rw[this,hv]
    refine wpIn_rangeFunc λfn _=> ?_;have mk:∀(l:Nat) (mark:List Deferred) (w1:World) (dfr:Nat),(Instr.enterLoop fn a.tmps ps assign body (Fr r).round).run P w= .ok (l,mark) w1->
      (l=if r.isNone then w.heap.size+1 else w.heap.size)->w1.heap.size=l+1->(∀b,b<w.heap.size->w1.heap[b]? =w.heap[b]?)->(w1.os=w.os/\w1.tape=w.tape/\w1.output=w.output)->(r=none->w1.heap[w.heap.size]? =some (.deferred (some [])))->
      LL l fn a.tmps ps assign body dfr .ready none w1->mark++a.defers=mkD (cond r.isNone (w.heap.size::ds) ds)->
      ∃(l:Nat) (mark:List Deferred) (w₁:World) (d:Deferred) (w₁':World) (f:FuncId) (args:Array Value) (w₂:World),
       (Instr.enterLoop fn a.tmps ps assign body (Fr r).round).run P w= .ok (l,mark) w₁/\(resolve a.eval (rangeCall g l) 0).run P w₁= .ok d w₁'/\
       (∀f',Target.leads P w₁' d.target d.args=some f'->(Fr r).fn f')/\(invoke d.target d.args).run P w₁'= .ok (.enter f args) w₂/\((Fr r).depth.isSome=true->1<=n)/\
       CallsIn (Fr r) (n - 1) P f args w₂ (rangePost (Fr r) n P l Q {a with defers:=mark++a.defers}):=by
     intro l mark w1 dfr he hl aa z ab ac ae af;obtain⟨d,I,J⟩:=acP hP (l:=l) (W:=w1) j hg;refine⟨l,mark,w1,d,w1,f,_,w1,he,I,λ_ _=>trivial,J,λhx=>by simp[Fr,Fence.wide] at hx,?_⟩;have u:=h l (LL l fn a.tmps ps assign body dfr) w1 {
      at_:=hl
      size:=aa
      old:=z
      io:=ab
      marks:=ac
      ready:=ae
      frame:=λst p W W' hL hs=>hs.trans hL
      set:=λst p st' p' W hL=>abf hL st' p'
      busy:=λp W hL=>aeA hL
      isLoop:=λst p W hL=>⟨_,hL⟩
      yield:=λx' W p R hL hx=>ZC ih1 ih2 hlen Y Z U ha.size ha.agr hL hx}
     have hc:CallsIn Fence.wide (n - 1) P f _ w1 _:=callsIn_wide.2 (Gy u);refine CallsIn.mono (F:=Fr r) hc λe w2 hx=> ?_;obtain⟨v,rfl,st,p,hL,ag,hj⟩:=hx;refine⟨p,_,run_endLoop hL ag,?_⟩;have hj2:=aaG (P:=P) (F:=Fr r) (n:=n) (Q:=Q) (a:={a with defers:=mark++a.defers}) (K:=λe w'=>K e env (cond r.isNone (w.heap.size::ds) ds) w') (l:=pX body) hj λe w' hk=>
      hQ _ _ _ _ _ ⟨ha.agr,ha.size,af,ha.same⟩ (λhx=>by simp[jH] at hx) hk
     clear hj u hc
     cases p with
     |none=>exact hj2.1 rfl
     |some c=>exact hj2.2 c rfl
    cases r with
    |none=>
     refine mk (w.heap.size+1) _ _ w.heap.size TV rfl (by simp) (λb hb=> ?_) ⟨rfl,rfl,rfl⟩ (λ_=> ?_) ?_ (by simp[mkD,ha.defers])
     ·have h1:b≠w.heap.size+1:=by omega
      have h2:b≠w.heap.size:=by omega
      simp[World.alloc,-World.alloc_eq,getElem?_push,h1,h2]
     ·simp[World.alloc,-World.alloc_eq,getElem?_push]
     ·have:=World.alloc_heap_new (w.alloc (.deferred (some []))) (.loop {state:= .ready,pending:=none,fn:=fn,tmps:=a.tmps,params:=ps,assign:=assign,body:=body,defers:=w.heap.size});rw[World.size_alloc] at this;exact this
    |some l₀=>
     obtain⟨lp,ah⟩:=hr0 l₀ rfl;refine mk w.heap.size _ _ lp.defers (MW ah) rfl (by simp) (λb hb=> ?_) ⟨rfl,rfl,rfl⟩ (λhx=>by cases hx) ?_ (by simp[ha.defers])
     ·have h2:b≠w.heap.size:=by omega
      simp[World.alloc,-World.alloc_eq,getElem?_push,h2]
     ·simp[LL,World.alloc,-World.alloc_eq]
   ·exact h.elim
 |_=>exact h.elim
theorem UW (hP:ET P) (nt:Nat):∀c,BX P nt c:=by
 intro c
 induction c with
 |skip=>intro r an env ds w K n Q ws a0 a h ha j hQ;exact wpIn_skip (hQ _ _ _ _ _ ha (λ_=>rfl) h)
 |label l=>intro r an env ds w K n Q ws a0 a h ha j hQ;exact wpIn_label (hQ _ _ _ _ _ ha (λ_=>rfl) h)
 |ret=>intro r an env ds w K n Q ws a0 a h ha j hQ;exact wpIn_ret (hQ _ _ _ _ _ ha (λ_=>rfl) h)
 |exit id=>intro r an env ds w K n Q ws a0 a h ha j hQ;exact wpIn_exit (hQ _ _ _ _ _ ha (λ_=>rfl) h)
 |region id ops draw=>
  intro r an env ds w K n Q ws a0 a h ha j hQ;simp only[den] at h
  cases draw with
  |true=>exact Qz hP j (λenv a w ha hk=>hQ _ _ _ _ _ ha (λ_=>rfl) hk) ha h
  |false=>
   refine wpIn_region ?_;have:=Xy (r:=r) (n:=n) (Q:=Q) hP j (λenv a w ha hk=>hQ _ _ _ _ _ ha (λ_=>rfl) hk) ops.toList 0 env a w (by simp) ha h;rw[List.range_eq_range'];simpa using this
 |seq x y ihx ihy=>
  intro r an env ds w K n Q ws a0 a h ha j hQ
  cases an with
  |seq ax ay=>
   simp only[den] at h;refine wpIn_seq (ihx r ax env ds w _ n _ ws a0 a h ha (λs hs=>j s (by simp[writes,hs])) ?_);intro e env' ds' w' a' ha' u hk
   cases e with
   |normal=>
    refine ihy r ay env' ds' w' K n Q ws a0 a' hk ha' (λs hs=>j s (by simp[writes,hs])) ?_;intro e2 env2 ds2 w2 a2 ha2 z hk2;refine hQ _ _ _ _ _ ha2 (λhx=> ?_) hk2;simp only[jH,or_eq_false_iff] at hx;rw[z hx.2,u hx.1]
   |_=>
    refine hQ _ _ _ _ _ ha' (λhx=> ?_) hk;simp only[jH,or_eq_false_iff] at hx;exact u hx.1
  |join st ax ay=>exact aaF ihx ihy h ha j hQ
  |_=>exact h.elim
 |cond c x y ihx ihy=>
  intro r an env ds w K n Q ws a0 a h ha j hQ
  cases an with
  |cond ax ay=>
   simp only[den] at h;split at h
   ·rename_i t ht;refine wpIn_cond (YA ha.agr ht) ?_
    cases t with
    |true=>
     refine ihx r ax env ds w K n Q ws a0 a h ha (λs hs=>j s (by simp[writes,hs])) λe env' ds' w' a' ha' u hk=>hQ _ _ _ _ _ ha' (λhx=> ?_) hk;simp only[jH,or_eq_false_iff] at hx;exact u hx.1
    |false=>
     refine ihy r ay env ds w K n Q ws a0 a h ha (λs hs=>j s (by simp[writes,hs])) λe env' ds' w' a' ha' u hk=>hQ _ _ _ _ _ ha' (λhx=> ?_) hk;simp only[jH,or_eq_false_iff] at hx;exact u hx.2
   ·exact h.elim
  |_=>exact h.elim
 |block id x ihx=>
  intro r an env ds w K n Q ws a0 a h ha j hQ
  cases an with
  |blk ax=>
   simp only[den] at h;refine wpIn_block (ihx r ax env ds w _ n _ ws a0 a h ha j ?_);intro e env' ds' w' a' ha' u hk
   cases e with
   |exit id'=>
    simp only at hk;simp only[Exit.inBlock];by_cases I:id'=id
    ·subst I;have:Nat.beq id' id'=true:=by simp
     rw[this] at hk;rw[if_pos rfl];exact hQ _ _ _ _ _ ha' u hk
    ·have:Nat.beq id' id=false:=by cases hx:Nat.beq id' id;rfl;exact absurd (Nat.eq_of_beq_eq_true hx) I
     rw[this] at hk;rw[if_neg I];exact hQ _ _ _ _ _ ha' u hk
   |_=>exact hQ _ _ _ _ _ ha' u hk
  |_=>exact h.elim
 |loop x ihx=>exact aaO ihx
 |rangeFunc g ps assign body ih1 ih2=>exact adT hP ih1 ih2
 |scope x ihx=>
  intro r an env ds w K n Q ws a0 a h ha j hQ;simp only[den] at h;refine Io (ihx r an env ds w _ n _ ws a0 a h ha j ?_);intro e env' ds' w' a' ha' u hk
  cases e with
  |goto l=>exact hk.elim
  |_=>exact hQ _ _ _ _ _ ha' u hk
 |goto l=>intro r an env ds w K n Q ws a0 a h ha j hQ;exact h.elim
 |refuse y=>intro r an env ds w K n Q ws a0 a h ha j hQ;exact h.elim
end
end Gp
end
section
namespace Gp
open Go
@[reducible] def PZ:List Kind->Type
 |[]=>b_
 |k::r=>k.T->PZ r
def flat:List Shape->List Kind
 |[]=>[]
 | .one k::r=>k::flat r
 | .agg ks::r=>ks++flat r
def aeO:(ks:List Kind)->(rest:List Kind)->List Value->PZ (ks++rest)->(PZ rest->Prop)->Prop
 |[],_,[],c,φ=>φ c
 |k::ks,rest,v::vs,c,φ=>k.dec v λx=>aeO ks rest vs (c x) φ
 |_,_,_,_,_=>False
def Qv:(sh:List Shape)->List Value->PZ (flat sh)->b_
 |[],[],c,w=>c w
 | .one k::r,v::vs,c,w=>k.dec v λx=>Qv r vs (c x) w
 | .agg ks::r,v::vs,c,w=>match v with
  | .agg cs=>aeO ks (flat r) cs.toList c λc'=>Qv r vs c' w
  |_=>False
 |_,_,_,_=>False
def YB:(ks:List Kind)->(rest:List Kind)->PZ (ks++rest)->(List Value->PZ rest->Prop)->Prop
 |[],_,c,φ=>φ [] c
 |k::ks,rest,c,φ=>∃x:k.T,YB ks rest (c x) λvs c'=>φ (k.enc x::vs) c'
def YC:(sh:List Shape)->PZ (flat sh)->(List Value->Prop)->b_
 |[],c,φ,w=>φ []/\c w
 | .one k::r,c,φ,w=>∃x:k.T,YC r (c x) (λvs=>φ (k.enc x::vs)) w
 | .agg ks::r,c,φ,w=>YB ks (flat r) c λvs c'=>YC r c' (λus=>φ (.agg ⟨vs⟩::us)) w
theorem aeP:∀(ks rest:List Kind) (vs:List Value) (c:PZ (ks++rest)) (φ:PZ rest->Prop),aeO ks rest vs c φ->
  ∀ψ:List Value->PZ rest->Prop,(∀c',φ c'->ψ vs c')->YB ks rest c ψ:=by
 intro ks
 induction ks with
 |nil=>
  intro rest vs c φ h ψ hψ
  cases vs with
  |nil=>exact hψ c h
  |cons v vs=>exact h.elim
 |cons k ks ih=>
  intro rest vs c φ h ψ hψ
  cases vs with
  |nil=>exact h.elim
  |cons v vs=>
   obtain⟨x,hx,h'⟩:=GI h;subst hx;exact⟨x,ih rest vs (c x) φ h' _ hψ⟩
theorem aeQ:∀(sh:List Shape) (vs:List Value) (c:PZ (flat sh)) (w:World),Qv sh vs c w->∀φ:List Value->Prop,φ vs->YC sh c φ w:=by
 intro sh
 induction sh with
 |nil=>
  intro vs c w h φ hφ
  cases vs with
  |nil=>exact⟨hφ,h⟩
  |cons v vs=>exact h.elim
 |cons s sh ih=>
  intro vs c w h φ hφ
  cases s with
  |one k=>
   cases vs with
   |nil=>exact h.elim
   |cons v vs=>
    obtain⟨x,hx,h'⟩:=GI h;subst hx;exact⟨x,ih vs (c x) w h' (λvs=>φ (k.enc x::vs)) hφ⟩
  |agg ks=>
   cases vs with
   |nil=>exact h.elim
   |cons v vs=>
    cases v with
    |agg cs=>exact aeP ks (flat sh) cs.toList c _ h _ λc' h'=>ih vs c' w h' (λus=>φ (.agg ⟨cs.toList⟩::us)) hφ
    |_=>exact h.elim
def wG:List Nat->World->(b_)->Prop
 |[],w,K=>K w
 |D::ds,w,K=>w.heap[D]? =some (.deferred (some []))/\wG ds (w.putObj D (.deferred none)) K
def qL (P:Program):List ResultVar->Env->World->(List Value->Prop)->Prop
 |[],_,_,φ=>φ []
 | .tmp t::r,env,w,φ=>match env.get t with
  |some v=>qL P r env w λvs=>φ (v::vs)
  |none=>False
 | .cell a t::r,env,w,φ=>match env.get a,shapeOf P t,gG P t with
  |some (.pointer (some ad)),some sh,some n=>cond (Nat.beq sh.cells n) (sh.ld w ad λv=>qL P r env w λvs=>φ (v::vs)) False
  |_,_,_=>False
def anf (P:Program) (rs:List ResultVar) (sh:List Shape) (Post:PZ (flat sh)) (e:Exit) (env:Env) (ds:List Nat) (w:World):Prop:=
 match e with
 | .normal=>wG ds w λw'=>qL P rs env w' λvs=>Qv sh vs Post w'
 | .ret=>wG ds w λw'=>qL P rs env w' λvs=>Qv sh vs Post w'
 |_=>False
def DN:Nat->List Value->Env
 |_,[]=>[]
 |i,v::vs=>(i,v)::DN (i+1) vs
theorem P_:∀(vs:List Value) (i s:Nat) (v:Value),Env.get (DN i vs) s=some v->i<=s/\vs[s - i]? =some v:=by
 intro vs
 induction vs with
 |nil=>intro i s v h;simp[DN,Env.get] at h
 |cons u vs ih=>
  intro i s v h;simp only[DN,jg] at h;by_cases e:i=s
  ·subst e;simp at h;simp[h]
  ·rw[if_neg e] at h;obtain⟨h1,h2⟩:=ih _ _ _ h;refine⟨by omega,?_⟩;obtain⟨m,hm⟩:∃m,s - i=m+1:=⟨s - i - 1,by omega⟩;rw[hm];have:s - (i+1)=m:=by omega
   rw[this] at h2;simpa using h2
section
variable {P:Program}
def resV (tmps:Array Value) (x:ResultVar):Sem Value:=
 match x with
 | .tmp t=>pure (tmps.getD t undef)
 | .cell b t=>do loadVar t (<- asAddr (tmps.getD b undef))
theorem abb {a:Act} {env:Env} {w:World} (ha:Agr env a):∀(rs:List ResultVar) (φ:List Value->Prop),qL P rs env w φ->
  ∃vs,(rs.mapM (resV a.tmps)).run P w= .ok vs w/\φ vs:=by
 intro rs
 induction rs with
 |nil=>exact λφ h=>⟨[],by simp,h⟩
 |cons x rs ih=>
  intro φ h
  cases x with
  |tmp t=>
   simp only[qL] at h
   cases hg:env.get t with
   |none=>simp only[hg] at h
   |some v=>
    simp only[hg] at h;obtain⟨vs,hr,hφ⟩:=ih _ h;have:=ha t v hg;refine⟨v::vs,?_,hφ⟩;rw[List.mapM_cons];simp only[resV,Sem.run_bind,Sem.run_pure,Result.andThen_ok,Array.getD_eq_getD_getElem?,this,getD_some,hr]
  |cell b t=>
   simp only[qL] at h;split at h
   ·rename_i ad sh n hg hs hn
    cases hb:Nat.beq sh.cells n with
    |false=>rw[hb] at h;exact h.elim
    |true=>
     rw[hb] at h;obtain⟨v,hv,h⟩:=Oz (P:=P) hs hn (Nat.eq_of_beq_eq_true hb) h;obtain⟨vs,hr,hφ⟩:=ih _ h;have:=ha b _ hg;refine⟨v::vs,?_,hφ⟩;rw[List.mapM_cons];simp only[resV,Sem.run_bind,Sem.run_pure,Result.andThen_ok,Array.getD_eq_getD_getElem?,this,getD_some,asAddr,hv,hr]
   ·exact h.elim
theorem ZB {fn:Func} {a:Act} {env:Env} {w:World} (ha:Agr env a) {φ:List Value->Prop} (h:qL P fn.results.toList env w φ):
  ∃vs,(results fn a.tmps).run P w= .ok (kW vs) w/\φ vs:=by
 obtain⟨vs,hr,hφ⟩:=abb ha _ _ h;refine⟨vs,?_,hφ⟩;have e:results fn a.tmps=(do let vs<- fn.results.mapM (resV a.tmps);pure (if h:vs.size=1 then vs[0] else .tuple vs)):=rfl
 rw[e,Array.mapM_eq_mapM_toList];simp only[Sem.run_bind,Sem.run_map];rw[hr];simp only[Result.andThen_ok,Sem.run_pure];congr 1
 match vs with
 |[]=>rfl
 |[v]=>rfl
 |v::u::vs=>rfl
theorem KF {fn:Func} {a:Act} {env:Env} (ha:Agr env a) {R:Ending->b_} {φ:List Value->b_} (hR:∀vs w,φ vs w->R (.returned (kW vs)) w):
  ∀(ds:List Nat) (w:World),wG ds w (λw'=>qL P fn.results.toList env w' λvs=>φ vs w')->LeavesInM (Fr none) 0 P fn a.tmps R (mkD ds) .returning w:=by
 intro ds
 induction ds with
 |nil=>
  intro w h;obtain⟨vs,hr,hφ⟩:=ZB ha h;exact⟨_,hr,hR _ _ hφ⟩
 |cons D ds ih=>
  intro w h;obtain⟨h1,h2⟩:=h;exact⟨by simp,.inl ⟨D,_,rfl,run_takeDeferred h1,ih _ h2⟩⟩
theorem afb (hP:ET P) {f:FuncId} {fn:Func} {c:Code} {nt:Nat} (hf:P.funcs[f]? =some fn) (hb:fn.body=some c) (I:fn.ntmps=nt) {rs:List ResultVar} (J:fn.results=⟨rs⟩)
  (sh:List Shape) (Post:PZ (flat sh)) (an:CY) (args:List Value) (hl:Nat.ble args.length nt=true) (w:World) (h:den P nt c none an (DN 0 args) [] w (anf P rs sh Post)):
  Calls P f ⟨args⟩ w λe w'=>YC sh Post (λus=>e= .returned (kW us)) w':=by
 refine(callsIn_wide (n:=0)).1 ?_;refine callsIn_of_wp_marks (F:=Fr none) hf hb trivial ?_ rfl;have U:((⟨args⟩:Array Value)++Array.replicate (fn.ntmps - (⟨args⟩:Array Value).size) undef).size=nt:=by
  have:=Nat.le_of_ble_eq_true hl;simp[I];omega
 refine UW hP nt c none an _ [] w _ 0 _ (writes c) _ _ h ⟨λs v hs=> ?_,U,rfl,λ_ _=>rfl⟩ (λs hs=>hs) ?_
 ·obtain⟨_,h2⟩:=P_ _ _ _ _ hs;have u:=(List.getElem?_eq_some_iff.1 h2).1;simp only[Nat.sub_zero] at h2 u;show ((⟨args⟩:Array Value)++Array.replicate (fn.ntmps - (⟨args⟩:Array Value).size) undef)[s]? =some v;rw[Array.getElem?_append_left (by simpa using u)];simpa using h2
 ·intro e env' ds' w' a' ha' _ hk;have z:∀w',wG ds' w' (λw'=>qL P rs env' w' λvs=>Qv sh vs Post w')->
    LeavesInM (Fr none) 0 P fn a'.tmps (λe w'=>YC sh Post (λus=>e= .returned (kW us)) w') a'.defers .returning w':=by
   intro w' hw';rw[ha'.defers];have j:fn.results.toList=rs:=by rw[J]
   rw[<- j] at hw';exact KF ha'.agr (φ:=λvs w'=>Qv sh vs Post w') (λvs w hd=>aeQ sh vs Post w hd (λus=>Ending.returned (kW vs)= .returned (kW us)) rfl) ds' w' hw'
  cases e with
  |normal=>exact z w' hk
  |ret=>exact z w' hk
  |_=>exact hk.elim
theorem ET.alo (h:(P.funcs.toList.all λfn=> !(fn.name=="runtime.NumGoroutine"))=true) (hm:P.follows .mixedOrders=true):ET P:=by
 refine⟨λf fn hf _=> ?_,hm⟩;rw[List.all_eq_true] at h;have:=h fn (List.mem_of_getElem? (by simpa using hf));simpa using this
end
def bs (l:List UInt8):ByteArray:=⟨⟨l⟩⟩
def Al (w:World) (o:Obj) (K:Addr->b_):Prop:=K ⟨w.heap.size,0,none⟩ (w.alloc o)
end Gp
end
section
namespace Gp
open Go
def Row (w:World) (b:Nat) (l:List Value):Prop:=∃T,w.heap[b]? =some (.cells ⟨l⟩ T (0,0))
structure fV (w w':World) (S:Nat->Prop):Prop where
 size:w.heap.size<=w'.heap.size
 same:∀b,b<w.heap.size->¬S b->w'.heap[b]? =w.heap[b]?
 io:w'.os=w.os/\w'.tape=w.tape/\w'.output=w.output
theorem fM (b o n:Nat):(⟨b,o,none⟩:Addr).add n=⟨b,o+n,none⟩:=by
 unfold Addr.add;by_cases h:n=0
 ·simp[h]
 ·simp[h]
section
variable {w w' w1 w2:World} {b b' i:Nat} {l l':List Value} {S S':Nat->Prop}
theorem Row.lt (h:Row w b l):b<w.heap.size:=by
 obtain⟨T,h⟩:=h;exact(Array.getElem?_eq_some_iff.1 h).1
theorem Row.cell (h:Row w b l) (i:Nat):w.cell? ⟨b,i,none⟩=l[i]? :=by
 obtain⟨T,h⟩:=h;simp[World.cell?,h]
theorem Row.frozen (h:Row w b l) (i:Nat):w.frozen? ⟨b,i,none⟩=false:=by
 obtain⟨T,h⟩:=h;simp[World.frozen?,h]
theorem fV.refl (w:World) (S:Nat->Prop):fV w w S:=⟨Nat.le_refl _,λ_ _ _=>rfl,rfl,rfl,rfl⟩
theorem fV.trans (h:fV w w1 S) (h':fV w1 w2 S') (hs:∀b,b<w.heap.size->S' b->S b):fV w w2 S:=
 ⟨Nat.le_trans h.size h'.size,λb hb hn=>(h'.same b (Nat.lt_of_lt_of_le hb h.size) λx=>hn (hs b hb x)).trans (h.same b hb hn),h'.io.1.trans h.io.1,h'.io.2.1.trans h.io.2.1,h'.io.2.2.trans h.io.2.2⟩
theorem fV.mono (h:fV w w1 S) (hs:∀b,S b->S' b):fV w w1 S':=⟨h.size,λb hb hn=>h.same b hb λx=>hn (hs b x),h.io⟩
theorem fV.drew (w:World) (S:Nat->Prop):fV w w.drew S:=⟨Nat.le_refl _,λ_ _ _=>rfl,rfl,rfl,rfl⟩
theorem fV.alloc (w:World) (o:Obj) (S:Nat->Prop):fV w (w.alloc o) S:=
 ⟨by simp,λb hb _=>by simp[World.alloc,-World.alloc_eq,getElem?_push];omega,rfl,rfl,rfl⟩
theorem fV.set (w:World) (a:Addr) (v:Value) (hs:S a.block):fV w (w.setCell a v) S:=by
 refine⟨by simp,λb hb hn=> ?_,rfl,rfl,rfl⟩;have:¬(a.block=b):=λe=>hn (e ▸ hs);simp[World.setCell,getElem?_modify,this]
theorem Row.fr (h:Row w b l) (hf:fV w w' S) (hs:¬S b):Row w' b l:=by
 have hl:=h.lt;obtain⟨T,h⟩:=h;exact⟨T,(hf.same b hl hs).trans h⟩
theorem Row.drew (h:Row w b l):Row w.drew b l:=h
theorem Row.new (w:World) (l:List Value) (T:TypeId):Row (w.alloc (.cells ⟨l⟩ T)) w.heap.size l:=⟨T,World.alloc_heap_new w _⟩
theorem Row.set (h:Row w b l) (i:Nat) (v:Value):Row (w.setCell ⟨b,i,none⟩ v) b (l.set i v):=by
 obtain⟨T,h⟩:=h;refine⟨T,?_⟩;simp only[World.setCell,getElem?_modify,if_true,h,map_some];congr 2;simp[Array.setIfInBounds];intro hx;rw[List.set_eq_of_length_le hx]
theorem tV {T:TypeId} {K:Addr->b_} (h:∀b w1,Row w1 b l->b=w.heap.size->w1.heap.size=b+1->(∀S,fV w w1 S)->K ⟨b,0,none⟩ w1):Al w (.cells ⟨l⟩ T) K:=
 h _ _ (Row.new w l T) rfl (by simp) (λS=>fV.alloc w _ S)
theorem C9 {e size bytes:Nat} {z:List Value} {n c:Int} {K:eY->b_} (h0:0<=n) (h1:n<=c) (h2:c<=2^62) (h3:(bytes:Int) * c<=2^48)
  (h:∀b w1,Row w1 b (fO z c.toNat)->b=w.heap.size->w1.heap.size=b+1->(∀S,fV w w1 S)->K ⟨some ⟨b,0,none⟩,n.toNat,c.toNat⟩ w1):VA e size bytes z n c w K:=
 ⟨h0,h1,h2,h3,h _ _ (Row.new w _ e) rfl (by simp) (λS=>fV.alloc w _ S)⟩
theorem gB {v:Value} {K:b_} (hr:Row w b l) (h1:iC v=true) (hi:i<l.length)
  (h:∀w1,Row w1 b (l.set i v)->(∀S:Nat->Prop,S b->fV w w1 S)->w1.heap.size=w.heap.size->K w1):St w ⟨b,i,none⟩ v K:=
 ⟨h1,by rw[hr.cell];simp[hi],hr.frozen i,h _ (hr.set i v) (λS hs=>fV.set w _ v hs) (by simp)⟩
theorem agR {K:b_}:∀(vs:List Value) (w:World) (l:List Value) (o i:Nat),Row w b l->(∀v∈vs,iC v=true)->o+i+vs.length<=l.length->
  (∀w1,Row w1 b (l.take (o+i)++vs++l.drop (o+i+vs.length))->(∀S:Nat->Prop,S b->fV w w1 S)->w1.heap.size=w.heap.size->K w1)->iL vs w ⟨b,o,none⟩ i K:=by
 intro vs
 induction vs with
 |nil=>
  intro w l o i hr _ _ h;exact h w (by simpa using hr) (λS _=>fV.refl _ _) rfl
 |cons v vs ih=>
  intro w l o i hr hv hl h;simp only[List.length_cons] at hl;show St w ((⟨b,o,none⟩:Addr).add i) v _;rw[fM];refine gB hr (hv v (List.mem_cons_self ..)) (by omega) λw1 r1 f1 z1=> ?_;refine ih w1 _ o (i+1) r1 (λu hu=>hv u (List.mem_cons_of_mem _ hu)) (by rw[List.length_set];omega) λw2 r2 f2 z2=> ?_;refine h w2 ?_ (λS hs=>(f1 S hs).trans (f2 S hs) λ_ _ e=>e) (by omega);have e1:(l.set (o+i) v).take (o+(i+1))=l.take (o+i)++[v]:=by
   rw[<- Nat.add_assoc,List.take_succ_eq_append_getElem (by simp;omega),List.take_set_of_le (by omega)];simp
  have e2:(l.set (o+i) v).drop (o+(i+1)+vs.length)=l.drop (o+i+(vs.length+1)):=by
   rw[List.drop_set_of_lt (by omega)];congr 1;omega
  rw[e1,e2] at r2;simpa using r2
theorem fJ {k:Kind} {x:k.T} {K:k.T->Prop} (hr:Row w b l) (hv:l[i]? =some (k.enc x)) (h:K x):Ld k w ⟨b,i,none⟩ K:=⟨x,by rw[hr.cell];exact hv,h⟩
theorem XU {s:eY} {size:Nat} {i:Int} {o:Nat} {K:Addr->Prop} (hs:s.a=some ⟨b,o,none⟩) (h0:0<=i) (h1:i<(s.len:Int)) (h:K ⟨b,o+i.toNat * size,none⟩):iP s size i K:=
 ⟨_,hs,h0,h1,by rw[fM];exact h⟩
theorem fZ {S:Type} {body:S->World->(S->b_)->Prop} {s:S} (I:S->b_) (μ:S->World->Nat) (h0:I s w)
  (step:∀s w,I s w->∀next:S->b_,(∀s' w',I s' w'->μ s' w'<μ s w->next s' w')->body s w next):iQ body s w:=
 ⟨λn s w=>I s w/\n=μ s w,⟨_,h0,rfl⟩,λn s w hI=>step s w hI.1 _ λs' w' hI' j=>⟨_,by rw[hI.2];exact j,hI',rfl⟩⟩
end
theorem kR {α:Type} (f:α->List Value) (k:Nat) (hf:∀x,(f x).length=k) (xs:List α):(xs.flatMap f).length=xs.length * k:=by
 induction xs with
 |nil=>simp
 |cons x xs ih=>simp[flatMap_cons,hf,ih,add_mul];omega
theorem flat_get {α:Type} (f:α->List Value) (k:Nat) (hf:∀x,(f x).length=k):∀(xs:List α) (i j:Nat),j<k->(xs.flatMap f)[i * k+j]? =(xs[i]?).bind λx=>(f x)[j]? :=by
 intro xs
 induction xs with
 |nil=>intro i j _;simp
 |cons x xs ih=>
  intro i j hj;rw[flatMap_cons]
  cases i with
  |zero=>rw[List.getElem?_append_left (by rw[hf];omega)];simp
  |succ i=>
   rw[List.getElem?_append_right (by rw[hf,add_mul];omega),hf];rw[show (i+1) * k+j - k=i * k+j by rw[add_mul];omega,ih i j hj];simp
theorem wrap_i64 {n:Int} (h1: -9223372036854775808<=n) (h2:n<=9223372036854775807):IntKind.i64.wrap n=n:=by
 rw[IntKind.wrap_i64];omega
def G_ (k:Kind):Option Value->(k.T->Prop)->Prop
 |some v,K=>k.dec v K
 |none,_=>False
theorem fD (k:IntKind) (n:Int) (K:Int->Prop):Kind.dec (.int k) (.int k n) K=K n:=by cases k<;>rfl
theorem gW (b:Bool) (K:Bool->Prop):Kind.dec .bool (.bool b) K=K b:=rfl
theorem abN (b:ByteArray) (K:ByteArray->Prop):Kind.dec .str (.string b) K=K b:=rfl
theorem D9 (a:eG) (K:eG->Prop):Kind.dec .ptr (.pointer a) K=K a:=rfl
theorem fE (a:eG) (l c:Nat) (K:eY->Prop):Kind.dec .slice (.slice a l c) K=K ⟨a,l,c⟩:=rfl
theorem KQ (r:Option Nat) (K:Option Nat->Prop):Kind.dec .map (.map r) K=K r:=rfl
theorem Wp (v:Value) (K:Value->Prop):Kind.dec .any v K=K v:=by cases v<;>rfl
theorem KR (k:Kind) (x:k.T) (K:k.T->Prop):k.dec (k.enc x) K=K x:=by
 cases k with
 |int k=>exact fD k x K
 |any=>exact Wp x K
 |_=>rfl
theorem aiL (k:Kind) (w:World) (a:Addr) (K:k.T->Prop):Ld k w a K↔G_ k (w.cell? a) K:=by
 constructor
 ·rintro⟨x,hx,h⟩;rw[hx];show k.dec (k.enc x) K;rw[KR];exact h
 ·intro h
  cases hc:w.cell? a with
  |none=>rw[hc] at h;exact h.elim
  |some v=>
   rw[hc] at h;obtain⟨x,hx,h⟩:=GI h;exact⟨x,by rw[hc,hx],h⟩
theorem fC (k:Kind) (v:Value) (K:k.T->Prop):G_ k (some v) K=k.dec v K:=rfl
theorem wF (a:Addr) (l c size:Nat) (i:Int) (K:Addr->Prop):iP ⟨some a,l,c⟩ size i K↔(0<=i/\i<(l:Int)/\K (a.add (i.toNat * size))):=by
 constructor
 ·rintro⟨a',h,h0,h1,h2⟩
  cases h
  exact⟨h0,h1,h2⟩
 ·rintro⟨h0,h1,h2⟩;exact⟨a,rfl,h0,h1,h2⟩
theorem KZ {α:Type} (x:α) (P:α->Prop):(∃a,some x=some a/\P a)↔P x:=by
 constructor
 ·rintro⟨a,h,hp⟩;cases h;exact hp
 ·exact λh=>⟨x,rfl,h⟩
end Gp
end
section
namespace Gp
open Go Go.ChangeShapes Go.WideShapes
inductive iT
 |bool|int (k:IntKind)|str
 |slice (e:iT) (n:Nat)
 |agg (r:iT)
 |nil|cons (d:iT) (n:Nat) (r:iT)
 |arr (k:Nat) (d:iT) (n:Nat)
def iT.T:iT->Type
 | .bool=>Bool
 | .int _=>Int
 | .str=>ByteArray
 | .slice e _=>eY×List e.T
 | .agg r=>r.T
 | .nil=>Unit
 | .cons d _ r=>d.T×r.T
 | .arr _ d _=>List d.T
def iT.cells:(d:iT)->d.T->List Value
 | .bool,b=>[.bool b]
 | .int k,n=>[.int k n]
 | .str,s=>[.string s]
 | .slice _ _,x=>[.slice x.1.a x.1.len x.1.cap]
 | .agg r,x=>r.cells x
 | .nil,_=>[]
 | .cons d _ r,x=>d.cells x.1++r.cells x.2
 | .arr _ d _,xs=>xs.flatMap d.cells
def agM {α:Type} (w:World) (s:eY) (n:Nat) (f:α->List Value) (xs:List α):Prop:=
 s.len=xs.length/\s.len<=s.cap/\s.cap<=maxLen/\(xs≠[]->∃b o,s.a=some ⟨b,o,none⟩/\b<w.heap.size/\∀i x,xs[i]? =some x->(f x).length=n/\∀j v,(f x)[j]? =some v->w.cell? ⟨b,o+i * n+j,none⟩=some v)
def amc {α:Type} (k:Nat) (p:α->Prop) (xs:List α):Prop:=xs.length=k/\∀y∈xs,p y
def iT.In (w:World):(d:iT)->d.T->Prop
 | .bool,_=>True
 | .int k,n=>(Lit.int k n).wf=true
 | .str,s=>s.size<=maxLen
 | .slice e n,x=>agM w x.1 n e.cells x.2/\∀y∈x.2,e.In w y
 | .agg r,x=>r.In w x
 | .nil,_=>True
 | .cons d _ r,x=>d.In w x.1/\r.In w x.2
 | .arr k d _,xs=>amc k (λy:d.T=>d.In w y) xs
def iT.ok (P:Program):iT->Sum TypeId (Nat×Nat×List Field)->Bool
 | .bool,.inl t=>match P.underlying t with|some .bool=>true|_=>false
 | .int k,.inl t=>match P.underlying t with|some (.int k')=>decide (k'=k)|_=>false
 | .str,.inl t=>match P.underlying t with|some .string=>true|_=>false
 | .slice e n,.inl t=>match P.underlying t with|some (.slice e')=>Nat.beq (P.cellsOf e') n && Nat.blt 0 n && e.ok P (.inl e')|_=>false
 | .agg r,.inl t=>match P.underlying t with|some (.struct fs)=>r.ok P (.inr (0,P.cellsOf t,fs.toList))|_=>false
 | .arr k d n,.inl t=>match P.underlying t with|some (.array k' e')=>Nat.beq k' k && Nat.beq (P.cellsOf e') n && Nat.beq (P.cellsOf t) (k * n) && d.ok P (.inl e')|_=>false
 | .nil,.inr (o,n,[])=>Nat.beq o n
 | .cons d n r,.inr (o,m,f::fs)=>Nat.beq f.offset o && Nat.beq (P.cellsOf f.type) n && d.ok P (.inl f.type) && r.ok P (.inr (o+n,m,fs))
 |_,_=>false
theorem Vk {α:Type} {n:Nat} {p:Nat->α->Prop} (h:∀i,i<n->∃x,p i x):∃xs:List α,xs.length=n/\∀i x,xs[i]? =some x->p i x:=by
 induction n with
 |zero=>exact⟨[],rfl,λi x h=>by simp at h⟩
 |succ n ih=>
  obtain⟨xs,hl,hx⟩:=ih λi hi=>h i (by omega);obtain⟨y,hy⟩:=h n (by omega);refine⟨xs++[y],by simp[hl],λi x hi=> ?_⟩;by_cases hlt:i<n
  ·rw[List.getElem?_append_left (by omega)] at hi;exact hx i x hi
  ·have hlen:=(List.getElem?_eq_some_iff.1 hi).1;simp only[length_append,List.length_singleton] at hlen;have:i=n:=by omega
   subst this;rw[List.getElem?_append_right (by omega)] at hi;simp[hl] at hi;exact hi ▸ hy
theorem ahl {α:Type} (f:α->List Value) (n:Nat):∀(xs:List α) (cs:List Value),cs.length=xs.length * n->(∀i x,xs[i]? =some x->(cs.drop (i * n)).take n=f x)->cs=xs.flatMap f:=by
 intro xs
 induction xs with
 |nil=>intro cs hl _;simpa using hl
 |cons x xs ih=>
  intro cs hl h;have h0:=h 0 x rfl;simp at h0;have:=ih (cs.drop n) (by simp[hl,add_mul]) λi y hi=>by
   have:=h (i+1) y (by simpa using hi)
   rwa [add_mul,Nat.one_mul,Nat.add_comm,<- List.drop_drop] at this
  rw[flatMap_cons,<- h0,<- this,List.take_append_drop]
section
variable {H:Type} {enc:TypeId×Value->H} {P:Program} {w:World} {base:Nat} {sp:Nat->Bool} {held:Bool}
theorem beq_iff {a b:Nat}:Nat.beq a b=true↔a=b:=⟨Nat.eq_of_beq_eq_true,λh=>by subst h;simp⟩
theorem iT.open (d:iT):(∀(t:TypeId),d.ok P (.inl t)=true->∀(fuel:Nat) (cs:List Value) (x:DataW H×List MemPlace),DataW.trod enc P w base sp held fuel t cs=some x->∃v:d.T,cs=d.cells v/\d.In w v)/\
  (∀(o m:Nat) (fs:List Field),d.ok P (.inr (o,m,fs))=true->∀(fuel:Nat) (cs:List Value),cs.length=m->(∀f∈fs,∃x,DataW.trod enc P w base sp held fuel f.type ((cs.drop f.offset).take (P.cellsOf f.type))=some x)->∃v:d.T,cs.drop o=d.cells v/\d.In w v):=by
 induction d with
 |bool=>
  refine⟨λt ht fuel cs x h=> ?_,λo m fs h=>by simp[iT.ok] at h⟩;simp only[iT.ok] at ht;split at ht
  ·rename_i hu;obtain⟨b,rfl,_⟩:=DataW.trod_bool hu h;exact⟨b,rfl,trivial⟩
  ·cases ht
 |int k=>
  refine⟨λt ht fuel cs x h=> ?_,λo m fs h=>by simp[iT.ok] at h⟩;simp only[iT.ok] at ht;split at ht
  ·rename_i k' hu;have:=of_decide_eq_true ht;subst this;obtain⟨n,rfl,_,hw⟩:=DataW.trod_int hu h;exact⟨n,rfl,hw⟩
  ·cases ht
 |str=>
  refine⟨λt ht fuel cs x h=> ?_,λo m fs h=>by simp[iT.ok] at h⟩;simp only[iT.ok] at ht;split at ht
  ·rename_i hu;obtain⟨b,rfl,_,hw⟩:=DataW.trod_string hu h;exact⟨b,rfl,hw⟩
  ·cases ht
 |slice e n ih=>
  refine⟨λt ht fuel cs x h=> ?_,λo m fs h=>by simp[iT.ok] at h⟩;simp only[iT.ok] at ht;split at ht
  case h_2=>cases ht
  rename_i e' hu;simp only[and_eq_true,beq_iff,blt_eq] at ht;obtain⟨⟨hn,Z⟩,he⟩:=ht;rcases Go.Deep.open_slice hu h with ⟨rfl,rfl⟩|⟨a,len,cap,m,g,D,Pl,rfl,hb,hl,hm,ac,rfl,hx⟩
  ·exact⟨(⟨none,0,0⟩,[]),rfl,⟨rfl,Nat.le_refl _,by simp[maxLen],λh=>absurd rfl h⟩,λy hy=>by simp at hy⟩
  ·have hlm:len<=m:=by rw[ac];split<;>omega
   obtain⟨xs,Y,J⟩:=Vk (n:=len) (p:=λi (v:e.T)=>(e.cells v).length=n/\(∀j,j<n->w.cell? (a.add (i * n+j))=(e.cells v)[j]?)/\e.In w v) λi hi=>by
    obtain⟨cs',h1,h2⟩:=hx i (by omega);obtain⟨_,hlen,z⟩:=World.cells?_some h1;obtain⟨v,rfl,hv⟩:=ih.1 e' he _ _ _ h2;rw[hn] at hlen z;exact⟨v,hlen,λj hj=>by rw[<- Go.Deep.add_add];exact z j hj,hv⟩
   refine⟨(⟨some a,len,cap⟩,xs),rfl,⟨by simp[Y],hl,hm,λae=> ?_⟩,λy hy=> ?_⟩
   ·obtain⟨b,o,spot⟩:=a;have hx0:∃x0,xs[0]? =some x0:=by cases xs with
     |nil=>exact absurd rfl ae
     |cons x _=>exact⟨x,rfl⟩
    obtain⟨x0,hx0⟩:=hx0;obtain⟨l0,c0,_⟩:=J 0 x0 hx0;have I:=c0 0 Z;rw[List.getElem?_eq_getElem (by omega)] at I;have hs:=World.cell?_spot I;have U:spot=none:=by simpa [Addr.add] using hs
    subst U;refine⟨b,o,rfl,?_,λi x hi=>⟨(J i x hi).1,λj v hj=> ?_⟩⟩
    ·simp only[Nat.zero_mul,Nat.zero_add] at I;rw[fM] at I;unfold World.cell? at I
     cases hb:w.heap[b]? with
     |none=>simp[hb] at I
     |some o=>exact(Array.getElem?_eq_some_iff.1 hb).1
    ·have:=(J i x hi).2.1 j (by rw[<- (J i x hi).1];exact(List.getElem?_eq_some_iff.1 hj).1);rw[fM,hj] at this;rw[Nat.add_assoc];exact this
   ·obtain⟨i,hi⟩:=List.getElem?_of_mem hy;exact(J i y hi).2.2
 |agg r ih=>
  refine⟨λt ht fuel cs x h=> ?_,λo m fs h=>by simp[iT.ok] at h⟩;simp only[iT.ok] at ht;split at ht
  case h_2=>cases ht
  rename_i fs hu;obtain⟨xs,n,rfl,_,hl,Y,hf⟩:=DataW.trod_struct hu h;obtain⟨v,hv,hi⟩:=ih.2 0 _ _ ht n cs hl λf hf'=>by
   obtain⟨i,hi⟩:=List.getElem?_of_mem hf';have hi':fs[i]? =some f:=by simpa using hi
   have:=hf i f hi';have af:i<xs.length:=by
    rw[Y];exact(Array.getElem?_eq_some_iff.1 hi').1
   rw[List.getElem?_eq_getElem af] at this;exact⟨_,this⟩
  exact⟨v,hv,hi⟩
 |nil=>
  refine⟨λt h=>by simp[iT.ok] at h,λo m fs h fuel cs hl hf=> ?_⟩
  cases fs with
  |nil=>
   simp only[iT.ok,beq_iff] at h;subst h;exact⟨(),by simp[iT.cells,hl],trivial⟩
  |cons f fs=>simp[iT.ok] at h
 |cons d n r ihd ihr=>
  refine⟨λt h=>by simp[iT.ok] at h,λo m fs h fuel cs hl hf=> ?_⟩
  cases fs with
  |nil=>simp[iT.ok] at h
  |cons f fs=>
   simp only[iT.ok,and_eq_true,beq_iff] at h;obtain⟨⟨⟨h1,h2⟩,h3⟩,h4⟩:=h;obtain⟨x,hx⟩:=hf f (List.mem_cons_self ..);obtain⟨v,hv,ag⟩:=ihd.1 _ h3 _ _ _ hx;obtain⟨u,hu,ah⟩:=ihr.2 _ _ _ h4 fuel cs hl λg hg=>hf g (List.mem_cons_of_mem _ hg);refine⟨(v,u),?_,ag,ah⟩;rw[h1,h2] at hv;show cs.drop o=d.cells v++r.cells u;rw[<- hv,<- hu,<- List.drop_drop,List.take_append_drop]
 |arr k d n ih=>
  refine⟨λt ht fuel cs x h=> ?_,λo m fs h=>by simp[iT.ok] at h⟩;simp only[iT.ok] at ht;split at ht
  case h_2=>cases ht
  rename_i k' e' hu;simp only[and_eq_true,beq_iff] at ht;obtain⟨⟨⟨hk,hn⟩,hc⟩,he⟩:=ht;obtain⟨xs,g,rfl,_,hl,Y,hf⟩:=DataW.trod_array hu h;obtain⟨vs,aa,ab⟩:=Vk (n:=k) (p:=λi (v:d.T)=>(cs.drop (i * n)).take n=d.cells v/\d.In w v) λi hi=>by
   have:=hf i (by omega);rw[List.getElem?_eq_getElem (by omega)] at this;rw[hn] at this;exact ih.1 _ he _ _ _ this
  refine⟨vs,?_,aa,λy hy=> ?_⟩
  ·exact ahl d.cells n vs cs (by rw[hl,hc,aa]) λi x hi=>(ab i x hi).1
  ·obtain⟨i,hi⟩:=List.getElem?_of_mem hy;exact(ab i y hi).2
def iT.value:(d:iT)->d.T->Value
 | .bool,b=> .bool b
 | .int k,n=> .int k n
 | .str,s=> .string s
 | .slice _ _,x=> .slice x.1.a x.1.len x.1.cap
 | .agg r,x=> .agg ⟨r.cells x⟩
 | .nil,_=> .agg #[]
 | .cons d n r,x=> .agg ⟨(iT.cons d n r).cells x⟩
 | .arr k d n,xs=> .agg ⟨(iT.arr k d n).cells xs⟩
theorem iT.arg (d:iT) {base0:Nat} {t:TypeId} {v:Value} {y:DataW H} {ps:List MemPlace} (ht:d.ok P (.inl t)=true) (j:Value.okWide P w .any base0 t v) (h:DataW.Trod enc P w base sp held t v y ps):∃x:d.T,v=d.value x/\d.In w x:=by
 obtain⟨fuel,h⟩:=h;obtain⟨x,hc,hi⟩:=d.open.1 t ht fuel _ _ h
 refine⟨x,?_,hi⟩;unfold Value.okWide at j
 cases d with
 |bool=>
  simp only[iT.ok] at ht;split at ht
  ·rename_i hu;simp only[hu,Cell.okWide] at j
   cases v<;>simp_all [Cell.ok,Value.cells,iT.cells,iT.value]
  ·cases ht
 |int k=>
  simp only[iT.ok] at ht;split at ht
  ·rename_i k' hu;simp only[hu,Cell.okWide] at j
   cases v<;>simp_all [Cell.ok,Value.cells,iT.cells,iT.value]
  ·cases ht
 |str=>
  simp only[iT.ok] at ht;split at ht
  ·rename_i hu;simp only[hu,Cell.okWide] at j
   cases v<;>simp_all [Cell.ok,Value.cells,iT.cells,iT.value]
  ·cases ht
 |slice e n=>
  simp only[iT.ok] at ht;split at ht
  ·rename_i k' hu;simp only[hu,Cell.okWide] at j
   cases v<;>simp_all [Cell.ok,Value.cells,iT.cells,iT.value]
  ·cases ht
 |agg r=>
  simp only[iT.ok] at ht;split at ht
  ·rename_i fs hu;simp only[hu] at j;obtain⟨cs,rfl,_⟩:=j;show Value.agg cs=Value.agg ⟨r.cells x⟩;rw[<- show cs.toList=r.cells x from hc]
  ·cases ht
 |arr k e n=>
  simp only[iT.ok] at ht;split at ht
  ·rename_i k' e' hu;simp only[hu] at j;obtain⟨cs,rfl,_⟩:=j;show Value.agg cs=Value.agg ⟨(iT.arr k e n).cells x⟩;rw[<- show cs.toList=(iT.arr k e n).cells x from hc]
  ·cases ht
 |nil=>simp[iT.ok] at ht
 |cons d n r=>simp[iT.ok] at ht
end
theorem aep {W w':World} (h:∀S,fV W w' S):Go.RowKit.Below W.heap.size W w':=
 ⟨(h λ_=>False).io.1,(h λ_=>False).io.2.1,(h λ_=>False).io.2.2,(h λ_=>False).size,λk hk=>(h λ_=>False).same k hk (by simp)⟩
end Gp
end
section
namespace Gp
open Go
def Buf (w:World) (s:eY) (vs:List Value):Prop:=
 s.len=vs.length/\((s.a=none/\vs=[]/\s.cap=0)\/∃b pad,s.a=some ⟨b,0,none⟩/\s.cap=vs.length+pad.length/\Row w b (vs++pad))
def eY.at (s:eY) (b:Nat):Prop:=∃o,s.a=some ⟨b,o,none⟩
theorem Buf.cells {w:World} {s:eY} {vs:List Value} (h:Buf w s vs):ng w s.a s.len vs:=by
 obtain⟨hl,⟨ha,rfl,_⟩|⟨b,pad,ha,_,hr⟩⟩:=h
 ·rw[ha];rfl
 ·rw[ha];refine⟨hl.symm,λj hj=> ?_⟩;rw[fM,hr.cell,Nat.zero_add,List.getElem?_append_left hj]
theorem Buf.fr {w w':World} {s:eY} {vs:List Value} {S:Nat->Prop} (h:Buf w s vs) (hf:fV w w' S) (hs:∀b,eY.at s b->¬S b):Buf w' s vs:=by
 obtain⟨hl,⟨ha,h1,h2⟩|⟨b,pad,ha,hc,hr⟩⟩:=h
 ·exact⟨hl,.inl ⟨ha,h1,h2⟩⟩
 ·exact⟨hl,.inr ⟨b,pad,ha,hc,hr.fr hf (hs b ⟨0,ha⟩)⟩⟩
theorem Ep {b:Nat}:∀(vs:List Value) (w:World) (l:List Value) (o i:Nat),Row w b l->o+i+vs.length<=l.length->
  Row (setCells w ⟨b,o,none⟩ vs i) b (l.take (o+i)++vs++l.drop (o+i+vs.length))/\∀S:Nat->Prop,S b->fV w (setCells w ⟨b,o,none⟩ vs i) S:=by
 intro vs
 induction vs with
 |nil=>intro w l o i hr _;exact⟨by simpa [setCells] using hr,λS _=>fV.refl _ _⟩
 |cons v vs ih=>
  intro w l o i hr hl;simp only[List.length_cons] at hl;have r1:=hr.set (o+i) v;obtain⟨r2,f2⟩:=ih (w.setCell ⟨b,o+i,none⟩ v) _ o (i+1) r1 (by rw[List.length_set];omega);have e1:(l.set (o+i) v).take (o+(i+1))=l.take (o+i)++[v]:=by
   rw[<- Nat.add_assoc,List.take_succ_eq_append_getElem (by simp;omega),List.take_set_of_le (by omega)];simp
  have e2:(l.set (o+i) v).drop (o+(i+1)+vs.length)=l.drop (o+i+(vs.length+1)):=by
   rw[List.drop_set_of_lt (by omega)];congr 1;omega
  rw[e1,e2] at r2;show Row (setCells (w.setCell ((⟨b,o,none⟩:Addr).add i) v) ⟨b,o,none⟩ vs (i+1)) b _/\∀S:Nat->Prop,S b->fV w (setCells (w.setCell ((⟨b,o,none⟩:Addr).add i) v) ⟨b,o,none⟩ vs (i+1)) S;rw[fM];exact⟨by simpa using r2,λS hs=>(fV.set w ⟨b,o+i,none⟩ v hs).trans (f2 S hs) λ_ _ e=>e⟩
theorem acy {e:TypeId} {z:Value} {s:eY} {vs xs:List Value} {w:World} {K:eY->b_} (h:Buf w s vs) (h1:∀v∈xs,iC v=true) (hl:vs.length+xs.length<=2^46)
  (hK:∀s' w',Buf w' s' (vs++xs)->(fV w w' (eY.at s))->(∀b,eY.at s' b->eY.at s b\/w.heap.size<=b)->(s'.a=none->vs++xs=[]/\s.a=none)->K s' w'):PX e 1 1 [z] s xs.length xs w K:=by
 obtain⟨hlen,hc⟩:=id h;by_cases u:s.len+xs.length<=s.cap
 ·rcases hc with ⟨ha,rfl,hc⟩|⟨b,pad,ha,hc,hr⟩
  ·simp at hlen;have:xs=[]:=by cases xs with
    |nil=>rfl
    |cons _ _=>simp at u;omega
   subst this;refine .inl ⟨u,λa ha'=>(by rw[ha] at ha';cases ha'),h1,?_⟩;rw[ha];exact hK _ _ ⟨by simp[hlen],.inl ⟨rfl,rfl,hc⟩⟩ (fV.refl _ _) (λb ⟨o,hb⟩=>by cases hb) λ_=>⟨rfl,ha⟩
  ·obtain⟨r2,f2⟩:=Ep xs w (vs++pad) s.len 0 hr (by simp;omega);refine .inl ⟨u,λa ha'=> ?_,h1,?_⟩
   ·rw[ha] at ha';cases ha';intro j hj;rw[fM,fM,hr.cell,hr.frozen];simp;omega
   ·rw[ha];simp only[fM,Nat.zero_add,Nat.mul_one];have e1:(vs++pad).take (s.len+0)=vs:=by rw[Nat.add_zero,hlen];simp
    have e2:((vs++pad).drop (s.len+0+xs.length)).length+xs.length=pad.length:=by simp;omega
    rw[e1] at r2;exact hK _ _ ⟨by simp[hlen],.inr ⟨b,_,rfl,by simp only[length_append];omega,r2⟩⟩ (f2 _ ⟨0,ha⟩) (λc ⟨o,hc'⟩=> .inl (by cases hc';exact⟨0,ha⟩)) (λhx=>by cases hx)
 ·refine .inr ⟨by omega,by omega,by omega,vs,?_,λc h1' h2'=> ?_⟩
  ·rw[Nat.mul_one];exact h.cells
  ·refine hK _ _ ⟨by simp[hlen],.inr ⟨w.heap.size,fO [z] (c - (s.len+xs.length)),rfl,?_,by simpa using Row.new w.drew _ e⟩⟩ ((fV.drew w _).trans (fV.alloc w.drew _ _) λ_ _ e=>e) (λb ⟨o,hb⟩=> .inr (by cases hb;exact Nat.le_refl _)) (λhx=>by cases hx);have:∀n,(fO [z] n).length=n:=λn=>by
    induction n with
    |zero=>rfl
    |succ n ih=>simp[fO,ih]
   rw[this];simp only[length_append];omega
abbrev Ext (w w':World):Prop:=∀S:Nat->Prop,fV w w' S
theorem Ext.refl (w:World):Ext w w:=λS=>fV.refl w S
theorem Ext.trans {w w1 w2:World} (h:Ext w w1) (h':Ext w1 w2):Ext w w2:=λS=>(h S).trans (h' S) λ_ _ e=>e
theorem Ext.drew (w:World):Ext w w.drew:=λS=>fV.drew w S
theorem Ext.fr {w w1 w2:World} {S:Nat->Prop} (h:Ext w w1) (h':fV w1 w2 S):fV w w2 S:=(h S).trans h' λ_ _ e=>e
theorem fV.ext {w w1 w2:World} {S:Nat->Prop} (h:fV w w1 S) (h':Ext w1 w2):fV w w2 S:=h.trans (h' S) λ_ _ e=>e
theorem fV.new {w w':World} {S:Nat->Prop} (h:fV w w' S) (hs:∀b,b<w.heap.size->¬S b):Ext w w':=λ_=>⟨h.size,λb hb _=>h.same b hb (hs b hb),h.io⟩
theorem Ext.new {w w1 w2:World} {S:Nat->Prop} (h:Ext w w1) (h':fV w1 w2 S) (hs:∀b,b<w.heap.size->¬S b):Ext w w2:=(h.fr h').new hs
theorem Ext.size {w w':World} (h:Ext w w'):w.heap.size<=w'.heap.size:=(h λ_=>False).size
theorem Row.ext {w w':World} {b:Nat} {l:List Value} (h:Row w b l) (hf:Ext w w'):Row w' b l:=h.fr (hf λ_=>False) (by simp)
theorem Buf.ext {w w':World} {s:eY} {vs:List Value} (h:Buf w s vs) (hf:Ext w w'):Buf w' s vs:=h.fr (hf λ_=>False) (λ_ _=>by simp)
theorem fV.jh (w:World) (b:Nat) (o:Obj):fV w (w.putObj b o) (·=b):=
 ⟨by simp[World.putObj],λc _ hn=>by simp[World.putObj,Array.getElem?_setIfInBounds];intro e;exact absurd e.symm hn,rfl,rfl,rfl⟩
theorem fP {w:World} {T:TypeId} {l:List Value} {K:Addr->b_} (h:∀b w1,Row w1 b l->b=w.heap.size->w1.heap.size=b+1->Ext w w1->K ⟨b,0,none⟩ w1):Al w (.cells ⟨l⟩ T) K:=tV h
theorem fK {w:World} {b:Nat} {l:List Value} {vs:List Value} {K:b_} (hr:Row w b l) (hv:vs.all iC=true) (hl:vs.length=l.length)
  (h:∀w1,Row w1 b vs->(∀S:Nat->Prop,S b->fV w w1 S)->w1.heap.size=w.heap.size->K w1):iL vs w ⟨b,0,none⟩ 0 K:=by
 refine agR vs w l 0 0 hr (λv h=>List.all_eq_true.1 hv v h) (by omega) λw1 r1 f1 z1=>h w1 ?_ f1 z1;have:List.drop vs.length l=[]:=by rw[hl];simp
 simpa [this] using r1
theorem agQ (w:World) (a:Addr) (i:Nat) (K:b_):iL [] w a i K=K w:=rfl
theorem uP {w:World} {T:TypeId} {z vs:List Value} {K:Addr->b_} (hv:vs.all iC=true) (hl:vs.length=z.length)
  (h:∀b w1,Row w1 b vs->b=w.heap.size->w1.heap.size=b+1->Ext w w1->K ⟨b,0,none⟩ w1):Al w (.cells ⟨z⟩ T) λa w1=>iL vs w1 a 0 λw2=>K a w2:=by
 refine fP λb w1 r1 e1 z1 f1=>fK r1 hv hl λw2 r2 f2 z2=>h b w2 r2 e1 (by omega) (f1.new (f2 (·=b) rfl) λx hx e=>by omega)
theorem block_add (a:Addr) (j:Nat):(a.add j).block=a.block:=by unfold Addr.add;split<;>rfl
theorem cell_lt {w:World} {a:Addr} {v:Value} (h:w.cell? a=some v):a.block<w.heap.size:=by
 unfold World.cell? at h
 cases hh:w.heap[a.block]? with
 |none=>simp[hh] at h
 |some o=>exact(Array.getElem?_eq_some_iff.1 hh).1
theorem Pq {w w':World} {a:Addr} {v:Value} {S:Nat->Prop} (h:w.cell? a=some v) (hf:fV w w' S) (hs:¬S a.block):w'.cell? a=some v:=by
 have:=hf.same a.block (cell_lt h) hs;rw[<- h];simp only[World.cell?,this]
theorem yh {w w':World} {a:Addr} {v:Value} (h:w.cell? a=some v) (hf:Ext w w'):w'.cell? a=some v:=Pq h (hf λ_=>False) (by simp)
theorem fV.gZ (W:World) (l:Nat) (st:LoopState) (p:Option Code):fV W (Gp.gZ W l st p) (·=l):=
 ⟨by simp[Gp.gZ],λb _ hn=>by simp[Gp.gZ,getElem?_modify];omega,rfl,rfl,rfl⟩
theorem fV.fF (W:World) (l:Nat):fV W (Gp.fF W l) (·=l):=
 ⟨by simp[Gp.fF],λb _ hn=>by simp[Gp.fF,getElem?_modify];omega,rfl,rfl,rfl⟩
def lX (P:Program) (ks:List Shape) (v:Value) (C:b_) (xs:List (zM ks)):Prop:=
 match v with
 | .func (.func f) first cap=>jZ P f=true/\∀(l:Nat) (Q:Nat->b_) (D:b_),
   (∀i W,Q i W->C W)->(∀i W W',Q i W->Ext W W'->Q i W')->(∀W W',D W->Ext W W'->D W')->
   (∀i x W (K:Bool->b_),xs[i]? =some x->Q i W->(∀W',Q (i+1) W'->K true W')->(∀W',D W'->K false W')->BZ P l (encR ks x) W K)->
   ∀w,Q 0 w->EM P [] f (first.toList++(Value.func (.yield l) #[] #[]::cap.toList)) w λ_ w'=>Q xs.length w'\/D w'
 |_=>False
theorem kC {P:Program} {l:Nat} {sh:List Shape} {args:List Value} {w:World} {K:Value->b_} (h:BZ P l args w λb w'=>K (.bool b) w'):iY P sh (.func (.yield l) #[] #[]) args w K:=h
def jU (r:Option Nat) (w:World):Nat:=if r.isNone then w.heap.size+1 else w.heap.size
def Mark (r:Option Nat) (w W:World):Prop:=r=none->W.heap[w.heap.size]? =some (.deferred (some []))
theorem tN {P:Program} {r:Option Nat} {ks:List Shape} {v:Value} {C:b_} {xs:List (zM ks)} {w:World} {body:Nat->zM ks->World->(Exit->b_)->Prop} {Kn Kr:b_} {Kx:List (Nat×(b_))}
  (hv:lX P ks v C xs) (I:Nat->b_) (J:Exit->b_) (hr:∀l₀,r=some l₀->∃lp,w.heap[l₀]? =some (.loop lp))
  (h0:∀w1,Ext w w1->w1.heap.size=jU r w+1->I 0 w1)
  (hC:∀i W,I i W->C W)
  (stI:∀i W W',I i W->fV W W' (·=jU r w)->I i W')
  (stJ:∀e W W',J e W->fV W W' (·=jU r w)->J e W')
  (jmp:∀e W,J e W->e= .ret\/∃id,e= .exit id)
  (step:∀i x W Kb,xs[i]? =some x->I i W->jU r w<W.heap.size->(∀W' S,fV (fF W (jU r w)) W' S->(∀b,w.heap.size<=b->b<=jU r w->¬S b)->I (i+1) W'->Kb .normal W')->
   (∀e W' S,fV (fF W (jU r w)) W' S->(∀b,w.heap.size<=b->b<=jU r w->¬S b)->J e W'->Kb e W')->body (jU r w) x W Kb)
  (fn:∀W,I xs.length W->Mark r w W->Kn W) (fr:∀W,J .ret W->Mark r w W->Kr W) (fx:∀id W,J (.exit id) W->Mark r w W->Lh id Kx W):
  Ez P r ks v w body Kn Kr Kx:=by
 unfold Ez;refine⟨hr,?_⟩;unfold lX at hv;split at hv
 ·rename_i f first cap
  obtain⟨hb,hv⟩:=hv;refine⟨hb,λl L w1 ctx=> ?_⟩;have hl:l=jU r w:=ctx.at_;subst hl;have u:w.heap.size<=jU r w:=by unfold jU;split<;>omega
  have mext:∀W W',Mark r w W->jU r w<W.heap.size->Ext W W'->Mark r w W':=λW W' hm U he hn=>by
   rw[(he λ_=>False).same _ (by omega) (by simp)];exact hm hn
  have mset:∀W st p,Mark r w W->Mark r w (gZ W (jU r w) st p):=λW st p hm hn=>by
   have:¬(jU r w=w.heap.size):=by unfold jU;rw[hn];simp
   rw[show (gZ W (jU r w) st p).heap[w.heap.size]? =W.heap[w.heap.size]? by simp[gZ,getElem?_modify,this]];exact hm hn
  have mbody:∀W W' S,Mark r w W->jU r w<W.heap.size->fV (fF W (jU r w)) W' S->(∀b,w.heap.size<=b->b<=jU r w->¬S b)->Mark r w W':=λW W' S hm U hf hs hn=>by
   have:¬(jU r w=w.heap.size):=by unfold jU;rw[hn];simp
   rw[hf.same _ (by simp[fF];omega) (hs _ (Nat.le_refl _) u)];rw[show (fF W (jU r w)).heap[w.heap.size]? =W.heap[w.heap.size]? by simp[fF,getElem?_modify,this]];exact hm hn
  have llt:∀st p W,L st p W->jU r w<W.heap.size:=λst p W hL=>by
   obtain⟨lp,h⟩:=ctx.isLoop st p W hL;exact(Array.getElem?_eq_some_iff.1 h).1
  have lext:∀st p W W',L st p W->Ext W W'->L st p W':=λst p W W' hL he=>
   ctx.frame st p W W' hL ((he λ_=>False).same _ (llt st p W hL) (by simp))
  refine Calls.mono (hv (jU r w) (λi W=>I i W/\L .ready none W/\Mark r w W) (λW=>∃e p,J e W/\yM e=some p/\p≠none/\L .done p W/\Mark r w W)
   (λi W h=>hC i W h.1) (λi W W' h he=>⟨stI i W W' h.1 (he _),lext _ _ _ _ h.2.1 he,mext _ _ h.2.2 (llt _ _ _ h.2.1) he⟩)
   (λW W' ⟨e,p,h1,h2,h3,h4,h5⟩ he=>⟨e,p,stJ e W W' h1 (he _),h2,h3,lext _ _ _ _ h4 he,mext _ _ h5 (llt _ _ _ h4) he⟩) ?_ w1 ?_) ?_
  ·intro i x W K hx ⟨hI,hL,hm⟩ ht hf;refine ctx.yield x W none K hL (step i x W _ hx hI (llt _ _ _ hL) ?_ ?_)
   ·intro W' S j hs hI';have hL':L .busy none W':=ctx.frame _ _ _ _ (ctx.busy _ _ hL) (j.same _ (by simpa [fF] using llt _ _ _ hL) (hs _ u (Nat.le_refl _)));exact⟨hL',none,rfl,ht _ ⟨stI _ _ _ hI' (fV.gZ _ _ _ _),ctx.set _ _ _ _ _ hL',mset _ _ _ (mbody W W' S hm (llt _ _ _ hL) j hs)⟩⟩
   ·intro e W' S j hs hJ;have hL':L .busy none W':=ctx.frame _ _ _ _ (ctx.busy _ _ hL) (j.same _ (by simpa [fF] using llt _ _ _ hL) (hs _ u (Nat.le_refl _)));have z:=mset W' .done;rcases jmp _ _ hJ with rfl|⟨id,rfl⟩
    ·exact⟨hL',some .ret,rfl,hf _ ⟨.ret,some .ret,stJ _ _ _ hJ (fV.gZ _ _ _ _),rfl,by simp,ctx.set _ _ _ _ _ hL',z _ (mbody W W' S hm (llt _ _ _ hL) j hs)⟩⟩
    ·exact⟨hL',some (.exit id),rfl,hf _ ⟨.exit id,some (.exit id),stJ _ _ _ hJ (fV.gZ _ _ _ _),rfl,by simp,ctx.set _ _ _ _ _ hL',z _ (mbody W W' S hm (llt _ _ _ hL) j hs)⟩⟩
  ·exact⟨h0 w1 (λS=>⟨by have:=ctx.size;omega,λb hb _=>ctx.old b hb,ctx.io⟩) ctx.size,ctx.ready,ctx.marks⟩
  ·rintro e w2 ⟨he,h⟩;refine⟨he,?_⟩;rcases h with ⟨hI,hL,hm⟩|⟨e',p,hJ,hj,hp,hL,hm⟩
   ·exact⟨.ready,none,hL,by simp,fn _ (stI _ _ _ hI (fV.gZ _ _ _ _)) (mset _ _ _ hm)⟩
   ·refine⟨.done,p,hL,by simp,?_⟩;have hJ':=stJ _ _ _ hJ (fV.gZ w2 (jU r w) .exhausted p);have hm':=mset w2 .exhausted p hm;rcases jmp _ _ hJ with rfl|⟨id,rfl⟩
    ·simp only[yM,Option.some.injEq] at hj;subst hj;exact fr _ hJ' hm'
    ·simp only[yM,Option.some.injEq] at hj;subst hj;exact fx _ _ hJ' hm'
 ·exact hv.elim
def Pj (P:Program) (ks:List Shape) (v:Value) (C:b_) (xs:List (zM ks)):Prop:=
 match v with
 | .func (.func f) first cap=>jZ P f=true/\∀(l:Nat) (w:World) (Q:Nat->b_) (D:b_),
   (∀i W,Q i W->C W)->(∀i W W',Q i W->fV W W' (w.heap.size<=·)->Q i W')->(∀W W',D W->fV W W' (w.heap.size<=·)->D W')->
   (∀i x W (K:Bool->b_),xs[i]? =some x->Q i W->(∀W',Q (i+1) W'->fV W W' (·<w.heap.size)->K true W')->(∀W',D W'->fV W W' (·<w.heap.size)->K false W')->BZ P l (encR ks x) W K)->
   Q 0 w->EM P [] f (first.toList++(Value.func (.yield l) #[] #[]::cap.toList)) w λ_ w'=>Q xs.length w'\/D w'
 |_=>False
theorem adS {P:Program} {r:Option Nat} {ks:List Shape} {v:Value} {C:b_} {xs:List (zM ks)} {w:World} {body:Nat->zM ks->World->(Exit->b_)->Prop} {Kn Kr:b_} {Kx:List (Nat×(b_))}
  (hv:Pj P ks v C xs) (I:Nat->b_) (J:Exit->b_) (hr:∀l₀,r=some l₀->∃lp,w.heap[l₀]? =some (.loop lp))
  (h0:∀w1,Ext w w1->w1.heap.size=jU r w+1->I 0 w1)
  (hC:∀i W,I i W->C W)
  (stI:∀i W W',I i W->fV W W' (jU r w<=·)->I i W')
  (stJ:∀e W W',J e W->fV W W' (jU r w<=·)->J e W')
  (jmp:∀e W,J e W->e= .ret\/∃id,e= .exit id)
  (step:∀i x W Kb,xs[i]? =some x->I i W->jU r w<W.heap.size->(∀W' S,fV (fF W (jU r w)) W' S->(∀b,S b->b<w.heap.size)->I (i+1) W'->Kb .normal W')->
   (∀e W' S,fV (fF W (jU r w)) W' S->(∀b,S b->b<w.heap.size)->J e W'->Kb e W')->body (jU r w) x W Kb)
  (fn:∀W,I xs.length W->Mark r w W->Kn W) (fr:∀W,J .ret W->Mark r w W->Kr W) (fx:∀id W,J (.exit id) W->Mark r w W->Lh id Kx W):
  Ez P r ks v w body Kn Kr Kx:=by
 unfold Ez;refine⟨hr,?_⟩;unfold Pj at hv;split at hv
 ·rename_i f first cap
  obtain⟨hb,hv⟩:=hv;refine⟨hb,λl L w1 ctx=> ?_⟩;have hl:l=jU r w:=ctx.at_;subst hl;have u:w.heap.size<=jU r w:=by unfold jU;split<;>omega
  have hz0:=ctx.size;have up:∀{W W'},fV W W' (w1.heap.size<=·)->fV W W' (jU r w<=·):=λhe=>he.mono λb h=>by omega
  have ls:∀W st p,fV W (gZ W (jU r w) st p) (jU r w<=·):=λW st p=>(fV.gZ W _ st p).mono λb h=>by omega
  have mext:∀W W',Mark r w W->jU r w<W.heap.size->fV W W' (w1.heap.size<=·)->Mark r w W':=λW W' hm U he hn=>by
   rw[he.same _ (by omega) (by omega)];exact hm hn
  have mset:∀W st p,Mark r w W->Mark r w (gZ W (jU r w) st p):=λW st p hm hn=>by
   have:¬(jU r w=w.heap.size):=by unfold jU;rw[hn];simp
   rw[show (gZ W (jU r w) st p).heap[w.heap.size]? =W.heap[w.heap.size]? by simp[gZ,getElem?_modify,this]];exact hm hn
  have mbody:∀W W' S,Mark r w W->jU r w<W.heap.size->fV (fF W (jU r w)) W' S->(∀b,w.heap.size<=b->b<=jU r w->¬S b)->Mark r w W':=λW W' S hm U hf hs hn=>by
   have:¬(jU r w=w.heap.size):=by unfold jU;rw[hn];simp
   rw[hf.same _ (by simp[fF];omega) (hs _ (Nat.le_refl _) u)];rw[show (fF W (jU r w)).heap[w.heap.size]? =W.heap[w.heap.size]? by simp[fF,getElem?_modify,this]];exact hm hn
  have llt:∀st p W,L st p W->jU r w<W.heap.size:=λst p W hL=>by
   obtain⟨lp,h⟩:=ctx.isLoop st p W hL;exact(Array.getElem?_eq_some_iff.1 h).1
  have lext:∀st p W W',L st p W->fV W W' (w1.heap.size<=·)->L st p W':=λst p W W' hL he=>
   ctx.frame st p W W' hL (he.same _ (llt st p W hL) (by omega))
  refine Calls.mono (hv (jU r w) w1 (λi W=>I i W/\L .ready none W/\Mark r w W) (λW=>∃e p,J e W/\yM e=some p/\p≠none/\L .done p W/\Mark r w W)
   (λi W h=>hC i W h.1) (λi W W' h he=>⟨stI i W W' h.1 (up he),lext _ _ _ _ h.2.1 he,mext _ _ h.2.2 (llt _ _ _ h.2.1) he⟩)
   (λW W' ⟨e,p,h1,h2,h3,h4,h5⟩ he=>⟨e,p,stJ e W W' h1 (up he),h2,h3,lext _ _ _ _ h4 he,mext _ _ h5 (llt _ _ _ h4) he⟩) ?_ ?_) ?_
  ·intro i x W K hx ⟨hI,hL,hm⟩ ht hf;have hz1:=ctx.size;have frm:∀W' S st p,fV (fF W (jU r w)) W' S->(∀b,S b->b<w.heap.size)->fV W (gZ W' (jU r w) st p) (·<w1.heap.size):=λW' S st p j hS=>
    ((((fV.fF W (jU r w)).mono (S':=(·<w1.heap.size)) λb e=>by subst e;omega).trans (j.mono (S':=(·<w1.heap.size)) λb e=>by have:=hS b e;omega) λ_ _ e=>e).trans ((fV.gZ W' (jU r w) st p).mono (S':=(·<w1.heap.size)) λb e=>by subst e;omega) λ_ _ e=>e)
   refine ctx.yield x W none K hL (step i x W _ hx hI (llt _ _ _ hL) ?_ ?_)
   ·intro W' S j hS hI';have hs:∀b,w.heap.size<=b->b<=jU r w->¬S b:=λb h1 _ h3=>by have:=hS b h3;omega
    have hL':L .busy none W':=ctx.frame _ _ _ _ (ctx.busy _ _ hL) (j.same _ (by simpa [fF] using llt _ _ _ hL) (hs _ u (Nat.le_refl _)));exact⟨hL',none,rfl,ht _ ⟨stI _ _ _ hI' (ls _ _ _),ctx.set _ _ _ _ _ hL',mset _ _ _ (mbody W W' S hm (llt _ _ _ hL) j hs)⟩ (frm W' S _ _ j hS)⟩
   ·intro e W' S j hS hJ;have hs:∀b,w.heap.size<=b->b<=jU r w->¬S b:=λb h1 _ h3=>by have:=hS b h3;omega
    have hL':L .busy none W':=ctx.frame _ _ _ _ (ctx.busy _ _ hL) (j.same _ (by simpa [fF] using llt _ _ _ hL) (hs _ u (Nat.le_refl _)));have z:=mset W' .done;rcases jmp _ _ hJ with rfl|⟨id,rfl⟩
    ·exact⟨hL',some .ret,rfl,hf _ ⟨.ret,some .ret,stJ _ _ _ hJ (ls _ _ _),rfl,by simp,ctx.set _ _ _ _ _ hL',z _ (mbody W W' S hm (llt _ _ _ hL) j hs)⟩ (frm W' S _ _ j hS)⟩
    ·exact⟨hL',some (.exit id),rfl,hf _ ⟨.exit id,some (.exit id),stJ _ _ _ hJ (ls _ _ _),rfl,by simp,ctx.set _ _ _ _ _ hL',z _ (mbody W W' S hm (llt _ _ _ hL) j hs)⟩ (frm W' S _ _ j hS)⟩
  ·exact⟨h0 w1 (λS=>⟨by have:=ctx.size;omega,λb hb _=>ctx.old b hb,ctx.io⟩) ctx.size,ctx.ready,ctx.marks⟩
  ·rintro e w2 ⟨he,h⟩;refine⟨he,?_⟩;rcases h with ⟨hI,hL,hm⟩|⟨e',p,hJ,hj,hp,hL,hm⟩
   ·exact⟨.ready,none,hL,by simp,fn _ (stI _ _ _ hI (ls _ _ _)) (mset _ _ _ hm)⟩
   ·refine⟨.done,p,hL,by simp,?_⟩;have hJ':=stJ _ _ _ hJ (ls w2 .exhausted p);have hm':=mset w2 .exhausted p hm;rcases jmp _ _ hJ with rfl|⟨id,rfl⟩
    ·simp only[yM,Option.some.injEq] at hj;subst hj;exact fr _ hJ' hm'
    ·simp only[yM,Option.some.injEq] at hj;subst hj;exact fx _ _ hJ' hm'
 ·exact hv.elim
def bytesV (l:List UInt8):List Value:=l.map λb=> .int .u8 b.toNat
theorem aaj (l:List UInt8):∀v∈bytesV l,iC v=true:=by
 intro v hv;simp only[bytesV,List.mem_map] at hv;obtain⟨b,_,rfl⟩:=hv;rfl
theorem jJ (l:List UInt8):(bytesV l).length=l.length:=by simp[bytesV]
def iF (w:World) (s:eY) (l:List UInt8):Prop:=s.len=l.length/\ng w s.a s.len (bytesV l)/\s.len<=s.cap
theorem iF.nil {w:World}:iF w ⟨none,0,0⟩ []:=⟨rfl,rfl,Nat.le_refl _⟩
theorem iF.jI {w:World} {s:eY} {l:List UInt8} (h:Buf w s (bytesV l)):iF w s l:=⟨by rw[h.1,jJ],h.cells,by
 obtain⟨h1,⟨_,h2,h3⟩|⟨b,pad,_,h3,_⟩⟩:=h
 ·rw[h1,h2];simp
 ·omega⟩
theorem xI {w:World} {s:eY} {l:List UInt8} {K:ByteArray->Prop} (h:iF w s l) (hK:K ⟨⟨l⟩⟩):uS w s K:=
 ⟨⟨⟨l⟩⟩,h.1.symm,h.2.1,hK⟩
theorem iF.at_ {w:World} {s:eY} {l:List UInt8} (h:iF w s l) {i:Nat} {b:UInt8} (hi:l[i]? =some b):∃a,s.a=some a/\w.cell? (a.add i)=some (.int .u8 b.toNat):=by
 have u:=(List.getElem?_eq_some_iff.1 hi).1;have hc:=h.2.1
 cases j:s.a with
 |none=>
  rw[j] at hc;have:(bytesV l).length=0:=by rw[show bytesV l=[] from hc];rfl
  rw[jJ] at this;omega
 |some a=>
  rw[j] at hc;refine⟨a,rfl,?_⟩;rw[hc.2 i (by rw[jJ];exact u)];simp[bytesV,hi]
theorem iF.empty {w:World} {s:eY} {l:List UInt8} (h:iF w s l) (ha:s.a= .none):l=[]:=by
 have:=h.2.1;rw[ha] at this;have h2:bytesV l=[]:=this;simpa [bytesV] using h2
theorem iF.fr {w w':World} {s:eY} {l:List UInt8} {S:Nat->Prop} (h:iF w s l) (hf:fV w w' S) (hs:∀a,s.a=some a->0<l.length->¬S a.block):iF w' s l:=by
 refine⟨h.1,?_,h.2.2⟩;have hc:=h.2.1
 cases u:s.a with
 |none=>rw[u] at hc;exact hc
 |some a=>
  rw[u] at hc;refine⟨hc.1,λj hj=> ?_⟩;have:=hc.2 j hj;rw[List.getElem?_eq_getElem hj] at this ⊢;exact Pq this hf (by rw[block_add];exact hs a u (by rw[jJ] at hj;omega))
theorem iF.lt {w:World} {s:eY} {l:List UInt8} (h:iF w s l) {a:Addr} (ha:s.a=some a) (hl:0<l.length):a.block<w.heap.size:=by
 obtain⟨a',h1,h2⟩:=h.at_ (List.getElem?_eq_getElem hl);rw[ha] at h1;cases h1;have:=cell_lt h2
 rwa [block_add] at this
theorem iF.ext {w w':World} {s:eY} {l:List UInt8} (h:iF w s l) (hf:Ext w w'):iF w' s l:=h.fr (hf λ_=>False) (by simp)
theorem MB (a:Addr) (i j:Nat):(a.add i).add j=a.add (i+j):=by
 unfold Addr.add;by_cases h0:i=0<;>by_cases h1:j=0<;>simp[h0,h1,Nat.add_assoc]
theorem iF.cut {w:World} {s:eY} {l:List UInt8} {lo hi:Nat} (h:iF w s l) (h1:lo<=hi) (h2:hi<=l.length) (c:Nat) (hc':hi<=c) (m:Nat) (hm:m=lo->s.a= .none\/lo=hi\/lo=0):
  iF w ⟨vW s.a m lo 1,hi - lo,c - lo⟩ ((l.take hi).drop lo):=by
 refine⟨by simp;omega,?_,by simp only;omega⟩;have hc:=h.2.1
 cases z:s.a with
 |none=>
  have:l=[]:=h.empty z;subst this;simp only[vW];split<;>simp[ng,bytesV]
 |some a=>
  rw[z] at hc;by_cases u:m=lo
  ·rcases hm u with hx|hx|hx
   ·rw[z] at hx;cases hx
   ·subst hx;simp only[vW,u,if_true,Nat.sub_self];have:List.drop lo (List.take lo l)=[]:=by simp
    rw[this];exact⟨rfl,λj hj=>by simp[bytesV] at hj⟩
   ·subst hx;simp only[vW,u,if_true,Nat.sub_zero,List.drop_zero];refine⟨by simp[bytesV];omega,λj hj=> ?_⟩;simp only[jJ,length_take] at hj;rw[hc.2 j (by rw[jJ];omega)];simp only[bytesV,List.getElem?_map,List.getElem?_take];rw[if_pos (by omega)]
  ·simp only[vW,u,if_false,map_some];refine⟨by simp only[jJ,List.length_drop,length_take];omega,λj hj=> ?_⟩;simp only[jJ,length_take,List.length_drop] at hj;rw[MB,Nat.mul_one,hc.2 (lo+j) (by rw[jJ];omega)];simp only[bytesV,List.getElem?_map,List.getElem?_take,List.getElem?_drop];rw[if_pos (by omega)]
theorem mF {w:World} {s:eY} {l:List UInt8} {lo hi:Int} {K:eY->Prop} (h:iF w s l) (h0:0<=lo) (h1:lo<=hi) (h2:hi<=l.length)
  (hK:∀s',iF w s' ((l.take hi.toNat).drop lo.toNat)->(∀a',s'.a=some a'->∃a,s.a=some a/\a'.block=a.block)->K s'):nJ s 1 lo hi K:=by
 have hl:=h.1;have hc:=h.2.2;refine⟨h0,h1,by omega,hK _ ?_ ?_⟩
 ·refine h.cut (by omega) (by omega) _ (by omega) _ λe=> ?_;right;left;omega
 ·intro a' ha';simp only[vW] at ha';split at ha'
  ·exact⟨a',ha',rfl⟩
  ·cases hs:s.a with
   |none=>rw[hs] at ha';cases ha'
   |some a=>rw[hs] at ha';simp only[map_some,Option.some.injEq] at ha';exact⟨a,rfl,by rw[<- ha',block_add]⟩
theorem kU {e:TypeId} {w:World} {s x:eY} {l m:List UInt8} {K:eY->b_} (hs:Buf w s (bytesV l)) (hx:iF w x m) (hl:l.length+m.length<=2^46)
  (hK:∀s' w',Buf w' s' (bytesV (l++m))->fV w w' (eY.at s)->(∀b,eY.at s' b->eY.at s b\/w.heap.size<=b)->(s'.a=none->l++m=[]/\s.a=none)->K s' w'):uQ e 1 1 [(Value.int .u8 0)] s x w K:=by
 refine⟨bytesV m,by rw[Nat.mul_one];exact hx.2.1,?_⟩;rw[hx.1,<- jJ m];refine acy hs (aaj m) (by simp only[jJ];omega) λs' w' h1 h2 h3 h4=>hK s' w' (by simpa [bytesV] using h1) h2 h3 λh=> ?_;obtain⟨h5,h6⟩:=h4 h;refine⟨?_,h6⟩;rw[<- List.length_eq_zero_iff] at h5 ⊢;simpa [bytesV] using h5
theorem iF.row {w:World} {b:Nat} {l:List UInt8} (h:Row w b (bytesV l)):Buf w ⟨some ⟨b,0,none⟩,l.length,l.length⟩ (bytesV l):=
 ⟨by simp[bytesV],.inr ⟨b,[],rfl,by simp[bytesV],by simpa using h⟩⟩
theorem Buf.nil {w:World}:Buf w ⟨none,0,0⟩ []:=⟨rfl,.inl ⟨rfl,rfl,rfl⟩⟩
theorem Buf.set {w:World} {s:eY} {vs:List Value} (h:Buf w s vs) {i:Nat} (hi:i<vs.length):∃b,s.a=some ⟨b,0,none⟩/\∀(v:Value) (K:b_),iC v=true->
  (∀w',Buf w' s (vs.set i v)->fV w w' (eY.at s)->w'.heap.size=w.heap.size->K w')->St w ⟨b,i,none⟩ v K:=by
 obtain⟨hl,⟨_,h1,_⟩|⟨b,pad,ha,hc,hr⟩⟩:=h
 ·rw[h1] at hi;simp at hi
 ·refine⟨b,ha,λv K hv hK=>gB hr hv (by simp;omega) λw1 r1 f1 z1=>hK w1 ⟨by simp[hl],.inr ⟨b,pad,ha,by simp[hc],?_⟩⟩ (f1 _ ⟨0,ha⟩) z1⟩;rw[List.set_append_left _ _ hi] at r1;exact r1
theorem Buf.lt {w:World} {s:eY} {vs:List Value} (h:Buf w s vs) {b:Nat} (hb:eY.at s b):b<w.heap.size:=by
 obtain⟨o,hb⟩:=hb;obtain⟨_,⟨ha,_,_⟩|⟨c,pad,ha,_,hr⟩⟩:=h
 ·rw[ha] at hb;cases hb
 ·rw[ha] at hb;cases hb;exact hr.lt
theorem Buf.at_eq {w:World} {s:eY} {vs:List Value} (h:Buf w s vs) {a:Addr} (ha:s.a=some a):eY.at s a.block:=by
 obtain⟨_,⟨ha',_,_⟩|⟨c,pad,ha',_,hr⟩⟩:=h
 ·rw[ha'] at ha;cases ha
 ·rw[ha'] at ha;cases ha;exact⟨0,ha'⟩
end Gp
end
