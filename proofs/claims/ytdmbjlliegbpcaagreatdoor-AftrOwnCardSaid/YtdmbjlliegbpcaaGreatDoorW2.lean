import Derived.Test.YtdmbjlliegbpcaaGreatDoorW1
import Derived.Scope
import Derived.ProofKit
import Derived.OpenShut
import Derived.ChangeOld
import Derived.Below
import Derived.Deep.Slices
open List (flatMap_cons length_append map_cons)
open Nat (add_mul blt_eq)
open Option (getD_some map_some)
open Array (getElem?_modify getElem?_push)
open Bool (and_eq_true or_eq_false_iff)
section
namespace Gp
open Go
def writes:Code->List Nat
 | .region _ ops _=>Md ops.toList
 | .seq a b=>writes a++writes b
 | .cond _ a b=>writes a++writes b
 | .block _ a=>writes a
 | .loop a=>writes a
 | .scope a=>writes a
 |_=>[]
def lS:Code->Bool
 | .seq a b=>lS a||lS b
 | .cond _ a b=>lS a||lS b
 | .block _ a=>lS a
 | .loop a=>lS a
 | .scope a=>lS a
 | .rangeFunc _ _ _ _=>true
 |_=>false
@[reducible] def QG:List (Nat×Kind)->Type
 |[]=>Unit
 |(_,k)::r=>k.T×QG r
def encS:(st:List (Nat×Kind))->QG st->Env
 |[],_=>[]
 |(s,k)::r,x=>(s,k.enc x.1)::encS r x.2
def getS:(st:List (Nat×Kind))->Env->(QG st->Prop)->Prop
 |[],_,φ=>φ ()
 |(s,k)::r,env,φ=>match env.get s with
  |some v=>k.dec v λx=>getS r env λy=>φ (x,y)
  |none=>False
def without (ws:List Nat):Env->Env
 |[]=>[]
 |(s,v)::r=>cond (FB s ws) (without ws r) ((s,v)::without ws r)
def iW {S:Type} (body:S->θ->(S->b_)->Prop) (s:S) (w:θ):Prop:=
 ∃I:Nat->S->b_,(∃n,I n s w)/\∀n s w,I n s w->body s w λs' w'=>∃m,m<n/\I m s' w'
@[reducible] def abM:List Kind->Type
 |[]=>Unit
 |k::r=>k.T×abM r
def WY:(ks:List Kind)->abM ks->List Value
 |[],_=>[]
 |k::r,x=>k.enc x.1::WY r x.2
def Rq:List Nat->List Value->Env
 |[],_=>[]
 |_::_,[]=>[]
 |s::r,v::vs=>(s,v)::Rq r vs
@[reducible] def ShT:Shape->Type
 | .one k=>k.T
 | .agg ks=>abM ks
def aef:(s:Shape)->ShT s->Value
 | .one k,x=>k.enc x
 | .agg ks,x=> .agg ⟨WY ks x⟩
@[reducible] def yu:List Shape->Type
 |[]=>Unit
 |s::r=>ShT s×yu r
def encR:(ks:List Shape)->yu ks->List Value
 |[],_=>[]
 |s::r,x=>aef s x.1::encR r x.2
inductive JSh where
 |sh (s:Shape)
 |addr
 |Yr (ks:List Kind)
@[reducible] def JT:JSh->Type
 | .sh s=>ShT s
 | .addr=>Addr
 | .Yr ks=>abM ks
def aa8:(s:JSh)->JT s->Value
 | .sh s,x=>aef s x
 | .addr,a=> .pointer (some a)
 | .Yr ks,x=> .tuple ⟨WY ks x⟩
def ad2:(ks:List Kind)->List Value->(abM ks->Prop)->Prop
 |[],[],φ=>φ ()
 |k::r,v::vs,φ=>k.dec v λx=>ad2 r vs λy=>φ (x,y)
 |_,_,_=>False
def aiz:(s:JSh)->Value->(JT s->Prop)->Prop
 | .sh (.one k),v,φ=>k.dec v φ
 | .sh (.agg ks),.agg cs,φ=>ad2 ks cs.toList φ
 | .addr,.pointer (some a),φ=>φ a
 | .Yr ks,.tuple cs,φ=>ad2 ks cs.toList φ
 |_,_,_=>False
@[reducible] def abL:List (Nat×JSh)->Type
 |[]=>Unit
 |(_,s)::r=>JT s×abL r
def ab_:(st:List (Nat×JSh))->abL st->Env
 |[],_=>[]
 |(t,s)::r,x=>(t,aa8 s x.1)::ab_ r x.2
def aeu:(st:List (Nat×JSh))->Env->(abL st->Prop)->Prop
 |[],_,φ=>φ ()
 |(t,s)::r,env,φ=>match env.get t with
  |some v=>aiz s v λx=>aeu r env λy=>φ (x,y)
  |none=>False
def Pe {S:Type} (body:S->Prop) (k:(S->Prop)->Prop):Prop:=k body
theorem Pe.of {S:Type} {body:S->Prop} {k:(S->Prop)->Prop} (h:∀J:S->Prop,(∀s,body s->J s)->k J):Pe body k:=h body λ_ h=>h
inductive ϓ where
 |leaf
 |seq (a b:ϓ)
 |join (st:List (Nat×JSh)) (a b:ϓ)
 |cond (a b:ϓ)
 |blk (a:ϓ)
 |loop (st:List (Nat×Kind)) (a:ϓ)
 |rng (ks:List Shape) (a b:ϓ)
def iQ (w:θ) (l:Nat) (st:LoopState) (p:Option Code):θ:=
 {w with heap:=w.heap.modify l fun| .loop lp=> .loop {lp with state:=st,pending:=p}|o=>o}
def gG (w:θ) (l:Nat):θ:=
 {w with heap:=w.heap.modify l fun| .loop lp=> .loop {lp with state:= .busy}|o=>o}
def Ap:Exit->Bool
 | .normal=>true
 |_=>false
def Aq:Exit->Option (Option Code)
 | .normal=>some none
 | .ret=>some (some .ret)
 | .exit id=>some (some (.exit id))
 |_=>none
structure ahn (P:Program) (r:Option Nat) (w:θ) (ks:List Shape) (bodyS:Nat->yu ks->θ->(Exit->b_)->Prop)
  (l:Nat) (L:LoopState->Option Code->b_) (w1:θ):Prop where
 at_:l=if r.isNone then w.heap.size+1 else w.heap.size
 size:w1.heap.size=l+1
 old:∀b,b<w.heap.size->w1.heap[b]? =w.heap[b]?
 io:w1.os=w.os/\w1.tape=w.tape/\w1.output=w.output
 marks:r=none->w1.heap[w.heap.size]? =some (.deferred (some []))
 ready:L .ready none w1
 frame:∀st p W W',L st p W->W'.heap[l]? =W.heap[l]? ->L st p W'
 set:∀st p st' p' W,L st p W->L st' p' (iQ W l st' p')
 busy:∀p W,L .ready p W->L .busy p (gG W l)
 isLoop:∀st p W,L st p W->∃lp,W.heap[l]? =some (.loop lp)
 yield:∀(x:yu ks) (W:θ) (p:Option Code) (R:Bool->b_),L .ready p W->
  bodyS l x W (λe W'=>L .busy p W'/\∃j,Aq e=some j/\R (Ap e) (iQ W' l (if Ap e then .ready else .done) j))->JW P l (encR ks x) W R
def xH:Code->List Nat
 | .exit id=>[id]
 | .seq a b=>xH a++xH b
 | .cond _ a b=>xH a++xH b
 | .block _ a=>xH a
 | .loop a=>xH a
 | .scope a=>xH a
 | .rangeFunc _ _ _ b=>xH b
 |_=>[]
def RD (id:Nat):List (Nat×(b_))->b_
 |[],_=>False
 |(i,K)::r,w=>cond (Nat.beq i id) (K w) (RD id r w)
def aeK (Kn Kr:b_) (Kx:List (Nat×(b_))) (p:Option Code) (w:θ):Prop:=
 match p with
 |none=>Kn w
 |some .ret=>Kr w
 |some (.exit id)=>RD id Kx w
 |_=>False
def yI (P:Program) (r:Option Nat) (ks:List Shape) (vf:Value) (w:θ) (bodyS:Nat->yu ks->θ->(Exit->b_)->Prop)
  (Kn Kr:b_) (Kx:List (Nat×(b_))):Prop:=
 (∀l₀,r=some l₀->∃lp,w.heap[l₀]? =some (.loop lp))/\
 match vf with
 | .func (.func f) first cap=>ni P f=true/\∀l L w1,ahn P r w ks bodyS l L w1->
   FV P [] f (first.toList++(Value.func (.yield l) #[] #[]::cap.toList)) w1 λ_ w2=>∃st p,L st p w2/\st≠.busy/\aeK Kn Kr Kx p (iQ w2 l .exhausted p)
 |_=>False
def den (P:Program) (nt:Nat):Code->Option Nat->ϓ->Env->List Nat->θ->(Exit->Env->List Nat->b_)->Prop
 | .skip,_,_,env,ds,w,K=>K .normal env ds w
 | .label _,_,_,env,ds,w,K=>K .normal env ds w
 | .ret,_,_,env,ds,w,K=>K .ret env ds w
 | .exit id,_,_,env,ds,w,K=>K (.exit id) env ds w
 | .region _ ops draw,_,_,env,ds,w,K=>cond draw (Rk P nt ops.toList env w λenv' w'=>K .normal env' ds w') (aaD P nt ops.toList 0 ops.toList env w λenv' w'=>K .normal env' ds w')
 | .seq a b,r,an,env,ds,w,K=>match an with
  | .seq x y=>den P nt a r x env ds w λe env' ds' w'=>match e with
   | .normal=>den P nt b r y env' ds' w' K
   |e=>K e env' ds' w'
  | .join st x y=>cond (lS a)
   (Pe (S:=abL st×List Nat×θ) (λs=>den P nt b r y (ab_ st s.1++without (writes a) env) s.2.1 s.2.2 K) λJ=>den P nt a r x env ds w λe env' ds' w'=>match e with
    | .normal=>aeu st env' λs'=>J (s',ds',w')
    |e=>K e env' ds' w')
   (Pe (S:=abL st×θ) (λs=>den P nt b r y (ab_ st s.1++without (writes a) env) ds s.2 K) λJ=>den P nt a r x env ds w λe env' ds' w'=>match e with
    | .normal=>aeu st env' λs'=>J (s',w')
    |e=>K e env' ds' w')
  |_=>False
 | .cond c a b,r,an,env,ds,w,K=>match an with
  | .cond x y=>match evO env c with
   |some (.bool t)=>cond t (den P nt a r x env ds w K) (den P nt b r y env ds w K)
   |_=>False
  |_=>False
 | .block id a,r,an,env,ds,w,K=>match an with
  | .blk x=>den P nt a r x env ds w λe env' ds' w'=>match e with
   | .exit id'=>cond (Nat.beq id' id) (K .normal env' ds' w') (K (.exit id') env' ds' w')
   |e=>K e env' ds' w'
  |_=>False
 | .scope a,r,an,env,ds,w,K=>den P nt a r an env ds w λe env' ds' w'=>match e with
  | .goto _=>False
  |e=>K e env' ds' w'
 | .loop a,r,an,env,ds,w,K=>match an with
  | .loop st x=>cond (lS a)
   (getS st env λs0=>iW (S:=QG st×List Nat) (λs w next=>den P nt a r x (encS st s.1++without (writes a) env) s.2 w λe env' ds' w'=>match e with
    | .normal=>getS st env' λs'=>next (s',ds') w'
    |e=>K e env' ds' w') (s0,ds) w)
   (getS st env λs0=>iW (S:=QG st) (λs w next=>den P nt a r x (encS st s++without (writes a) env) ds w λe env' ds' w'=>match e with
    | .normal=>getS st env' λs'=>next s' w'
    |e=>K e env' ds' w') s0 w)
  |_=>False
 | .rangeFunc g ps assign body,r,an,env,ds,w,K=>match an with
  | .rng ks x y=>cond (!lS assign && (Nat.beq ps.toList.length ks.length && (GY ps.toList && ps.toList.all λs=>Nat.blt s nt))) (yI P r ks (ev env g) w
   (λl x' W Kb=>den P nt assign (some l) x (Rq ps.toList (encR ks x')++env) [] W λe env1 _ W1=>match e with
    | .normal=>W1.heap[l]? =W.heap[l]? /\den P nt body (some l) y env1 [] (gG W1 l) λe _ _ W2=>Kb e W2
    |_=>False)
   (λw'=>K .normal env (cond r.isNone (w.heap.size::ds) ds) w') (λw'=>K .ret env (cond r.isNone (w.heap.size::ds) ds) w')
   ((xH body).map λid=>(id,λw'=>K (.exit id) env (cond r.isNone (w.heap.size::ds) ds) w'))) False
  |_=>False
 |_,_,_,_,_,_,_=>False
end Gp
end
section
namespace Gp
open Go
def mkD (ds:List Nat):List Deferred:=ds.map λD=>{target:= .collected D,args:= #[]}
theorem Iz {k:Kind} {v:Value} {φ:k.T->Prop} (h:k.dec v φ):∃x,v=k.enc x/\φ x:=by
 cases k<;>cases v<;>first
  |exact h.elim
  |exact⟨_,rfl,h⟩
  |skip
 case int.int k k' n=>
  simp only[Kind.dec] at h
  cases hb:KH k k' with
  |false=>rw[hb] at h;exact h.elim
  |true=>
   rw[hb] at h;have:=MH hb;subst this;exact⟨n,rfl,h⟩
theorem get_append (A B:Env) (s:Nat):Env.get (A++B) s=match Env.get A s with|some v=>some v|none=>Env.get B s:=by
 induction A with
 |nil=>rfl
 |cons x A ih=>
  obtain⟨t,v⟩:=x;rw[List.cons_append,oI,oI];by_cases h:t=s
  ·simp[h]
  ·simp[h,ih]
theorem GL (ws:List Nat) (env:Env) (s:Nat):Env.get (without ws env) s=if s∈ws then none else Env.get env s:=by
 induction env with
 |nil=>simp[without,Env.get]
 |cons x env ih=>
  obtain⟨t,v⟩:=x;simp only[without]
  cases hb:FB t ws with
  |true=>
   have ht:=qP.1 hb;simp only[cond_true,ih,oI];by_cases h:t=s
   ·subst h;simp[ht]
   ·simp[h]
  |false=>
   have ht:t∉ws:=λhm=>by rw[qP.2 hm] at hb;cases hb
   simp only[cond_false,oI,ih];by_cases h:t=s
   ·subst h;simp[ht]
   ·simp[h]
theorem IC:∀(st:List (Nat×Kind)) (env:Env) (φ:QG st->Prop),getS st env φ->∃x,φ x/\∀t v,Env.get (encS st x) t=some v->env.get t=some v:=by
 intro st
 induction st with
 |nil=>exact λenv φ h=>⟨(),h,λt v hv=>by simp[encS,Env.get] at hv⟩
 |cons p st ih=>
  obtain⟨s,k⟩:=p;intro env φ h;simp only[getS] at h
  cases hg:env.get s with
  |none=>simp only[hg] at h
  |some v=>
   simp only[hg] at h;obtain⟨x,hx,h⟩:=Iz h;obtain⟨y,hy,h2⟩:=ih env _ h;refine⟨(x,y),hy,λt u hu=> ?_⟩;simp only[encS,oI] at hu;by_cases e:s=t
   ·subst e;simp at hu;rw[<- hu,hg,hx]
   ·rw[if_neg e] at hu;exact h2 t u hu
theorem Vw:∀(ks:List Kind) (vs:List Value) (φ:abM ks->Prop),ad2 ks vs φ->∃x,vs=WY ks x/\φ x:=by
 intro ks
 induction ks with
 |nil=>exact λvs φ h=>match vs,h with|[],h=>⟨(),rfl,h⟩
 |cons k ks ih=>
  intro vs φ h
  cases vs with
  |nil=>exact h.elim
  |cons v vs=>
   simp only[ad2] at h;obtain⟨x,hx,h⟩:=Iz h;obtain⟨y,hy,h⟩:=ih _ _ h;exact⟨(x,y),by rw[WY,hx,hy],h⟩
theorem ab6 {s:JSh} {v:Value} {φ:JT s->Prop} (h:aiz s v φ):∃x,v=aa8 s x/\φ x:=by
 cases s with
 |sh s=>cases s with
  |one k=>exact Iz h
  |agg ks=>cases v<;>first
   |exact h.elim
   |(obtain⟨x,hx,h⟩:=Vw _ _ _ h
     refine⟨x,?_,h⟩;simp only[aa8,aef,<- hx])
 |addr=>cases v<;>first
   |exact h.elim
   |(rename_i q;cases q with
     |none=>exact h.elim
     |some a=>exact⟨a,rfl,h⟩)
 |Yr ks=>cases v<;>first
   |exact h.elim
   |(obtain⟨x,hx,h⟩:=Vw _ _ _ h
     refine⟨x,?_,h⟩;simp only[aa8,<- hx])
theorem VH:∀(st:List (Nat×JSh)) (env:Env) (φ:abL st->Prop),aeu st env φ->∃x,φ x/\∀t v,Env.get (ab_ st x) t=some v->env.get t=some v:=by
 intro st
 induction st with
 |nil=>exact λenv φ h=>⟨(),h,λt v hv=>by simp[ab_,Env.get] at hv⟩
 |cons p st ih=>
  obtain⟨s,k⟩:=p;intro env φ h;simp only[aeu] at h
  cases hg:env.get s with
  |none=>simp only[hg] at h
  |some v=>
   simp only[hg] at h;obtain⟨x,hx,h⟩:=ab6 h;obtain⟨y,hy,h2⟩:=ih env _ h;refine⟨(x,y),hy,λt u hu=> ?_⟩;simp only[ab_,oI] at hu;by_cases e:s=t
   ·subst e;simp at hu;rw[<- hu,hg,hx]
   ·rw[if_neg e] at hu;exact h2 t u hu
theorem least (p:Nat->Prop) (h:∃n,p n):∃n,p n/\∀m,p m->n<=m:=by
 obtain⟨n,hn⟩:=h
 induction n using Nat.strongRecOn with
 |_ n ih=>
  by_cases hx:∃m,m<n/\p m
  ·obtain⟨m,hm,hp⟩:=hx;exact ih m hm hp
  ·exact⟨n,hn,λm hm=>Nat.le_of_not_lt λu=>hx ⟨m,u,hm⟩⟩
theorem wpIn_loop_ghost {F:Fence} {n:Nat} {P:Program} {c:Code} {Q:Exit->Act->b_} {a:Act} {w:θ} (I:Nat->Act->b_) (h₀:∃m,I m a w)
  (round:∀m a w,I m a w->c.wpIn F n P (Exit.then (λa' w'=>∃m',m'<m/\I m' a' w') Q) a w):(Code.loop c).wpIn F n P Q a w:=by
 have hl:∀a w,(∃m,I m a w)->∃m,I m a w/\∀k,I k a w->m<=k:=λa w h=>least (λm=>I m a w) h;refine wpIn_loop (λa w=>∃m,I m a w) (λa w=> @dite Nat (∃m,I m a w) (Classical.propDecidable _) (λh=>Classical.choose (hl a w h)) (λ_=>0)) h₀ ?_;intro a w h;obtain⟨hI,hmin⟩:=Classical.choose_spec (hl a w h);refine wpIn_mono (round _ a w hI) λe a' w' hq=> ?_
 cases e<;>first|exact hq|skip
 obtain⟨m',hlt,hI'⟩:=hq;refine⟨⟨m',hI'⟩,?_⟩;have h':∃m,I m a' w':=⟨m',hI'⟩;obtain⟨_,u⟩:=Classical.choose_spec (hl a' w' h');simp only[dif_pos h,dif_pos h'];have:=u m' hI';omega
section
variable {P:Program} {F:Fence} {n:Nat} {b:Frame} {a:Act} {k:List Item} {cs:List Frame} {w:θ} {Q:Exit->Act->b_}
theorem uZ {c:Code}:step P (lone (b.atR a (.code (.scope c)::k)) cs w)= .next (lone (b.atR a (.code c:: .inScope c::k)) cs w):=
 step_lone_go (by simp[stepG,stepG.exec,Frame.atR])
theorem Vk {c:Code}:step P (lone (b.atR a (.inScope c::k)) cs w)= .next (lone (b.atR a k) cs w):=
 step_lone_go (by simp[stepG,stepG.exec,Frame.atR])
theorem JF {c:Code} (h:c.wpIn F n P (Exit.noGoto Q) a w):(Code.scope c).wpIn F n P Q a w:=by
 intro b k cs I hb hr;have h0:(lone (b.atR a (.code (.scope c)::k)) cs w).fenced P F:=fenced_calm hb hr rfl;obtain⟨e,a₁,w₁,hq,u⟩:=h b (.inScope c::k) cs I hb hr
 cases e with
 |normal=>exact⟨.normal,a₁,w₁,hq,.head h0 uZ (StepsIn.trans u (.one (fenced_calm hb hr rfl) Vk))⟩
 |exit id=>
  have hx:exitTo id (.inScope c::k)=exitTo id k:=by simp[exitTo]
  exact⟨.exit id,a₁,w₁,hq,λk' hk=> .head h0 uZ (u.1 k' (by rw[hx];exact hk)),
   λhr' hk=>let ⟨k₁,h1,h2⟩:=u.2 hr' (by rw[hx];exact hk);⟨k₁,h1,.head h0 uZ h2⟩⟩
 |goto l=>exact hq.elim
 |ret=>exact⟨_,a₁,w₁,hq,.of_steps (.one h0 uZ) u⟩
 |panic ch=>exact⟨_,a₁,w₁,hq,.of_steps (.one h0 uZ) u⟩
 |outgrown=>exact⟨_,a₁,w₁,hq,.of_steps (.one h0 uZ) u⟩
end
theorem YW {env:Env} {a:Act} (ha:Agr env a) {c:Operand} {v:Value} (h:evO env c=some v):a.eval c=v:=by
 have:=aiF ha (x:=c) (by rw[h];rfl);rw[<- this,ev,h];rfl
section
variable {P:Program}
theorem Px (w:θ) (l:Nat) (f:Obj->Obj) (b:Nat):(w.heap.modify l f)[b]? =if l=b then (w.heap[b]?).map f else w.heap[b]? :=by
 rw[getElem?_modify]
theorem aaK {w:θ} {l:Nat} {lp:Loop} (h:w.heap[l]? =some (.loop lp)) (st:LoopState) (p:Option Code):(iQ w l st p).heap[l]? =some (.loop {lp with state:=st,pending:=p}):=by
 simp only[iQ,Px,if_true,h,map_some]
theorem adS {w:θ} {l:Nat} {lp:Loop} (h:w.heap[l]? =some (.loop lp)):(gG w l).heap[l]? =some (.loop {lp with state:= .busy}):=by
 simp only[gG,Px,if_true,h,map_some]
theorem CY {w:θ} {l:Nat} {o:Obj} (h:w.heap[l]? =some o) (f:Obj->Obj):w.heap.setIfInBounds l (f o)=w.heap.modify l f:=by
 apply Array.ext_getElem?;intro i;have hl:=(Array.getElem?_eq_some_iff.1 h).1;rw[Array.getElem?_setIfInBounds,getElem?_modify];by_cases e:l=i
 ·subst e;have h2:w.heap[l]=o:=by have:=Array.getElem?_eq_getElem hl;rw[h] at this;exact(Option.some.inj this).symm
  simp[hl,h2]
 ·simp[e]
theorem run_getLoop {w:θ} {l:Nat} {lp:Loop} (h:w.heap[l]? =some (.loop lp)):(Instr.getLoop l).run P w= .ok lp w:=by
 simp[Instr.getLoop,getObj,Sem.run,h]
theorem Lp {w:θ} {l:Nat} {lp:Loop} {o:Obj} (h:w.heap[l]? =some (.loop lp)):(setObj l o).run P w= .ok () {w with heap:=w.heap.setIfInBounds l o}:=by
 simp[setObj,Sem.run,h]
theorem run_beginRound {w:θ} {l:Nat} {lp:Loop} (h:w.heap[l]? =some (.loop lp)) (hr:lp.state= .ready):(Instr.beginRound l).run P w= .ok () (gG w l):=by
 simp only[Instr.beginRound,Sem.run_bind,run_getLoop h,Result.andThen_ok,Lp h,hr,Sem.run_pure];simp only[gG];rw[<- CY h]
theorem run_endRound {w:θ} {l:Nat} {lp:Loop} (h:w.heap[l]? =some (.loop lp)) (j:Option Code):
  (Instr.endRound l j).run P w= .ok (.bool j.isNone) (iQ w l (if j.isNone then .ready else .done) j):=by
 simp only[Instr.endRound,Sem.run_bind,run_getLoop h,Result.andThen_ok,Lp h,Sem.run_pure];simp only[iQ];rw[<- CY h]
theorem run_endLoop {w:θ} {l:Nat} {lp:Loop} (h:w.heap[l]? =some (.loop lp)) (hb:lp.state≠.busy):
  (Instr.endLoop l).run P w= .ok lp.pending (iQ w l .exhausted lp.pending):=by
 have hb':¬(lp.state= .busy):=hb;simp[Instr.endLoop,run_getLoop h,Lp h,hb'];simp only[iQ];rw[<- CY h]
abbrev P7 (ps:List Nat) (vs:List Value) (tmps:Array Value):Array Value:=(ps.zip vs).foldl (λ(tmps:Array Value) (p:Nat×Value)=>tmps.setIfInBounds p.1 p.2) tmps
theorem acz:∀(ps:List Nat) (vs:List Value) (tmps:Array Value),(P7 ps vs tmps).size=tmps.size:=by
 intro ps
 induction ps with
 |nil=>intro vs tmps;rfl
 |cons p ps ih=>
  intro vs tmps
  cases vs with
  |nil=>rfl
  |cons v vs=>simp only[P7,List.zip_cons_cons,List.foldl_cons] at ih ⊢;rw[ih];simp
theorem RZ:∀(ps:List Nat) (vs:List Value) (tmps:Array Value) (s:Nat),s∉ps->(P7 ps vs tmps)[s]? =tmps[s]? :=by
 intro ps
 induction ps with
 |nil=>intro vs tmps s _;rfl
 |cons p ps ih=>
  intro vs tmps s h
  cases vs with
  |nil=>rfl
  |cons v vs=>
   simp only[P7,List.zip_cons_cons,List.foldl_cons] at ih ⊢;rw[ih vs _ s (λx=>h (by simp[x]))];have:¬(p=s):=λx=>h (by simp[x]);simp[this]
theorem aeL:∀(ps:List Nat) (vs:List Value) (tmps:Array Value),GY ps=true->(∀s∈ps,s<tmps.size)->
  ∀s v,Env.get (Rq ps vs) s=some v->(P7 ps vs tmps)[s]? =some v:=by
 intro ps
 induction ps with
 |nil=>intro vs tmps _ _ s v h;simp[Rq,Env.get] at h
 |cons p ps ih=>
  intro vs tmps I J s v h
  cases vs with
  |nil=>simp[Rq,Env.get] at h
  |cons u vs=>
   simp only[GY,and_eq_true,Bool.not_eq_true'] at I;simp only[Rq,oI] at h;have e:P7 (p::ps) (u::vs) tmps=P7 ps vs (tmps.setIfInBounds p u):=rfl;rw[e];by_cases hs:p=s
   ·subst hs;rw[if_pos rfl] at h;have hn:p∉ps:=λx=>by rw[qP.2 x] at I;simp at I
    rw[RZ _ _ _ _ hn];have:p<tmps.size:=J p (by simp);simp[this,<- h]
   ·rw[if_neg hs] at h;exact ih vs _ I.2 (λs hs=>by simpa using J s (by simp[hs])) s v h
end
end Gp
end
section
namespace Gp
open Go
section
variable {P:Program}
theorem LD.self {nt:Nat} {dfr:List Deferred} {ws ws':List Nat} {a0 a:Act} {env:Env} (h:LD nt dfr ws a0 env a):LD nt dfr ws' a env a:=⟨h.agr,h.size,h.defers,λ_ _=>rfl⟩
theorem LD.trans {nt:Nat} {d1 d2:List Deferred} {ws ws':List Nat} {a0 a a':Act} {env env':Env} (h:LD nt d1 ws a0 env a) (h':LD nt d2 ws' a env' a') (hs:∀s∈ws',s∈ws):LD nt d2 ws a0 env' a':=
 ⟨h'.agr,h'.size,h'.defers,λs hn=>(h'.same s λx=>hn (hs s x)).trans (h.same s hn)⟩
theorem LD.env {nt:Nat} {dfr:List Deferred} {ws:List Nat} {a0 a:Act} {env env':Env} (h:LD nt dfr ws a0 env a) (he:∀s v,env'.get s=some v->a.tmps[s]? =some v):LD nt dfr ws a0 env' a:=
 ⟨he,h.size,h.defers,h.same⟩
def LL (l:Nat) (fn:FuncId) (tmps:Array Value) (ps:Array Tmp) (assign body:Code) (dfr:Nat) (st:LoopState) (p:Option Code) (W:θ):Prop:=
 W.heap[l]? =some (.loop {state:=st,pending:=p,fn:=fn,tmps:=tmps,params:=ps,assign:=assign,body:=body,defers:=dfr})
def BL (P:Program) (nt:Nat) (c:Code):Prop:=
 ∀(r:Option Nat) (an:ϓ) (env:Env) (ds:List Nat) (w:θ) (K:Exit->Env->List Nat->b_) (n:Nat) (Q:Exit->Act->b_) (ws:List Nat) (a0 a:Act),
  den P nt c r an env ds w K->LD nt (mkD ds) ws a0 env a->(∀s∈writes c,s∈ws)->
  (∀e env' ds' w' a',LD nt (mkD ds') ws a0 env' a'->(lS c=false->ds'=ds)->K e env' ds' w'->Q e a' w')->c.wpIn (Fr r) n P Q a w
theorem acd:∀(st:List (Nat×Kind)) (x y:QG st) (t:Nat),Env.get (encS st x) t=none->Env.get (encS st y) t=none:=by
 intro st
 induction st with
 |nil=>exact λx y t h=>h
 |cons p st ih=>
  obtain⟨s,k⟩:=p;intro x y t h;simp only[encS,oI] at h ⊢;by_cases e:s=t
  ·simp[e] at h
  ·simp only[e,if_false] at h ⊢;exact ih _ _ _ h
theorem YC {nt:Nat} {dfr dfr':List Deferred} {ws ws':List Nat} {st:List (Nat×Kind)} {x y:QG st} {env env':Env} {a0 a a':Act} (h:LD nt dfr ws a0 (encS st y++without ws' env) a)
  (h':LD nt dfr' ws' a env' a') (hx:∀t v,Env.get (encS st x) t=some v->env'.get t=some v):∀s v,Env.get (encS st x++without ws' env) s=some v->a'.tmps[s]? =some v:=by
 intro s v hs;rw[get_append] at hs
 cases he:Env.get (encS st x) s with
 |some u=>rw[he] at hs;simp at hs;subst hs;exact h'.agr s u (hx s u he)
 |none=>
  rw[he] at hs;simp only at hs;have hw:s∉ws':=by
   intro hw;rw[GL] at hs;simp[hw] at hs
  rw[h'.same s hw];refine h.agr s v ?_;rw[get_append,acd st x y s he];exact hs
theorem Vq {st:List (Nat×Kind)} {x:QG st} {env:Env} {a:Act} (ws':List Nat) (h:Agr env a)
  (hx:∀t v,Env.get (encS st x) t=some v->env.get t=some v):∀s v,Env.get (encS st x++without ws' env) s=some v->a.tmps[s]? =some v:=by
 intro s v hs;rw[get_append] at hs
 cases he:Env.get (encS st x) s with
 |some u=>rw[he] at hs;simp at hs;subst hs;exact h s u (hx s u he)
 |none=>
  rw[he] at hs;simp only[GL] at hs;by_cases hw:s∈ws'
  ·simp[hw] at hs
  ·simp only[hw,if_false] at hs;exact h s v hs
theorem YB {nt:Nat} {dfr:List Deferred} {ws':List Nat} {B env env':Env} {a a':Act} (ha:Agr env a)
  (h':LD nt dfr ws' a env' a') (hx:∀t v,Env.get B t=some v->env'.get t=some v):∀s v,Env.get (B++without ws' env) s=some v->a'.tmps[s]? =some v:=by
 intro s v hs;rw[get_append] at hs
 cases he:Env.get B s with
 |some u=>rw[he] at hs;simp at hs;subst hs;exact h'.agr s u (hx s u he)
 |none=>
  rw[he] at hs;simp only[GL] at hs;by_cases hw:s∈ws'
  ·simp[hw] at hs
  ·simp only[hw,if_false] at hs;rw[h'.same s hw];exact ha s v hs
theorem aac {nt:Nat} {x y:Code} (ihx:BL P nt x) (ihy:BL P nt y) {st:List (Nat×JSh)} {ax ay:ϓ} {r:Option Nat} {env:Env} {ds:List Nat} {w:θ} {K:Exit->Env->List Nat->b_}
  {n:Nat} {Q:Exit->Act->b_} {ws:List Nat} {a0 a:Act} (h:den P nt (.seq x y) r (.join st ax ay) env ds w K) (ha:LD nt (mkD ds) ws a0 env a) (N:∀s∈writes (.seq x y),s∈ws)
  (hQ:∀e env' ds' w' a',LD nt (mkD ds') ws a0 env' a'->(lS (.seq x y)=false->ds'=ds)->K e env' ds' w'->Q e a' w'):(Code.seq x y).wpIn (Fr r) n P Q a w:=by
 have I:∀s∈writes x,s∈ws:=λs hs=>N s (by simp[writes,hs]);have O:∀s∈writes y,s∈ws:=λs hs=>N s (by simp[writes,hs]);simp only[den] at h
 cases hr:lS x with
 |false=>
  rw[hr] at h;simp only[cond_false,Pe] at h;refine wpIn_seq (ihx r ax env ds w _ n _ (writes x) a a h ha.self (λs hs=>hs) ?_);intro e env' ds' w' a' ha' J hk;have J:=J hr;subst J
  cases e with
  |normal=>
   obtain⟨s',hb,hs'⟩:=VH _ _ _ hk;refine ihy r ay _ ds' w' K n Q ws a0 a' hb ((ha.trans ha' I).env (YB ha.agr ha' hs')) O ?_;intro e2 env2 ds2 w2 a2 ha2 u hk2;refine hQ _ _ _ _ _ ha2 (λhx=> ?_) hk2;simp only[lS,or_eq_false_iff] at hx;exact u hx.2
  |_=>exact hQ _ _ _ _ _ (ha.trans ha' I) (λ_=>rfl) hk
 |true=>
  rw[hr] at h;simp only[cond_true,Pe] at h;refine wpIn_seq (ihx r ax env ds w _ n _ (writes x) a a h ha.self (λs hs=>hs) ?_);intro e env' ds' w' a' ha' _ hk
  cases e with
  |normal=>
   obtain⟨s',hb,hs'⟩:=VH _ _ _ hk;refine ihy r ay _ ds' w' K n Q ws a0 a' hb ((ha.trans ha' I).env (YB ha.agr ha' hs')) O ?_;intro e2 env2 ds2 w2 a2 ha2 u hk2;refine hQ _ _ _ _ _ ha2 (λhx=> ?_) hk2;simp[lS,hr] at hx
  |_=>exact hQ _ _ _ _ _ (ha.trans ha' I) (λhx=>by simp[lS,hr] at hx) hk
theorem aaj {nt:Nat} {c:Code} (ih:BL P nt c):BL P nt (.loop c):=by
 intro r an env ds w K n Q ws a0 a h ha J hQ
 cases an with
 |loop st x=>
  simp only[den] at h
  cases hr:lS c with
  |false=>
   rw[hr] at h;simp only[cond_false] at h;obtain⟨s0,⟨I,h0,u⟩,hs0⟩:=IC _ _ _ h;refine wpIn_loop_ghost (λm a' w'=>∃s:QG st,I m s w'/\LD nt (mkD ds) ws a0 (encS st s++without (writes c) env) a') ?_ ?_
   ·obtain⟨m,hm⟩:=h0;exact⟨m,s0,hm,ha.env (Vq _ ha.agr hs0)⟩
   ·rintro m a1 w1 ⟨s,hI,ha1⟩;refine ih r x _ ds w1 _ n _ (writes c) a1 a1 (u m s w1 hI) ha1.self (λs hs=>hs) ?_;intro e env' ds' w' a' ha' N hk;have N:=N hr;subst N
    cases e with
    |normal=>
     obtain⟨s',⟨m',O,hI'⟩,hs'⟩:=IC _ _ _ hk;exact⟨m',O,s',hI',(ha1.trans ha' J).env (YC ha1 ha' hs')⟩
    |_=>exact hQ _ _ _ _ _ (ha1.trans ha' J) (λ_=>rfl) hk
  |true=>
   rw[hr] at h;simp only[cond_true] at h;obtain⟨s0,⟨I,h0,u⟩,hs0⟩:=IC _ _ _ h;refine wpIn_loop_ghost (λm a' w'=>∃s:QG st×List Nat,I m s w'/\LD nt (mkD s.2) ws a0 (encS st s.1++without (writes c) env) a') ?_ ?_
   ·obtain⟨m,hm⟩:=h0;exact⟨m,(s0,ds),hm,ha.env (Vq _ ha.agr hs0)⟩
   ·rintro m a1 w1 ⟨s,hI,ha1⟩;refine ih r x _ s.2 w1 _ n _ (writes c) a1 a1 (u m s w1 hI) ha1.self (λs hs=>hs) ?_;intro e env' ds' w' a' ha' _ hk
    cases e with
    |normal=>
     obtain⟨s',⟨m',O,hI'⟩,hs'⟩:=IC _ _ _ hk;exact⟨m',O,(s',ds'),hI',(ha1.trans ha' J).env (YC ha1 ha' hs')⟩
    |_=>exact hQ _ _ _ _ _ (ha1.trans ha' J) (λhx=>by simp[lS,hr] at hx) hk
 |_=>exact h.elim
theorem Ux {fn:FuncId} {tmps:Array Value} {ps:Array Tmp} {assign body:Code} {w:θ}:
  (Instr.enterLoop fn tmps ps assign body none).run P w=
   .ok (w.heap.size+1,[{target:= .collected w.heap.size,args:= #[]}])
    ((w.alloc (.deferred (some []))).alloc (.loop {state:= .ready,pending:=none,fn:=fn,tmps:=tmps,params:=ps,assign:=assign,body:=body,defers:=w.heap.size})):=by
 simp[Instr.enterLoop]
theorem Om {fn:FuncId} {tmps:Array Value} {ps:Array Tmp} {assign body:Code} {w:θ} {l₀:Nat} {lp:Loop} (h:w.heap[l₀]? =some (.loop lp)):
  (Instr.enterLoop fn tmps ps assign body (some l₀)).run P w=
   .ok (w.heap.size,[]) (w.alloc (.loop {state:= .ready,pending:=none,fn:=fn,tmps:=tmps,params:=ps,assign:=assign,body:=body,defers:=lp.defers})):=by
 simp[Instr.enterLoop,run_getLoop h]
theorem acw {e:Exit} {j:Option Code} (h:Aq e=some j):j.isNone=Ap e:=by
 cases e<;>simp[Aq] at h<;>subst h<;>rfl
theorem Z9 {nt:Nat} {assign body:Code} (ih1:BL P nt assign) (ih2:BL P nt body) {l:Nat} {fn:FuncId} {tmps:Array Value} {ps:Array Tmp} {dfr:Nat} {ks:List Shape} {x y:ϓ} {env:Env}
  (hlen:Nat.beq ps.toList.length ks.length=true) (U:GY ps.toList=true) (Y:∀s∈ps.toList,s<nt) (Z:lS assign=false) (O:tmps.size=nt) (aa:∀s v,env.get s=some v->tmps[s]? =some v)
  {x':yu ks} {W:θ} {p:Option Code} {R:Bool->b_} (hL:LL l fn tmps ps assign body dfr .ready p W)
  (h:den P nt assign (some l) x (Rq ps.toList (encR ks x')++env) [] W λe env1 _ W1=>match e with
    | .normal=>W1.heap[l]? =W.heap[l]? /\den P nt body (some l) y env1 [] (gG W1 l) λe _ _ W2=>
      (LL l fn tmps ps assign body dfr .busy p W2/\∃j,Aq e=some j/\R (Ap e) (iQ W2 l (if Ap e then .ready else .done) j))
    |_=>False):JW P l (encR ks x') W R:=by
 have ac:∀(ks:List Shape) (x:yu ks),(encR ks x).length=ks.length:=by
  intro ks
  induction ks with
  |nil=>intro x;rfl
  |cons k ks ih=>intro x;simp[encR,ih]
 have hl2:(encR ks x').length=ps.size:=by
  rw[ac];have:=Nat.eq_of_beq_eq_true hlen;simpa using this.symm
 refine⟨fn,P7 ps.toList (encR ks x') tmps,assign,body,?_,?_⟩
 ·have h1:(ps.zip (⟨encR ks x'⟩:Array Value)).foldl (λ(tmps:Array Value) (x:Tmp×Value)=>tmps.setIfInBounds x.1 x.2) tmps=P7 ps.toList (encR ks x') tmps:=by
   rw[<- Array.foldl_toList,Array.toList_zip]
  simp only[Instr.yield,Sem.run_bind,run_getLoop hL,Result.andThen_ok];have h2:¬((⟨encR ks x'⟩:Array Value).size≠ps.size):=by simpa using hl2
  simp only[h2,if_false,Sem.run_pure];congr 2
 ·refine roundIn_of_wpIn (F:=Fence.wide) trivial ?_;have hA:LD nt (mkD []) (writes assign) {tmps:=P7 ps.toList (encR ks x') tmps,defers:=[]} (Rq ps.toList (encR ks x')++env) {tmps:=P7 ps.toList (encR ks x') tmps,defers:=[]}:=by
   refine⟨λs v hs=> ?_,by simp[acz,O],rfl,λ_ _=>rfl⟩;rw[get_append] at hs
   cases he:Env.get (Rq ps.toList (encR ks x')) s with
   |some u=>
    rw[he] at hs;simp only[Option.some.injEq] at hs;subst hs;exact aeL _ _ _ U (λs hs=>by rw[O];exact Y s hs) s u he
   |none=>
    rw[he] at hs;have hn:s∉ps.toList:=by
     intro hm;have:∀(ps:List Nat) (vs:List Value),ps.length=vs.length->s∈ps->Env.get (Rq ps vs) s≠none:=by
      intro ps
      induction ps with
      |nil=>intro vs _ h;cases h
      |cons q ps ih=>
       intro vs hl hm
       cases vs with
       |nil=>simp at hl
       |cons v vs=>
        simp only[Rq,oI];by_cases e:q=s
        ·simp[e]
        ·simp only[e,if_false];refine ih vs (by simpa using hl) ?_
         cases hm with
         |head=>exact absurd rfl e
         |tail _ h=>exact h
     exact this _ _ (by simpa using hl2.symm) hm he
    show (P7 ps.toList (encR ks x') tmps)[s]? =some v;rw[RZ _ _ _ _ hn];exact aa s v hs
  refine ih1 (some l) x _ [] W _ 0 _ (writes assign) _ _ h hA (λs hs=>hs) ?_;intro e env1 ds1 W1 a1 ha1 I hk;have I:=I Z;subst I
  cases e with
  |normal=>
   obtain⟨J,hk⟩:=hk;have hL1:W1.heap[l]? =some (.loop {state:= .ready,pending:=p,fn:=fn,tmps:=tmps,params:=ps,assign:=assign,body:=body,defers:=dfr}):=J.trans hL;refine⟨gG W1 l,run_beginRound hL1 rfl,?_⟩;have ha1':LD nt (mkD []) (writes body) a1 env1 a1:=ha1.self;refine ih2 (some l) y env1 [] _ _ 0 _ (writes body) a1 a1 hk ha1' (λs hs=>hs) ?_;intro e env2 ds2 W2 a2 ha2 _ hk2;obtain⟨hL2,j,hj,hR⟩:=hk2;have N:=run_endRound (P:=P) hL2 j;rw[acw hj] at N;have hR':∃b:Bool,Ending.returned (.bool (Ap e))= .returned (.bool b)/\R b (iQ W2 l (if Ap e then .ready else .done) j):=⟨_,rfl,hR⟩
   cases e<;>simp only[Aq,Option.some.injEq] at hj<;>first
    |(subst hj;exact⟨_,_,N,hR'⟩)
    |(cases hj;done)
  |_=>exact hk.elim
theorem ab1 (hP:Vo P) {f:FuncId} {first cap:Array Value} {l:Nat} {W:θ} (hb:ni P f=true) {a:Act} {g:Operand} (hg:a.eval g= .func (.func f) first cap):
  ∃d,(resolve a.eval (rangeCall g l) 0).run P W= .ok d W/\(invoke d.target d.args).run P W= .ok (.enter f ⟨first.toList++(Value.func (.yield l) #[] #[]::cap.toList)⟩) W:=by
 refine⟨{target:= .fn (.func f) cap,args:=first++ #[.func (.yield l) #[] #[]]},?_,?_⟩
 ·simp only[resolve,hg,Deferred.ofValue,Sem.run_pure,List.map_toArray,map_cons,List.map_nil];rfl
 ·have e:first++ #[Value.func (.yield l) #[] #[]]++cap=⟨first.toList++(Value.func (.yield l) #[] #[]::cap.toList)⟩:=by apply Array.toList_inj.mp;simp
  simp only[invoke,e];exact yX hP hb _ _
theorem ϯ {id:Nat} {w:θ} {K:Exit->b_}:∀(l:List Nat),RD id (l.map λid=>(id,K (.exit id))) w->K (.exit id) w:=by
 intro l
 induction l with
 |nil=>intro h;exact h.elim
 |cons i l ih=>
  intro h;simp only[map_cons,RD] at h
  cases hb:Nat.beq i id with
  |true=>
   rw[hb] at h;have:=Nat.eq_of_beq_eq_true hb;subst this;exact h
  |false=>rw[hb] at h;exact ih h
theorem aad {K:Exit->b_} {l:List Nat} {p:Option Code} {w:θ} (h:aeK (K .normal) (K .ret) (l.map λid=>(id,K (.exit id))) p w) {F:Fence} {n:Nat} {Q:Exit->Act->b_} {a:Act}
  (hQ:∀e w,K e w->Q e a w):(p=none->Q .normal a w)/\∀c,p=some c->c.wpIn F n P Q a w:=by
 cases p with
 |none=>exact⟨λ_=>hQ _ _ h,λc hc=>by cases hc⟩
 |some c=>
  refine⟨λhc=>by(cases hc),λc' hc=> ?_⟩
  cases hc
  cases c<;>first|exact h.elim|exact wpIn_ret (hQ _ _ h)|exact wpIn_exit (hQ _ _ (ϯ l h))
theorem acZ (hP:Vo P) {nt:Nat} {g:Operand} {ps:Array Tmp} {assign body:Code} (ih1:BL P nt assign) (ih2:BL P nt body):BL P nt (.rangeFunc g ps assign body):=by
 intro r an env ds w K n Q ws a0 a h ha hws hQ
 cases an with
 |rng ks x y=>
  simp only[den] at h
  cases hb:(!lS assign && (Nat.beq ps.toList.length ks.length && (GY ps.toList && ps.toList.all λs=>Nat.blt s nt))) with
  |false=>rw[hb] at h;exact h.elim
  |true=>
   rw[hb] at h;simp only[cond_true] at h;simp only[and_eq_true,List.all_eq_true,blt_eq,Bool.not_eq_true'] at hb;obtain⟨U,hlen,Y,Z⟩:=hb;obtain⟨hr0,h⟩:=h;split at h
   ·rename_i f first cap hv
    obtain⟨u,h⟩:=h;have hg:a.eval g= .func (.func f) first cap:=by
     cases hx:evO env g with
     |none=>simp[ev,hx,undef] at hv
     |some v=>
      have:=YW ha.agr hx;simp only[ev,hx,getD_some] at hv;rw[this,hv]
    refine wpIn_rangeFunc λfn _=> ?_;have mk:∀(l:Nat) (mark:List Deferred) (w1:θ) (dfr:Nat),(Instr.enterLoop fn a.tmps ps assign body (Fr r).round).run P w= .ok (l,mark) w1->
      (l=if r.isNone then w.heap.size+1 else w.heap.size)->w1.heap.size=l+1->(∀b,b<w.heap.size->w1.heap[b]? =w.heap[b]?)->(w1.os=w.os/\w1.tape=w.tape/\w1.output=w.output)->(r=none->w1.heap[w.heap.size]? =some (.deferred (some [])))->
      LL l fn a.tmps ps assign body dfr .ready none w1->mark++a.defers=mkD (cond r.isNone (w.heap.size::ds) ds)->
      ∃(l:Nat) (mark:List Deferred) (w₁:θ) (d:Deferred) (w₁':θ) (f:FuncId) (args:Array Value) (w₂:θ),
       (Instr.enterLoop fn a.tmps ps assign body (Fr r).round).run P w= .ok (l,mark) w₁/\(resolve a.eval (rangeCall g l) 0).run P w₁= .ok d w₁'/\
       (∀f',Target.leads P w₁' d.target d.args=some f'->(Fr r).fn f')/\(invoke d.target d.args).run P w₁'= .ok (.enter f args) w₂/\((Fr r).depth.isSome=true->1<=n)/\
       CallsIn (Fr r) (n - 1) P f args w₂ (rangePost (Fr r) n P l Q {a with defers:=mark++a.defers}):=by
     intro l mark w1 dfr he hl aa J ac af ag ah;obtain⟨d,N,O⟩:=ab1 hP (l:=l) (W:=w1) u hg;refine⟨l,mark,w1,d,w1,f,_,w1,he,N,λ_ _=>trivial,O,λhx=>by simp[Fr,Fence.wide] at hx,?_⟩;have I:=h l (LL l fn a.tmps ps assign body dfr) w1 {
      at_:=hl
      size:=aa
      old:=J
      io:=ac
      marks:=af
      ready:=ag
      frame:=λst p W W' hL hs=>hs.trans hL
      set:=λst p st' p' W hL=>aaK hL st' p'
      busy:=λp W hL=>adS hL
      isLoop:=λst p W hL=>⟨_,hL⟩
      yield:=λx' W p R hL hx=>Z9 ih1 ih2 hlen Y Z U ha.size ha.agr hL hx}
     have hc:CallsIn Fence.wide (n - 1) P f _ w1 _:=callsIn_wide.2 (Iu I);refine CallsIn.mono (F:=Fr r) hc λe w2 hx=> ?_;obtain⟨v,rfl,st,p,hL,ai,hj⟩:=hx;refine⟨p,_,run_endLoop hL ai,?_⟩;have hj2:=aad (P:=P) (F:=Fr r) (n:=n) (Q:=Q) (a:={a with defers:=mark++a.defers}) (K:=λe w'=>K e env (cond r.isNone (w.heap.size::ds) ds) w') (l:=xH body) hj λe w' hk=>
      hQ _ _ _ _ _ ⟨ha.agr,ha.size,ah,ha.same⟩ (λhx=>by simp[lS] at hx) hk
     clear hj I hc
     cases p with
     |none=>exact hj2.1 rfl
     |some c=>exact hj2.2 c rfl
    cases r with
    |none=>
     refine mk (w.heap.size+1) _ _ w.heap.size Ux rfl (by simp) (λb hb=> ?_) ⟨rfl,rfl,rfl⟩ (λ_=> ?_) ?_ (by simp[mkD,ha.defers])
     ·have h1:b≠w.heap.size+1:=by omega
      have h2:b≠w.heap.size:=by omega
      simp[World.alloc,-World.alloc_eq,getElem?_push,h1,h2]
     ·simp[World.alloc,-World.alloc_eq,getElem?_push]
     ·have:=World.alloc_heap_new (w.alloc (.deferred (some []))) (.loop {state:= .ready,pending:=none,fn:=fn,tmps:=a.tmps,params:=ps,assign:=assign,body:=body,defers:=w.heap.size});rw[World.size_alloc] at this;exact this
    |some l₀=>
     obtain⟨lp,aj⟩:=hr0 l₀ rfl;refine mk w.heap.size _ _ lp.defers (Om aj) rfl (by simp) (λb hb=> ?_) ⟨rfl,rfl,rfl⟩ (λhx=>by cases hx) ?_ (by simp[ha.defers])
     ·have h2:b≠w.heap.size:=by omega
      simp[World.alloc,-World.alloc_eq,getElem?_push,h2]
     ·simp[LL,World.alloc,-World.alloc_eq]
   ·exact h.elim
 |_=>exact h.elim
theorem ab9 (hP:Vo P) (nt:Nat):∀c,BL P nt c:=by
 intro c
 induction c with
 |skip=>intro r an env ds w K n Q ws a0 a h ha u hQ;exact wpIn_skip (hQ _ _ _ _ _ ha (λ_=>rfl) h)
 |label l=>intro r an env ds w K n Q ws a0 a h ha u hQ;exact wpIn_label (hQ _ _ _ _ _ ha (λ_=>rfl) h)
 |ret=>intro r an env ds w K n Q ws a0 a h ha u hQ;exact wpIn_ret (hQ _ _ _ _ _ ha (λ_=>rfl) h)
 |exit id=>intro r an env ds w K n Q ws a0 a h ha u hQ;exact wpIn_exit (hQ _ _ _ _ _ ha (λ_=>rfl) h)
 |region id ops draw=>
  intro r an env ds w K n Q ws a0 a h ha u hQ;simp only[den] at h
  cases draw with
  |true=>exact Rl hP u (λenv a w ha hk=>hQ _ _ _ _ _ ha (λ_=>rfl) hk) ha h
  |false=>
   refine wpIn_region ?_;have:=X6 (r:=r) (n:=n) (Q:=Q) hP u (λenv a w ha hk=>hQ _ _ _ _ _ ha (λ_=>rfl) hk) ops.toList 0 env a w (by simp) ha h;rw[List.range_eq_range'];simpa using this
 |seq x y ihx ihy=>
  intro r an env ds w K n Q ws a0 a h ha u hQ
  cases an with
  |seq ax ay=>
   simp only[den] at h;refine wpIn_seq (ihx r ax env ds w _ n _ ws a0 a h ha (λs hs=>u s (by simp[writes,hs])) ?_);intro e env' ds' w' a' ha' I hk
   cases e with
   |normal=>
    refine ihy r ay env' ds' w' K n Q ws a0 a' hk ha' (λs hs=>u s (by simp[writes,hs])) ?_;intro e2 env2 ds2 w2 a2 ha2 J hk2;refine hQ _ _ _ _ _ ha2 (λhx=> ?_) hk2;simp only[lS,or_eq_false_iff] at hx;rw[J hx.2,I hx.1]
   |_=>
    refine hQ _ _ _ _ _ ha' (λhx=> ?_) hk;simp only[lS,or_eq_false_iff] at hx;exact I hx.1
  |join st ax ay=>exact aac ihx ihy h ha u hQ
  |_=>exact h.elim
 |cond c x y ihx ihy=>
  intro r an env ds w K n Q ws a0 a h ha u hQ
  cases an with
  |cond ax ay=>
   simp only[den] at h;split at h
   ·rename_i t ht;refine wpIn_cond (YW ha.agr ht) ?_
    cases t with
    |true=>
     refine ihx r ax env ds w K n Q ws a0 a h ha (λs hs=>u s (by simp[writes,hs])) λe env' ds' w' a' ha' I hk=>hQ _ _ _ _ _ ha' (λhx=> ?_) hk;simp only[lS,or_eq_false_iff] at hx;exact I hx.1
    |false=>
     refine ihy r ay env ds w K n Q ws a0 a h ha (λs hs=>u s (by simp[writes,hs])) λe env' ds' w' a' ha' I hk=>hQ _ _ _ _ _ ha' (λhx=> ?_) hk;simp only[lS,or_eq_false_iff] at hx;exact I hx.2
   ·exact h.elim
  |_=>exact h.elim
 |block id x ihx=>
  intro r an env ds w K n Q ws a0 a h ha u hQ
  cases an with
  |blk ax=>
   simp only[den] at h;refine wpIn_block (ihx r ax env ds w _ n _ ws a0 a h ha u ?_);intro e env' ds' w' a' ha' I hk
   cases e with
   |exit id'=>
    simp only at hk;simp only[Exit.inBlock];by_cases N:id'=id
    ·subst N;have:Nat.beq id' id'=true:=by simp
     rw[this] at hk;rw[if_pos rfl];exact hQ _ _ _ _ _ ha' I hk
    ·have:Nat.beq id' id=false:=by cases hx:Nat.beq id' id;rfl;exact absurd (Nat.eq_of_beq_eq_true hx) N
     rw[this] at hk;rw[if_neg N];exact hQ _ _ _ _ _ ha' I hk
   |_=>exact hQ _ _ _ _ _ ha' I hk
  |_=>exact h.elim
 |loop x ihx=>exact aaj ihx
 |rangeFunc g ps assign body ih1 ih2=>exact acZ hP ih1 ih2
 |scope x ihx=>
  intro r an env ds w K n Q ws a0 a h ha u hQ;simp only[den] at h;refine JF (ihx r an env ds w _ n _ ws a0 a h ha u ?_);intro e env' ds' w' a' ha' I hk
  cases e with
  |goto l=>exact hk.elim
  |_=>exact hQ _ _ _ _ _ ha' I hk
 |goto l=>intro r an env ds w K n Q ws a0 a h ha u hQ;exact h.elim
 |refuse y=>intro r an env ds w K n Q ws a0 a h ha u hQ;exact h.elim
end
end Gp
end
section
namespace Gp
open Go
@[reducible] def QF:List Kind->Type
 |[]=>b_
 |k::r=>k.T->QF r
def flat:List Shape->List Kind
 |[]=>[]
 | .one k::r=>k::flat r
 | .agg ks::r=>ks++flat r
def ad3:(ks:List Kind)->(rest:List Kind)->List Value->QF (ks++rest)->(QF rest->Prop)->Prop
 |[],_,[],c,φ=>φ c
 |k::ks,rest,v::vs,c,φ=>k.dec v λx=>ad3 ks rest vs (c x) φ
 |_,_,_,_,_=>False
def Ri:(sh:List Shape)->List Value->QF (flat sh)->b_
 |[],[],c,w=>c w
 | .one k::r,v::vs,c,w=>k.dec v λx=>Ri r vs (c x) w
 | .agg ks::r,v::vs,c,w=>match v with
  | .agg cs=>ad3 ks (flat r) cs.toList c λc'=>Ri r vs c' w
  |_=>False
 |_,_,_,_=>False
def YX:(ks:List Kind)->(rest:List Kind)->QF (ks++rest)->(List Value->QF rest->Prop)->Prop
 |[],_,c,φ=>φ [] c
 |k::ks,rest,c,φ=>∃x:k.T,YX ks rest (c x) λvs c'=>φ (k.enc x::vs) c'
def YZ:(sh:List Shape)->QF (flat sh)->(List Value->Prop)->b_
 |[],c,φ,w=>φ []/\c w
 | .one k::r,c,φ,w=>∃x:k.T,YZ r (c x) (λvs=>φ (k.enc x::vs)) w
 | .agg ks::r,c,φ,w=>YX ks (flat r) c λvs c'=>YZ r c' (λus=>φ (.agg ⟨vs⟩::us)) w
theorem ad4:∀(ks rest:List Kind) (vs:List Value) (c:QF (ks++rest)) (φ:QF rest->Prop),ad3 ks rest vs c φ->
  ∀ψ:List Value->QF rest->Prop,(∀c',φ c'->ψ vs c')->YX ks rest c ψ:=by
 intro ks
 induction ks with
 |nil=>
  intro rest vs c φ h ψ hψ
  cases vs with
  |nil=>exact hψ c h
  |cons v vs=>exact h.elim
 |cons k ks ih=>
  intro rest vs c φ h ψ hψ
  cases vs with
  |nil=>exact h.elim
  |cons v vs=>
   obtain⟨x,hx,h'⟩:=Iz h;subst hx;exact⟨x,ih rest vs (c x) φ h' _ hψ⟩
theorem ad5:∀(sh:List Shape) (vs:List Value) (c:QF (flat sh)) (w:θ),Ri sh vs c w->∀φ:List Value->Prop,φ vs->YZ sh c φ w:=by
 intro sh
 induction sh with
 |nil=>
  intro vs c w h φ hφ
  cases vs with
  |nil=>exact⟨hφ,h⟩
  |cons v vs=>exact h.elim
 |cons s sh ih=>
  intro vs c w h φ hφ
  cases s with
  |one k=>
   cases vs with
   |nil=>exact h.elim
   |cons v vs=>
    obtain⟨x,hx,h'⟩:=Iz h;subst hx;exact⟨x,ih vs (c x) w h' (λvs=>φ (k.enc x::vs)) hφ⟩
  |agg ks=>
   cases vs with
   |nil=>exact h.elim
   |cons v vs=>
    cases v with
    |agg cs=>exact ad4 ks (flat sh) cs.toList c _ h _ λc' h'=>ih vs c' w h' (λus=>φ (.agg ⟨cs.toList⟩::us)) hφ
    |_=>exact h.elim
def yj:List Nat->θ->(b_)->Prop
 |[],w,K=>K w
 |D::ds,w,K=>w.heap[D]? =some (.deferred (some []))/\yj ds (w.putObj D (.deferred none)) K
def CX (P:Program):List ResultVar->Env->θ->(List Value->Prop)->Prop
 |[],_,_,φ=>φ []
 | .tmp t::r,env,w,φ=>match env.get t with
  |some v=>CX P r env w λvs=>φ (v::vs)
  |none=>False
 | .cell a t::r,env,w,φ=>match env.get a,shapeOf P t,jB P t with
  |some (.pointer (some ad)),some sh,some n=>cond (Nat.beq sh.cells n) (sh.ld w ad λv=>CX P r env w λvs=>φ (v::vs)) False
  |_,_,_=>False
def aiQ (P:Program) (rs:List ResultVar) (sh:List Shape) (Post:QF (flat sh)) (e:Exit) (env:Env) (ds:List Nat) (w:θ):Prop:=
 match e with
 | .normal=>yj ds w λw'=>CX P rs env w' λvs=>Ri sh vs Post w'
 | .ret=>yj ds w λw'=>CX P rs env w' λvs=>Ri sh vs Post w'
 |_=>False
def NT:Nat->List Value->Env
 |_,[]=>[]
 |i,v::vs=>(i,v)::NT (i+1) vs
theorem Ϡ:∀(vs:List Value) (i s:Nat) (v:Value),Env.get (NT i vs) s=some v->i<=s/\vs[s - i]? =some v:=by
 intro vs
 induction vs with
 |nil=>intro i s v h;simp[NT,Env.get] at h
 |cons u vs ih=>
  intro i s v h;simp only[NT,oI] at h;by_cases e:i=s
  ·subst e;simp at h;simp[h]
  ·rw[if_neg e] at h;obtain⟨h1,h2⟩:=ih _ _ _ h;refine⟨by omega,?_⟩;obtain⟨m,hm⟩:∃m,s - i=m+1:=⟨s - i - 1,by omega⟩;rw[hm];have:s - (i+1)=m:=by omega
   rw[this] at h2;simpa using h2
section
variable {P:Program}
def resV (tmps:Array Value) (x:ResultVar):Sem Value:=
 match x with
 | .tmp t=>pure (tmps.getD t undef)
 | .cell b t=>do loadVar t (<- asAddr (tmps.getD b undef))
theorem aaJ {a:Act} {env:Env} {w:θ} (ha:Agr env a):∀(rs:List ResultVar) (φ:List Value->Prop),CX P rs env w φ->
  ∃vs,(rs.mapM (resV a.tmps)).run P w= .ok vs w/\φ vs:=by
 intro rs
 induction rs with
 |nil=>exact λφ h=>⟨[],by simp,h⟩
 |cons x rs ih=>
  intro φ h
  cases x with
  |tmp t=>
   simp only[CX] at h
   cases hg:env.get t with
   |none=>simp only[hg] at h
   |some v=>
    simp only[hg] at h;obtain⟨vs,hr,hφ⟩:=ih _ h;have:=ha t v hg;refine⟨v::vs,?_,hφ⟩;rw[List.mapM_cons];simp only[resV,Sem.run_bind,Sem.run_pure,Result.andThen_ok,Array.getD_eq_getD_getElem?,this,getD_some,hr]
  |cell b t=>
   simp only[CX] at h;split at h
   ·rename_i ad sh n hg hs hn
    cases hb:Nat.beq sh.cells n with
    |false=>rw[hb] at h;exact h.elim
    |true=>
     rw[hb] at h;obtain⟨v,hv,h⟩:=PK (P:=P) hs hn (Nat.eq_of_beq_eq_true hb) h;obtain⟨vs,hr,hφ⟩:=ih _ h;have:=ha b _ hg;refine⟨v::vs,?_,hφ⟩;rw[List.mapM_cons];simp only[resV,Sem.run_bind,Sem.run_pure,Result.andThen_ok,Array.getD_eq_getD_getElem?,this,getD_some,asAddr,hv,hr]
   ·exact h.elim
theorem Z7 {fn:Func} {a:Act} {env:Env} {w:θ} (ha:Agr env a) {φ:List Value->Prop} (h:CX P fn.results.toList env w φ):
  ∃vs,(results fn a.tmps).run P w= .ok (Yr vs) w/\φ vs:=by
 obtain⟨vs,hr,hφ⟩:=aaJ ha _ _ h;refine⟨vs,?_,hφ⟩;have e:results fn a.tmps=(do let vs<- fn.results.mapM (resV a.tmps);pure (if h:vs.size=1 then vs[0] else .tuple vs)):=rfl
 rw[e,Array.mapM_eq_mapM_toList];simp only[Sem.run_bind,Sem.run_map];rw[hr];simp only[Result.andThen_ok,Sem.run_pure];congr 1
 match vs with
 |[]=>rfl
 |[v]=>rfl
 |v::u::vs=>rfl
theorem WR {fn:Func} {a:Act} {env:Env} (ha:Agr env a) {R:Ending->b_} {φ:List Value->b_} (hR:∀vs w,φ vs w->R (.returned (Yr vs)) w):
  ∀(ds:List Nat) (w:θ),yj ds w (λw'=>CX P fn.results.toList env w' λvs=>φ vs w')->LeavesInM (Fr none) 0 P fn a.tmps R (mkD ds) .returning w:=by
 intro ds
 induction ds with
 |nil=>
  intro w h;obtain⟨vs,hr,hφ⟩:=Z7 ha h;exact⟨_,hr,hR _ _ hφ⟩
 |cons D ds ih=>
  intro w h;obtain⟨h1,h2⟩:=h;exact⟨by simp,.inl ⟨D,_,rfl,run_takeDeferred h1,ih _ h2⟩⟩
theorem aep (hP:Vo P) {f:FuncId} {fn:Func} {c:Code} {nt:Nat} (hf:P.funcs[f]? =some fn) (hb:fn.body=some c) (N:fn.ntmps=nt) {rs:List ResultVar} (O:fn.results=⟨rs⟩)
  (sh:List Shape) (Post:QF (flat sh)) (an:ϓ) (args:List Value) (hl:Nat.ble args.length nt=true) (w:θ) (h:den P nt c none an (NT 0 args) [] w (aiQ P rs sh Post)):
  Calls P f ⟨args⟩ w λe w'=>YZ sh Post (λus=>e= .returned (Yr us)) w':=by
 refine(callsIn_wide (n:=0)).1 ?_;refine callsIn_of_wp_marks (F:=Fr none) hf hb trivial ?_ rfl;have R:((⟨args⟩:Array Value)++Array.replicate (fn.ntmps - (⟨args⟩:Array Value).size) undef).size=nt:=by
  have:=Nat.le_of_ble_eq_true hl;simp[N];omega
 refine ab9 hP nt c none an _ [] w _ 0 _ (writes c) _ _ h ⟨λs v hs=> ?_,R,rfl,λ_ _=>rfl⟩ (λs hs=>hs) ?_
 ·obtain⟨_,h2⟩:=Ϡ _ _ _ _ hs;have I:=(List.getElem?_eq_some_iff.1 h2).1;simp only[Nat.sub_zero] at h2 I;show ((⟨args⟩:Array Value)++Array.replicate (fn.ntmps - (⟨args⟩:Array Value).size) undef)[s]? =some v;rw[Array.getElem?_append_left (by simpa using I)];simpa using h2
 ·intro e env' ds' w' a' ha' _ hk;have J:∀w',yj ds' w' (λw'=>CX P rs env' w' λvs=>Ri sh vs Post w')->
    LeavesInM (Fr none) 0 P fn a'.tmps (λe w'=>YZ sh Post (λus=>e= .returned (Yr us)) w') a'.defers .returning w':=by
   intro w' hw';rw[ha'.defers];have u:fn.results.toList=rs:=by rw[O]
   rw[<- u] at hw';exact WR ha'.agr (φ:=λvs w'=>Ri sh vs Post w') (λvs w hd=>ad5 sh vs Post w hd (λus=>Ending.returned (Yr vs)= .returned (Yr us)) rfl) ds' w' hw'
  cases e with
  |normal=>exact J w' hk
  |ret=>exact J w' hk
  |_=>exact hk.elim
theorem Vo.ahX (h:(P.funcs.toList.all λfn=> !(fn.name=="runtime.NumGoroutine"))=true) (hm:P.follows .mixedOrders=true):Vo P:=by
 refine⟨λf fn hf _=> ?_,hm⟩;rw[List.all_eq_true] at h;have:=h fn (List.mem_of_getElem? (by simpa using hf));simpa using this
end
def bs (l:List UInt8):ByteArray:=⟨⟨l⟩⟩
def Al (w:θ) (o:Obj) (K:Addr->b_):Prop:=K ⟨w.heap.size,0,none⟩ (w.alloc o)
end Gp
end
section
namespace Gp
open Go
def Row (w:θ) (b:Nat) (l:List Value):Prop:=∃T,w.heap[b]? =some (.cells ⟨l⟩ T (0,0))
structure gW (w w':θ) (S:Nat->Prop):Prop where
 size:w.heap.size<=w'.heap.size
 same:∀b,b<w.heap.size->¬S b->w'.heap[b]? =w.heap[b]?
 io:w'.os=w.os/\w'.tape=w.tape/\w'.output=w.output
theorem gy (b o n:Nat):(⟨b,o,none⟩:Addr).add n=⟨b,o+n,none⟩:=by
 unfold Addr.add;by_cases h:n=0
 ·simp[h]
 ·simp[h]
section
variable {w w' w1 w2:θ} {b b' i:Nat} {l l':List Value} {S S':Nat->Prop}
theorem Row.lt (h:Row w b l):b<w.heap.size:=by
 obtain⟨T,h⟩:=h;exact(Array.getElem?_eq_some_iff.1 h).1
theorem Row.cell (h:Row w b l) (i:Nat):w.cell? ⟨b,i,none⟩=l[i]? :=by
 obtain⟨T,h⟩:=h;simp[World.cell?,h]
theorem Row.frozen (h:Row w b l) (i:Nat):w.frozen? ⟨b,i,none⟩=false:=by
 obtain⟨T,h⟩:=h;simp[World.frozen?,h]
theorem gW.refl (w:θ) (S:Nat->Prop):gW w w S:=⟨Nat.le_refl _,λ_ _ _=>rfl,rfl,rfl,rfl⟩
theorem gW.trans (h:gW w w1 S) (h':gW w1 w2 S') (hs:∀b,b<w.heap.size->S' b->S b):gW w w2 S:=
 ⟨Nat.le_trans h.size h'.size,λb hb hn=>(h'.same b (Nat.lt_of_lt_of_le hb h.size) λx=>hn (hs b hb x)).trans (h.same b hb hn),h'.io.1.trans h.io.1,h'.io.2.1.trans h.io.2.1,h'.io.2.2.trans h.io.2.2⟩
theorem gW.mono (h:gW w w1 S) (hs:∀b,S b->S' b):gW w w1 S':=⟨h.size,λb hb hn=>h.same b hb λx=>hn (hs b x),h.io⟩
theorem gW.drew (w:θ) (S:Nat->Prop):gW w w.drew S:=⟨Nat.le_refl _,λ_ _ _=>rfl,rfl,rfl,rfl⟩
theorem gW.alloc (w:θ) (o:Obj) (S:Nat->Prop):gW w (w.alloc o) S:=
 ⟨by simp,λb hb _=>by simp[World.alloc,-World.alloc_eq,getElem?_push];omega,rfl,rfl,rfl⟩
theorem gW.set (w:θ) (a:Addr) (v:Value) (hs:S a.block):gW w (w.setCell a v) S:=by
 refine⟨by simp,λb hb hn=> ?_,rfl,rfl,rfl⟩;have:¬(a.block=b):=λe=>hn (e ▸ hs);simp[World.setCell,getElem?_modify,this]
theorem Row.fr (h:Row w b l) (hf:gW w w' S) (hs:¬S b):Row w' b l:=by
 have hl:=h.lt;obtain⟨T,h⟩:=h;exact⟨T,(hf.same b hl hs).trans h⟩
theorem Row.drew (h:Row w b l):Row w.drew b l:=h
theorem Row.new (w:θ) (l:List Value) (T:TypeId):Row (w.alloc (.cells ⟨l⟩ T)) w.heap.size l:=⟨T,World.alloc_heap_new w _⟩
theorem Row.set (h:Row w b l) (i:Nat) (v:Value):Row (w.setCell ⟨b,i,none⟩ v) b (l.set i v):=by
 obtain⟨T,h⟩:=h;refine⟨T,?_⟩;simp only[World.setCell,getElem?_modify,if_true,h,map_some];congr 2;simp[Array.setIfInBounds];intro hx;rw[List.set_eq_of_length_le hx]
theorem uo {T:TypeId} {K:Addr->b_} (h:∀b w1,Row w1 b l->b=w.heap.size->w1.heap.size=b+1->(∀S,gW w w1 S)->K ⟨b,0,none⟩ w1):Al w (.cells ⟨l⟩ T) K:=
 h _ _ (Row.new w l T) rfl (by simp) (λS=>gW.alloc w _ S)
theorem Dc {e size bytes:Nat} {z:List Value} {n c:Int} {K:fU->b_} (h0:0<=n) (h1:n<=c) (h2:c<=2^62) (h3:(bytes:Int) * c<=2^48)
  (h:∀b w1,Row w1 b (gZ z c.toNat)->b=w.heap.size->w1.heap.size=b+1->(∀S,gW w w1 S)->K ⟨some ⟨b,0,none⟩,n.toNat,c.toNat⟩ w1):Wp e size bytes z n c w K:=
 ⟨h0,h1,h2,h3,h _ _ (Row.new w _ e) rfl (by simp) (λS=>gW.alloc w _ S)⟩
theorem g_ {v:Value} {K:b_} (hr:Row w b l) (h1:iL v=true) (hi:i<l.length)
  (h:∀w1,Row w1 b (l.set i v)->(∀S:Nat->Prop,S b->gW w w1 S)->w1.heap.size=w.heap.size->K w1):St w ⟨b,i,none⟩ v K:=
 ⟨h1,by rw[hr.cell];simp[hi],hr.frozen i,h _ (hr.set i v) (λS hs=>gW.set w _ v hs) (by simp)⟩
theorem Qr {K:b_}:∀(vs:List Value) (w:θ) (l:List Value) (o i:Nat),Row w b l->(∀v∈vs,iL v=true)->o+i+vs.length<=l.length->
  (∀w1,Row w1 b (l.take (o+i)++vs++l.drop (o+i+vs.length))->(∀S:Nat->Prop,S b->gW w w1 S)->w1.heap.size=w.heap.size->K w1)->iw vs w ⟨b,o,none⟩ i K:=by
 intro vs
 induction vs with
 |nil=>
  intro w l o i hr _ _ h;exact h w (by simpa using hr) (λS _=>gW.refl _ _) rfl
 |cons v vs ih=>
  intro w l o i hr hv hl h;simp only[List.length_cons] at hl;show St w ((⟨b,o,none⟩:Addr).add i) v _;rw[gy];refine g_ hr (hv v (List.mem_cons_self ..)) (by omega) λw1 r1 f1 z1=> ?_;refine ih w1 _ o (i+1) r1 (λu hu=>hv u (List.mem_cons_of_mem _ hu)) (by rw[List.length_set];omega) λw2 r2 f2 z2=> ?_;refine h w2 ?_ (λS hs=>(f1 S hs).trans (f2 S hs) λ_ _ e=>e) (by omega);have e1:(l.set (o+i) v).take (o+(i+1))=l.take (o+i)++[v]:=by
   rw[<- Nat.add_assoc,List.take_succ_eq_append_getElem (by simp;omega),List.take_set_of_le (by omega)];simp
  have e2:(l.set (o+i) v).drop (o+(i+1)+vs.length)=l.drop (o+i+(vs.length+1)):=by
   rw[List.drop_set_of_lt (by omega)];congr 1;omega
  rw[e1,e2] at r2;simpa using r2
theorem yw {k:Kind} {x:k.T} {K:k.T->Prop} (hr:Row w b l) (hv:l[i]? =some (k.enc x)) (h:K x):Ld k w ⟨b,i,none⟩ K:=⟨x,by rw[hr.cell];exact hv,h⟩
theorem zI {s:fU} {size:Nat} {i:Int} {o:Nat} {K:Addr->Prop} (hs:s.a=some ⟨b,o,none⟩) (h0:0<=i) (h1:i<(s.len:Int)) (h:K ⟨b,o+i.toNat * size,none⟩):iM s size i K:=
 ⟨_,hs,h0,h1,by rw[gy];exact h⟩
theorem gX {S:Type} {body:S->θ->(S->b_)->Prop} {s:S} (I:S->b_) (μ:S->θ->Nat) (h0:I s w)
  (step:∀s w,I s w->∀next:S->b_,(∀s' w',I s' w'->μ s' w'<μ s w->next s' w')->body s w next):iW body s w:=
 ⟨λn s w=>I s w/\n=μ s w,⟨_,h0,rfl⟩,λn s w hI=>step s w hI.1 _ λs' w' hI' u=>⟨_,by rw[hI.2];exact u,hI',rfl⟩⟩
end
theorem jo {α:Type} (f:α->List Value) (k:Nat) (hf:∀x,(f x).length=k) (xs:List α):(xs.flatMap f).length=xs.length * k:=by
 induction xs with
 |nil=>simp
 |cons x xs ih=>simp[flatMap_cons,hf,ih,add_mul];omega
theorem flat_get {α:Type} (f:α->List Value) (k:Nat) (hf:∀x,(f x).length=k):∀(xs:List α) (i j:Nat),j<k->(xs.flatMap f)[i * k+j]? =(xs[i]?).bind λx=>(f x)[j]? :=by
 intro xs
 induction xs with
 |nil=>intro i j _;simp
 |cons x xs ih=>
  intro i j hj;rw[flatMap_cons]
  cases i with
  |zero=>rw[List.getElem?_append_left (by rw[hf];omega)];simp
  |succ i=>
   rw[List.getElem?_append_right (by rw[hf,add_mul];omega),hf];rw[show (i+1) * k+j - k=i * k+j by rw[add_mul];omega,ih i j hj];simp
theorem Gz {α:Type} (f:α->List Value) (k:Nat) (hf:∀x,(f x).length=k):∀(xs:List α) (i j:Nat) (x y:α) (v:Value),j<k->xs[i]? =some x->(f x).set j v=f y->
  (xs.flatMap f).set (i * k+j) v=(xs.set i y).flatMap f:=by
 intro xs
 induction xs with
 |nil=>intro i j x y v _ h;simp at h
 |cons z xs ih=>
  intro i j x y v hj hx hy
  cases i with
  |zero=>
   simp at hx;subst hx;simp only[flatMap_cons,List.set_cons_zero,Nat.zero_mul,Nat.zero_add];rw[List.set_append_left _ _ (by rw[hf];exact hj),hy]
  |succ i=>
   simp only[flatMap_cons,List.set_cons_succ];rw[List.set_append_right _ _ (by rw[hf,add_mul];omega),hf];rw[show (i+1) * k+j - k=i * k+j by rw[add_mul];omega];rw[ih i j x y v hj (by simpa using hx) hy]
theorem wrap_i64 {n:Int} (h1: -9223372036854775808<=n) (h2:n<=9223372036854775807):IntKind.i64.wrap n=n:=by
 rw[IntKind.wrap_i64];omega
def LdV (k:Kind):Option Value->(k.T->Prop)->Prop
 |some v,K=>k.dec v K
 |none,_=>False
theorem gJ (k:IntKind) (n:Int) (K:Int->Prop):Kind.dec (.int k) (.int k n) K=K n:=by cases k<;>rfl
theorem iY (b:Bool) (K:Bool->Prop):Kind.dec .bool (.bool b) K=K b:=rfl
theorem aa6 (b:ByteArray) (K:ByteArray->Prop):Kind.dec .str (.string b) K=K b:=rfl
theorem EG (a:fO) (K:fO->Prop):Kind.dec .ptr (.pointer a) K=K a:=rfl
theorem gQ (a:fO) (l c:Nat) (K:fU->Prop):Kind.dec .slice (.slice a l c) K=K ⟨a,l,c⟩:=rfl
theorem L6 (r:Option Nat) (K:Option Nat->Prop):Kind.dec .map (.map r) K=K r:=rfl
theorem Iy (v:Value) (K:Value->Prop):Kind.dec .any v K=K v:=by cases v<;>rfl
theorem YU (k:Kind) (x:k.T) (K:k.T->Prop):k.dec (k.enc x) K=K x:=by
 cases k with
 |int k=>exact gJ k x K
 |any=>exact Iy x K
 |_=>rfl
theorem Vm (k:Kind) (w:θ) (a:Addr) (K:k.T->Prop):Ld k w a K↔LdV k (w.cell? a) K:=by
 constructor
 ·rintro⟨x,hx,h⟩;rw[hx];show k.dec (k.enc x) K;rw[YU];exact h
 ·intro h
  cases hc:w.cell? a with
  |none=>rw[hc] at h;exact h.elim
  |some v=>
   rw[hc] at h;obtain⟨x,hx,h⟩:=Iz h;exact⟨x,by rw[hc,hx],h⟩
theorem f_ (k:Kind) (v:Value) (K:k.T->Prop):LdV k (some v) K=k.dec v K:=rfl
theorem uQ (a:Addr) (l c size:Nat) (i:Int) (K:Addr->Prop):iM ⟨some a,l,c⟩ size i K↔(0<=i/\i<(l:Int)/\K (a.add (i.toNat * size))):=by
 constructor
 ·rintro⟨a',h,h0,h1,h2⟩
  cases h
  exact⟨h0,h1,h2⟩
 ·rintro⟨h0,h1,h2⟩;exact⟨a,rfl,h0,h1,h2⟩
theorem MB {α:Type} (x:α) (P:α->Prop):(∃a,some x=some a/\P a)↔P x:=by
 constructor
 ·rintro⟨a,h,hp⟩;cases h;exact hp
 ·exact λh=>⟨x,rfl,h⟩
end Gp
end
section
namespace Gp
open Go Go.ChangeShapes Go.WideShapes
inductive jV
 |bool|int (k:IntKind)|str
 |slice (e:jV) (n:Nat)
 |agg (r:jV)
 |nil|cons (d:jV) (n:Nat) (r:jV)
 |arr (k:Nat) (d:jV) (n:Nat)
def jV.T:jV->Type
 | .bool=>Bool
 | .int _=>Int
 | .str=>ByteArray
 | .slice e _=>fU×List e.T
 | .agg r=>r.T
 | .nil=>Unit
 | .cons d _ r=>d.T×r.T
 | .arr _ d _=>List d.T
def jV.cells:(d:jV)->d.T->List Value
 | .bool,b=>[.bool b]
 | .int k,n=>[.int k n]
 | .str,s=>[.string s]
 | .slice _ _,x=>[.slice x.1.a x.1.len x.1.cap]
 | .agg r,x=>r.cells x
 | .nil,_=>[]
 | .cons d _ r,x=>d.cells x.1++r.cells x.2
 | .arr _ d _,xs=>xs.flatMap d.cells
def aft {α:Type} (w:θ) (s:fU) (n:Nat) (f:α->List Value) (xs:List α):Prop:=
 s.len=xs.length/\s.len<=s.cap/\s.cap<=maxLen/\(xs≠[]->∃b o,s.a=some ⟨b,o,none⟩/\b<w.heap.size/\∀i x,xs[i]? =some x->(f x).length=n/\∀j v,(f x)[j]? =some v->w.cell? ⟨b,o+i * n+j,none⟩=some v)
def ail {α:Type} (k:Nat) (p:α->Prop) (xs:List α):Prop:=xs.length=k/\∀y∈xs,p y
def jV.In (w:θ):(d:jV)->d.T->Prop
 | .bool,_=>True
 | .int k,n=>(Lit.int k n).wf=true
 | .str,s=>s.size<=maxLen
 | .slice e n,x=>aft w x.1 n e.cells x.2/\∀y∈x.2,e.In w y
 | .agg r,x=>r.In w x
 | .nil,_=>True
 | .cons d _ r,x=>d.In w x.1/\r.In w x.2
 | .arr k d _,xs=>ail k (λy:d.T=>d.In w y) xs
def jV.ok (P:Program):jV->Sum TypeId (Nat×Nat×List Field)->Bool
 | .bool,.inl t=>match P.underlying t with|some .bool=>true|_=>false
 | .int k,.inl t=>match P.underlying t with|some (.int k')=>decide (k'=k)|_=>false
 | .str,.inl t=>match P.underlying t with|some .string=>true|_=>false
 | .slice e n,.inl t=>match P.underlying t with|some (.slice e')=>Nat.beq (P.cellsOf e') n && Nat.blt 0 n && e.ok P (.inl e')|_=>false
 | .agg r,.inl t=>match P.underlying t with|some (.struct fs)=>r.ok P (.inr (0,P.cellsOf t,fs.toList))|_=>false
 | .arr k d n,.inl t=>match P.underlying t with|some (.array k' e')=>Nat.beq k' k && Nat.beq (P.cellsOf e') n && Nat.beq (P.cellsOf t) (k * n) && d.ok P (.inl e')|_=>false
 | .nil,.inr (o,n,[])=>Nat.beq o n
 | .cons d n r,.inr (o,m,f::fs)=>Nat.beq f.offset o && Nat.beq (P.cellsOf f.type) n && d.ok P (.inl f.type) && r.ok P (.inr (o+n,m,fs))
 |_,_=>false
theorem V3 {α:Type} {n:Nat} {p:Nat->α->Prop} (h:∀i,i<n->∃x,p i x):∃xs:List α,xs.length=n/\∀i x,xs[i]? =some x->p i x:=by
 induction n with
 |zero=>exact⟨[],rfl,λi x h=>by simp at h⟩
 |succ n ih=>
  obtain⟨xs,hl,hx⟩:=ih λi hi=>h i (by omega);obtain⟨y,hy⟩:=h n (by omega);refine⟨xs++[y],by simp[hl],λi x hi=> ?_⟩;by_cases hlt:i<n
  ·rw[List.getElem?_append_left (by omega)] at hi;exact hx i x hi
  ·have hlen:=(List.getElem?_eq_some_iff.1 hi).1;simp only[length_append,List.length_singleton] at hlen;have:i=n:=by omega
   subst this;rw[List.getElem?_append_right (by omega)] at hi;simp[hl] at hi;exact hi ▸ hy
theorem afW {α:Type} (f:α->List Value) (n:Nat):∀(xs:List α) (cs:List Value),cs.length=xs.length * n->(∀i x,xs[i]? =some x->(cs.drop (i * n)).take n=f x)->cs=xs.flatMap f:=by
 intro xs
 induction xs with
 |nil=>intro cs hl _;simpa using hl
 |cons x xs ih=>
  intro cs hl h;have h0:=h 0 x rfl;simp at h0;have:=ih (cs.drop n) (by simp[hl,add_mul]) λi y hi=>by
   have:=h (i+1) y (by simpa using hi)
   rwa [add_mul,Nat.one_mul,Nat.add_comm,<- List.drop_drop] at this
  rw[flatMap_cons,<- h0,<- this,List.take_append_drop]
section
variable {H:Type} {enc:TypeId×Value->H} {P:Program} {w:θ} {base:Nat} {sp:Nat->Bool} {held:Bool}
theorem beq_iff {a b:Nat}:Nat.beq a b=true↔a=b:=⟨Nat.eq_of_beq_eq_true,λh=>by subst h;simp⟩
theorem jV.open (d:jV):(∀(t:TypeId),d.ok P (.inl t)=true->∀(fuel:Nat) (cs:List Value) (x:DataW H×List MemPlace),DataW.trod enc P w base sp held fuel t cs=some x->∃v:d.T,cs=d.cells v/\d.In w v)/\
  (∀(o m:Nat) (fs:List Field),d.ok P (.inr (o,m,fs))=true->∀(fuel:Nat) (cs:List Value),cs.length=m->(∀f∈fs,∃x,DataW.trod enc P w base sp held fuel f.type ((cs.drop f.offset).take (P.cellsOf f.type))=some x)->∃v:d.T,cs.drop o=d.cells v/\d.In w v):=by
 induction d with
 |bool=>
  refine⟨λt ht fuel cs x h=> ?_,λo m fs h=>by simp[jV.ok] at h⟩;simp only[jV.ok] at ht;split at ht
  ·rename_i hu;obtain⟨b,rfl,_⟩:=DataW.trod_bool hu h;exact⟨b,rfl,trivial⟩
  ·cases ht
 |int k=>
  refine⟨λt ht fuel cs x h=> ?_,λo m fs h=>by simp[jV.ok] at h⟩;simp only[jV.ok] at ht;split at ht
  ·rename_i k' hu;have:=of_decide_eq_true ht;subst this;obtain⟨n,rfl,_,hw⟩:=DataW.trod_int hu h;exact⟨n,rfl,hw⟩
  ·cases ht
 |str=>
  refine⟨λt ht fuel cs x h=> ?_,λo m fs h=>by simp[jV.ok] at h⟩;simp only[jV.ok] at ht;split at ht
  ·rename_i hu;obtain⟨b,rfl,_,hw⟩:=DataW.trod_string hu h;exact⟨b,rfl,hw⟩
  ·cases ht
 |slice e n ih=>
  refine⟨λt ht fuel cs x h=> ?_,λo m fs h=>by simp[jV.ok] at h⟩;simp only[jV.ok] at ht;split at ht
  case h_2=>cases ht
  rename_i e' hu;simp only[and_eq_true,beq_iff,blt_eq] at ht;obtain⟨⟨hn,U⟩,he⟩:=ht;rcases Go.Deep.open_slice hu h with ⟨rfl,rfl⟩|⟨a,len,cap,m,g,D,Pl,rfl,hb,hl,hm,aa,rfl,hx⟩
  ·exact⟨(⟨none,0,0⟩,[]),rfl,⟨rfl,Nat.le_refl _,by simp[maxLen],λh=>absurd rfl h⟩,λy hy=>by simp at hy⟩
  ·have hlm:len<=m:=by rw[aa];split<;>omega
   obtain⟨xs,R,N⟩:=V3 (n:=len) (p:=λi (v:e.T)=>(e.cells v).length=n/\(∀j,j<n->w.cell? (a.add (i * n+j))=(e.cells v)[j]?)/\e.In w v) λi hi=>by
    obtain⟨cs',h1,h2⟩:=hx i (by omega);obtain⟨_,hlen,I⟩:=World.cells?_some h1;obtain⟨v,rfl,hv⟩:=ih.1 e' he _ _ _ h2;rw[hn] at hlen I;exact⟨v,hlen,λj hj=>by rw[<- Go.Deep.add_add];exact I j hj,hv⟩
   refine⟨(⟨some a,len,cap⟩,xs),rfl,⟨by simp[R],hl,hm,λac=> ?_⟩,λy hy=> ?_⟩
   ·obtain⟨b,o,spot⟩:=a;have hx0:∃x0,xs[0]? =some x0:=by cases xs with
     |nil=>exact absurd rfl ac
     |cons x _=>exact⟨x,rfl⟩
    obtain⟨x0,hx0⟩:=hx0;obtain⟨l0,c0,_⟩:=N 0 x0 hx0;have J:=c0 0 U;rw[List.getElem?_eq_getElem (by omega)] at J;have hs:=World.cell?_spot J;have O:spot=none:=by simpa [Addr.add] using hs
    subst O;refine⟨b,o,rfl,?_,λi x hi=>⟨(N i x hi).1,λj v hj=> ?_⟩⟩
    ·simp only[Nat.zero_mul,Nat.zero_add] at J;rw[gy] at J;unfold World.cell? at J
     cases hb:w.heap[b]? with
     |none=>simp[hb] at J
     |some o=>exact(Array.getElem?_eq_some_iff.1 hb).1
    ·have:=(N i x hi).2.1 j (by rw[<- (N i x hi).1];exact(List.getElem?_eq_some_iff.1 hj).1);rw[gy,hj] at this;rw[Nat.add_assoc];exact this
   ·obtain⟨i,hi⟩:=List.getElem?_of_mem hy;exact(N i y hi).2.2
 |agg r ih=>
  refine⟨λt ht fuel cs x h=> ?_,λo m fs h=>by simp[jV.ok] at h⟩;simp only[jV.ok] at ht;split at ht
  case h_2=>cases ht
  rename_i fs hu;obtain⟨xs,n,rfl,_,hl,R,hf⟩:=DataW.trod_struct hu h;obtain⟨v,hv,hi⟩:=ih.2 0 _ _ ht n cs hl λf hf'=>by
   obtain⟨i,hi⟩:=List.getElem?_of_mem hf';have hi':fs[i]? =some f:=by simpa using hi
   have:=hf i f hi';have af:i<xs.length:=by
    rw[R];exact(Array.getElem?_eq_some_iff.1 hi').1
   rw[List.getElem?_eq_getElem af] at this;exact⟨_,this⟩
  exact⟨v,hv,hi⟩
 |nil=>
  refine⟨λt h=>by simp[jV.ok] at h,λo m fs h fuel cs hl hf=> ?_⟩
  cases fs with
  |nil=>
   simp only[jV.ok,beq_iff] at h;subst h;exact⟨(),by simp[jV.cells,hl],trivial⟩
  |cons f fs=>simp[jV.ok] at h
 |cons d n r ihd ihr=>
  refine⟨λt h=>by simp[jV.ok] at h,λo m fs h fuel cs hl hf=> ?_⟩
  cases fs with
  |nil=>simp[jV.ok] at h
  |cons f fs=>
   simp only[jV.ok,and_eq_true,beq_iff] at h;obtain⟨⟨⟨h1,h2⟩,h3⟩,h4⟩:=h;obtain⟨x,hx⟩:=hf f (List.mem_cons_self ..);obtain⟨v,hv,ag⟩:=ihd.1 _ h3 _ _ _ hx;obtain⟨u,hu,ah⟩:=ihr.2 _ _ _ h4 fuel cs hl λg hg=>hf g (List.mem_cons_of_mem _ hg);refine⟨(v,u),?_,ag,ah⟩;rw[h1,h2] at hv;show cs.drop o=d.cells v++r.cells u;rw[<- hv,<- hu,<- List.drop_drop,List.take_append_drop]
 |arr k d n ih=>
  refine⟨λt ht fuel cs x h=> ?_,λo m fs h=>by simp[jV.ok] at h⟩;simp only[jV.ok] at ht;split at ht
  case h_2=>cases ht
  rename_i k' e' hu;simp only[and_eq_true,beq_iff] at ht;obtain⟨⟨⟨hk,hn⟩,hc⟩,he⟩:=ht;obtain⟨xs,g,rfl,_,hl,R,hf⟩:=DataW.trod_array hu h;obtain⟨vs,Y,Z⟩:=V3 (n:=k) (p:=λi (v:d.T)=>(cs.drop (i * n)).take n=d.cells v/\d.In w v) λi hi=>by
   have:=hf i (by omega);rw[List.getElem?_eq_getElem (by omega)] at this;rw[hn] at this;exact ih.1 _ he _ _ _ this
  refine⟨vs,?_,Y,λy hy=> ?_⟩
  ·exact afW d.cells n vs cs (by rw[hl,hc,Y]) λi x hi=>(Z i x hi).1
  ·obtain⟨i,hi⟩:=List.getElem?_of_mem hy;exact(Z i y hi).2
def jV.value:(d:jV)->d.T->Value
 | .bool,b=> .bool b
 | .int k,n=> .int k n
 | .str,s=> .string s
 | .slice _ _,x=> .slice x.1.a x.1.len x.1.cap
 | .agg r,x=> .agg ⟨r.cells x⟩
 | .nil,_=> .agg #[]
 | .cons d n r,x=> .agg ⟨(jV.cons d n r).cells x⟩
 | .arr k d n,xs=> .agg ⟨(jV.arr k d n).cells xs⟩
theorem jV.arg (d:jV) {base0:Nat} {t:TypeId} {v:Value} {y:DataW H} {ps:List MemPlace} (ht:d.ok P (.inl t)=true) (u:Value.okWide P w .any base0 t v) (h:DataW.Trod enc P w base sp held t v y ps):∃x:d.T,v=d.value x/\d.In w x:=by
 obtain⟨fuel,h⟩:=h;obtain⟨x,hc,hi⟩:=d.open.1 t ht fuel _ _ h
 refine⟨x,?_,hi⟩;unfold Value.okWide at u
 cases d with
 |bool=>
  simp only[jV.ok] at ht;split at ht
  ·rename_i hu;simp only[hu,Cell.okWide] at u
   cases v<;>simp_all [Cell.ok,Value.cells,jV.cells,jV.value]
  ·cases ht
 |int k=>
  simp only[jV.ok] at ht;split at ht
  ·rename_i k' hu;simp only[hu,Cell.okWide] at u
   cases v<;>simp_all [Cell.ok,Value.cells,jV.cells,jV.value]
  ·cases ht
 |str=>
  simp only[jV.ok] at ht;split at ht
  ·rename_i hu;simp only[hu,Cell.okWide] at u
   cases v<;>simp_all [Cell.ok,Value.cells,jV.cells,jV.value]
  ·cases ht
 |slice e n=>
  simp only[jV.ok] at ht;split at ht
  ·rename_i k' hu;simp only[hu,Cell.okWide] at u
   cases v<;>simp_all [Cell.ok,Value.cells,jV.cells,jV.value]
  ·cases ht
 |agg r=>
  simp only[jV.ok] at ht;split at ht
  ·rename_i fs hu;simp only[hu] at u;obtain⟨cs,rfl,_⟩:=u;show Value.agg cs=Value.agg ⟨r.cells x⟩;rw[<- show cs.toList=r.cells x from hc]
  ·cases ht
 |arr k e n=>
  simp only[jV.ok] at ht;split at ht
  ·rename_i k' e' hu;simp only[hu] at u;obtain⟨cs,rfl,_⟩:=u;show Value.agg cs=Value.agg ⟨(jV.arr k e n).cells x⟩;rw[<- show cs.toList=(jV.arr k e n).cells x from hc]
  ·cases ht
 |nil=>simp[jV.ok] at ht
 |cons d n r=>simp[jV.ok] at ht
end
theorem adM {W w':θ} (h:∀S,gW W w' S):Go.RowKit.Below W.heap.size W w':=
 ⟨(h λ_=>False).io.1,(h λ_=>False).io.2.1,(h λ_=>False).io.2.2,(h λ_=>False).size,λk hk=>(h λ_=>False).same k hk (by simp)⟩
end Gp
end
section
namespace Gp
open Go
def Buf (w:θ) (s:fU) (vs:List Value):Prop:=
 s.len=vs.length/\((s.a=none/\vs=[]/\s.cap=0)\/∃b pad,s.a=some ⟨b,0,none⟩/\s.cap=vs.length+pad.length/\Row w b (vs++pad))
def fU.at (s:fU) (b:Nat):Prop:=∃o,s.a=some ⟨b,o,none⟩
theorem Buf.cells {w:θ} {s:fU} {vs:List Value} (h:Buf w s vs):mF w s.a s.len vs:=by
 obtain⟨hl,⟨ha,rfl,_⟩|⟨b,pad,ha,_,hr⟩⟩:=h
 ·rw[ha];rfl
 ·rw[ha];refine⟨hl.symm,λj hj=> ?_⟩;rw[gy,hr.cell,Nat.zero_add,List.getElem?_append_left hj]
theorem Buf.fr {w w':θ} {s:fU} {vs:List Value} {S:Nat->Prop} (h:Buf w s vs) (hf:gW w w' S) (hs:∀b,fU.at s b->¬S b):Buf w' s vs:=by
 obtain⟨hl,⟨ha,h1,h2⟩|⟨b,pad,ha,hc,hr⟩⟩:=h
 ·exact⟨hl,.inl ⟨ha,h1,h2⟩⟩
 ·exact⟨hl,.inr ⟨b,pad,ha,hc,hr.fr hf (hs b ⟨0,ha⟩)⟩⟩
theorem zl {b:Nat}:∀(vs:List Value) (w:θ) (l:List Value) (o i:Nat),Row w b l->o+i+vs.length<=l.length->
  Row (setCells w ⟨b,o,none⟩ vs i) b (l.take (o+i)++vs++l.drop (o+i+vs.length))/\∀S:Nat->Prop,S b->gW w (setCells w ⟨b,o,none⟩ vs i) S:=by
 intro vs
 induction vs with
 |nil=>intro w l o i hr _;exact⟨by simpa [setCells] using hr,λS _=>gW.refl _ _⟩
 |cons v vs ih=>
  intro w l o i hr hl;simp only[List.length_cons] at hl;have r1:=hr.set (o+i) v;obtain⟨r2,f2⟩:=ih (w.setCell ⟨b,o+i,none⟩ v) _ o (i+1) r1 (by rw[List.length_set];omega);have e1:(l.set (o+i) v).take (o+(i+1))=l.take (o+i)++[v]:=by
   rw[<- Nat.add_assoc,List.take_succ_eq_append_getElem (by simp;omega),List.take_set_of_le (by omega)];simp
  have e2:(l.set (o+i) v).drop (o+(i+1)+vs.length)=l.drop (o+i+(vs.length+1)):=by
   rw[List.drop_set_of_lt (by omega)];congr 1;omega
  rw[e1,e2] at r2;show Row (setCells (w.setCell ((⟨b,o,none⟩:Addr).add i) v) ⟨b,o,none⟩ vs (i+1)) b _/\∀S:Nat->Prop,S b->gW w (setCells (w.setCell ((⟨b,o,none⟩:Addr).add i) v) ⟨b,o,none⟩ vs (i+1)) S;rw[gy];exact⟨by simpa using r2,λS hs=>(gW.set w ⟨b,o+i,none⟩ v hs).trans (f2 S hs) λ_ _ e=>e⟩
theorem abI {e:TypeId} {z:Value} {s:fU} {vs xs:List Value} {w:θ} {K:fU->b_} (h:Buf w s vs) (h1:∀v∈xs,iL v=true) (hl:vs.length+xs.length<=2^46)
  (hK:∀s' w',Buf w' s' (vs++xs)->(gW w w' (fU.at s))->(∀b,fU.at s' b->fU.at s b\/w.heap.size<=b)->(s'.a=none->vs++xs=[]/\s.a=none)->K s' w'):Vl e 1 1 [z] s xs.length xs w K:=by
 obtain⟨hlen,hc⟩:=id h;by_cases u:s.len+xs.length<=s.cap
 ·rcases hc with ⟨ha,rfl,hc⟩|⟨b,pad,ha,hc,hr⟩
  ·simp at hlen;have:xs=[]:=by cases xs with
    |nil=>rfl
    |cons _ _=>simp at u;omega
   subst this;refine .inl ⟨u,λa ha'=>(by rw[ha] at ha';cases ha'),h1,?_⟩;rw[ha];exact hK _ _ ⟨by simp[hlen],.inl ⟨rfl,rfl,hc⟩⟩ (gW.refl _ _) (λb ⟨o,hb⟩=>by cases hb) λ_=>⟨rfl,ha⟩
  ·obtain⟨r2,f2⟩:=zl xs w (vs++pad) s.len 0 hr (by simp;omega);refine .inl ⟨u,λa ha'=> ?_,h1,?_⟩
   ·rw[ha] at ha';cases ha';intro j hj;rw[gy,gy,hr.cell,hr.frozen];simp;omega
   ·rw[ha];simp only[gy,Nat.zero_add,Nat.mul_one];have e1:(vs++pad).take (s.len+0)=vs:=by rw[Nat.add_zero,hlen];simp
    have e2:((vs++pad).drop (s.len+0+xs.length)).length+xs.length=pad.length:=by simp;omega
    rw[e1] at r2;exact hK _ _ ⟨by simp[hlen],.inr ⟨b,_,rfl,by simp only[length_append];omega,r2⟩⟩ (f2 _ ⟨0,ha⟩) (λc ⟨o,hc'⟩=> .inl (by cases hc';exact⟨0,ha⟩)) (λhx=>by cases hx)
 ·refine .inr ⟨by omega,by omega,by omega,vs,?_,λc h1' h2'=> ?_⟩
  ·rw[Nat.mul_one];exact h.cells
  ·refine hK _ _ ⟨by simp[hlen],.inr ⟨w.heap.size,gZ [z] (c - (s.len+xs.length)),rfl,?_,by simpa using Row.new w.drew _ e⟩⟩ ((gW.drew w _).trans (gW.alloc w.drew _ _) λ_ _ e=>e) (λb ⟨o,hb⟩=> .inr (by cases hb;exact Nat.le_refl _)) (λhx=>by cases hx);have:∀n,(gZ [z] n).length=n:=λn=>by
    induction n with
    |zero=>rfl
    |succ n ih=>simp[gZ,ih]
   rw[this];simp only[length_append];omega
abbrev Ext (w w':θ):Prop:=∀S:Nat->Prop,gW w w' S
theorem Ext.refl (w:θ):Ext w w:=λS=>gW.refl w S
theorem Ext.trans {w w1 w2:θ} (h:Ext w w1) (h':Ext w1 w2):Ext w w2:=λS=>(h S).trans (h' S) λ_ _ e=>e
theorem Ext.drew (w:θ):Ext w w.drew:=λS=>gW.drew w S
theorem Ext.fr {w w1 w2:θ} {S:Nat->Prop} (h:Ext w w1) (h':gW w1 w2 S):gW w w2 S:=(h S).trans h' λ_ _ e=>e
theorem gW.ext {w w1 w2:θ} {S:Nat->Prop} (h:gW w w1 S) (h':Ext w1 w2):gW w w2 S:=h.trans (h' S) λ_ _ e=>e
theorem gW.new {w w':θ} {S:Nat->Prop} (h:gW w w' S) (hs:∀b,b<w.heap.size->¬S b):Ext w w':=λ_=>⟨h.size,λb hb _=>h.same b hb (hs b hb),h.io⟩
theorem Ext.new {w w1 w2:θ} {S:Nat->Prop} (h:Ext w w1) (h':gW w1 w2 S) (hs:∀b,b<w.heap.size->¬S b):Ext w w2:=(h.fr h').new hs
theorem Ext.size {w w':θ} (h:Ext w w'):w.heap.size<=w'.heap.size:=(h λ_=>False).size
theorem Row.ext {w w':θ} {b:Nat} {l:List Value} (h:Row w b l) (hf:Ext w w'):Row w' b l:=h.fr (hf λ_=>False) (by simp)
theorem Buf.ext {w w':θ} {s:fU} {vs:List Value} (h:Buf w s vs) (hf:Ext w w'):Buf w' s vs:=h.fr (hf λ_=>False) (λ_ _=>by simp)
theorem gW.qV (w:θ) (b:Nat) (o:Obj):gW w (w.putObj b o) (·=b):=
 ⟨by simp[World.putObj],λc _ hn=>by simp[World.putObj,Array.getElem?_setIfInBounds];intro e;exact absurd e.symm hn,rfl,rfl,rfl⟩
theorem gq {w:θ} {T:TypeId} {l:List Value} {K:Addr->b_} (h:∀b w1,Row w1 b l->b=w.heap.size->w1.heap.size=b+1->Ext w w1->K ⟨b,0,none⟩ w1):Al w (.cells ⟨l⟩ T) K:=uo h
theorem gY {w:θ} {b:Nat} {l:List Value} {vs:List Value} {K:b_} (hr:Row w b l) (hv:vs.all iL=true) (hl:vs.length=l.length)
  (h:∀w1,Row w1 b vs->(∀S:Nat->Prop,S b->gW w w1 S)->w1.heap.size=w.heap.size->K w1):iw vs w ⟨b,0,none⟩ 0 K:=by
 refine Qr vs w l 0 0 hr (λv h=>List.all_eq_true.1 hv v h) (by omega) λw1 r1 f1 z1=>h w1 ?_ f1 z1;have:List.drop vs.length l=[]:=by rw[hl];simp
 simpa [this] using r1
theorem StN_f {w:θ} {b:Nat} {l:List Value} {vs:List Value} {K:b_} (hr:Row w b l) (h:∀w1,Row w1 b vs->gW w w1 (·=b)->w1.heap.size=w.heap.size->K w1) (hv:vs.all iL=true:=by rfl) (hl:vs.length=l.length:=by rfl):iw vs w ⟨b,0,none⟩ 0 K:=
 gY hr hv hl λw1 h1 h2 h3=>h w1 h1 (h2 _ rfl) h3
theorem Ld_i {w:θ} {b:Nat} {l:List Value} {K:Int->Prop} (i:Nat) (x:Int) (hr:Row w b l) (h:K x) (hv:l[i]? =some (.int .i64 x):=by rfl):Ld ν w ⟨b,i,none⟩ K:=yw (k:= .int .i64) hr hv h
theorem Ld_s {w:θ} {b:Nat} {l:List Value} {K:fU->Prop} (i:Nat) (x:fU) (hr:Row w b l) (h:K x) (hv:l[i]? =some (.slice x.a x.len x.cap):=by rfl):Ld .slice w ⟨b,i,none⟩ K:=yw (k:= .slice) hr hv h
theorem Ld_b {w:θ} {b:Nat} {l:List Value} {K:Bool->Prop} (i:Nat) (x:Bool) (hr:Row w b l) (h:K x) (hv:l[i]? =some (.bool x):=by rfl):Ld .bool w ⟨b,i,none⟩ K:=yw (k:= .bool) hr hv h
theorem Ext.nw {w w1 w2:θ} {b:Nat} (h:Ext w w1) (h':gW w1 w2 (·=b)) (hs:w.heap.size<=b:=by omega):Ext w w2:=h.new h' λy hy e=>by subst e;omega
theorem aaW (w:θ) (a:Addr) (i:Nat) (K:b_):iw [] w a i K=K w:=rfl
theorem DX {w:θ} {T:TypeId} {z vs:List Value} {K:Addr->b_} (hv:vs.all iL=true) (hl:vs.length=z.length)
  (h:∀b w1,Row w1 b vs->b=w.heap.size->w1.heap.size=b+1->Ext w w1->K ⟨b,0,none⟩ w1):Al w (.cells ⟨z⟩ T) λa w1=>iw vs w1 a 0 λw2=>K a w2:=by
 refine gq λb w1 r1 e1 z1 f1=>gY r1 hv hl λw2 r2 f2 z2=>h b w2 r2 e1 (by omega) (f1.new (f2 (·=b) rfl) λx hx e=>by omega)
theorem block_add (a:Addr) (j:Nat):(a.add j).block=a.block:=by unfold Addr.add;split<;>rfl
theorem cell_lt {w:θ} {a:Addr} {v:Value} (h:w.cell? a=some v):a.block<w.heap.size:=by
 unfold World.cell? at h
 cases hh:w.heap[a.block]? with
 |none=>simp[hh] at h
 |some o=>exact(Array.getElem?_eq_some_iff.1 hh).1
theorem LQ {w w':θ} {a:Addr} {v:Value} {S:Nat->Prop} (h:w.cell? a=some v) (hf:gW w w' S) (hs:¬S a.block):w'.cell? a=some v:=by
 have:=hf.same a.block (cell_lt h) hs;rw[<- h];simp only[World.cell?,this]
theorem mJ {w w':θ} {a:Addr} {v:Value} (h:w.cell? a=some v) (hf:Ext w w'):w'.cell? a=some v:=LQ h (hf λ_=>False) (by simp)
theorem gW.iQ (W:θ) (l:Nat) (st:LoopState) (p:Option Code):gW W (Gp.iQ W l st p) (·=l):=
 ⟨by simp[Gp.iQ],λb _ hn=>by simp[Gp.iQ,getElem?_modify];omega,rfl,rfl,rfl⟩
theorem gW.gG (W:θ) (l:Nat):gW W (Gp.gG W l) (·=l):=
 ⟨by simp[Gp.gG],λb _ hn=>by simp[Gp.gG,getElem?_modify];omega,rfl,rfl,rfl⟩
def Qq (P:Program) (ks:List Shape) (v:Value) (C:Nat->b_) (xs:List (yu ks)):Prop:=
 match v with
 | .func (.func f) first cap=>ni P f=true/\∀(l:Nat) (Q:Nat->b_) (D:b_),
   (∀i W,Q i W->C i W)->(∀i W W',Q i W->Ext W W'->Q i W')->(∀W W',D W->Ext W W'->D W')->
   (∀i x W (K:Bool->b_),xs[i]? =some x->Q i W->(∀W',Q (i+1) W'->K true W')->(∀W',D W'->K false W')->JW P l (encR ks x) W K)->
   ∀w,Q 0 w->FV P [] f (first.toList++(Value.func (.yield l) #[] #[]::cap.toList)) w λ_ w'=>Q xs.length w'\/D w'
 |_=>False
abbrev oP (P:Program) (ks:List Shape) (v:Value) (C:b_) (xs:List (yu ks)):Prop:=Qq P ks v (λ_=>C) xs
theorem kR {P:Program} {l:Nat} {sh:List Shape} {args:List Value} {w:θ} {K:Value->b_} (h:JW P l args w λb w'=>K (.bool b) w'):jy P sh (.func (.yield l) #[] #[]) args w K:=h
def lC (r:Option Nat) (w:θ):Nat:=if r.isNone then w.heap.size+1 else w.heap.size
def Mark (r:Option Nat) (w W:θ):Prop:=r=none->W.heap[w.heap.size]? =some (.deferred (some []))
theorem wz {P:Program} {r:Option Nat} {ks:List Shape} {v:Value} {C:Nat->b_} {xs:List (yu ks)} {w:θ} {body:Nat->yu ks->θ->(Exit->b_)->Prop} {Kn Kr:b_} {Kx:List (Nat×(b_))}
  (hv:Qq P ks v C xs) (I:Nat->b_) (J:Exit->b_) (hr:∀l₀,r=some l₀->∃lp,w.heap[l₀]? =some (.loop lp))
  (h0:∀w1,Ext w w1->w1.heap.size=lC r w+1->I 0 w1)
  (hC:∀i W,I i W->C i W)
  (stI:∀i W W',I i W->gW W W' (·=lC r w)->I i W')
  (stJ:∀e W W',J e W->gW W W' (·=lC r w)->J e W')
  (jmp:∀e W,J e W->e= .ret\/∃id,e= .exit id)
  (step:∀i x W Kb,xs[i]? =some x->I i W->lC r w<W.heap.size->(∀W' S,gW (gG W (lC r w)) W' S->(∀b,w.heap.size<=b->b<=lC r w->¬S b)->I (i+1) W'->Kb .normal W')->
   (∀e W' S,gW (gG W (lC r w)) W' S->(∀b,w.heap.size<=b->b<=lC r w->¬S b)->J e W'->Kb e W')->body (lC r w) x W Kb)
  (fn:∀W,I xs.length W->Mark r w W->Kn W) (fr:∀W,J .ret W->Mark r w W->Kr W) (fx:∀id W,J (.exit id) W->Mark r w W->RD id Kx W):
  yI P r ks v w body Kn Kr Kx:=by
 unfold yI;refine⟨hr,?_⟩;unfold Qq at hv;split at hv
 ·rename_i f first cap
  obtain⟨hb,hv⟩:=hv;refine⟨hb,λl L w1 ctx=> ?_⟩;have hl:l=lC r w:=ctx.at_;subst hl;have N:w.heap.size<=lC r w:=by unfold lC;split<;>omega
  have mext:∀W W',Mark r w W->lC r w<W.heap.size->Ext W W'->Mark r w W':=λW W' hm R he hn=>by
   rw[(he λ_=>False).same _ (by omega) (by simp)];exact hm hn
  have mset:∀W st p,Mark r w W->Mark r w (iQ W (lC r w) st p):=λW st p hm hn=>by
   have:¬(lC r w=w.heap.size):=by unfold lC;rw[hn];simp
   rw[show (iQ W (lC r w) st p).heap[w.heap.size]? =W.heap[w.heap.size]? by simp[iQ,getElem?_modify,this]];exact hm hn
  have mbody:∀W W' S,Mark r w W->lC r w<W.heap.size->gW (gG W (lC r w)) W' S->(∀b,w.heap.size<=b->b<=lC r w->¬S b)->Mark r w W':=λW W' S hm R hf hs hn=>by
   have:¬(lC r w=w.heap.size):=by unfold lC;rw[hn];simp
   rw[hf.same _ (by simp[gG];omega) (hs _ (Nat.le_refl _) N)];rw[show (gG W (lC r w)).heap[w.heap.size]? =W.heap[w.heap.size]? by simp[gG,getElem?_modify,this]];exact hm hn
  have llt:∀st p W,L st p W->lC r w<W.heap.size:=λst p W hL=>by
   obtain⟨lp,h⟩:=ctx.isLoop st p W hL;exact(Array.getElem?_eq_some_iff.1 h).1
  have lext:∀st p W W',L st p W->Ext W W'->L st p W':=λst p W W' hL he=>
   ctx.frame st p W W' hL ((he λ_=>False).same _ (llt st p W hL) (by simp))
  refine Calls.mono (hv (lC r w) (λi W=>I i W/\L .ready none W/\Mark r w W) (λW=>∃e p,J e W/\Aq e=some p/\p≠none/\L .done p W/\Mark r w W)
   (λi W h=>hC i W h.1) (λi W W' h he=>⟨stI i W W' h.1 (he _),lext _ _ _ _ h.2.1 he,mext _ _ h.2.2 (llt _ _ _ h.2.1) he⟩)
   (λW W' ⟨e,p,h1,h2,h3,h4,h5⟩ he=>⟨e,p,stJ e W W' h1 (he _),h2,h3,lext _ _ _ _ h4 he,mext _ _ h5 (llt _ _ _ h4) he⟩) ?_ w1 ?_) ?_
  ·intro i x W K hx ⟨hI,hL,hm⟩ ht hf;refine ctx.yield x W none K hL (step i x W _ hx hI (llt _ _ _ hL) ?_ ?_)
   ·intro W' S u hs hI';have hL':L .busy none W':=ctx.frame _ _ _ _ (ctx.busy _ _ hL) (u.same _ (by simpa [gG] using llt _ _ _ hL) (hs _ N (Nat.le_refl _)));exact⟨hL',none,rfl,ht _ ⟨stI _ _ _ hI' (gW.iQ _ _ _ _),ctx.set _ _ _ _ _ hL',mset _ _ _ (mbody W W' S hm (llt _ _ _ hL) u hs)⟩⟩
   ·intro e W' S u hs hJ;have hL':L .busy none W':=ctx.frame _ _ _ _ (ctx.busy _ _ hL) (u.same _ (by simpa [gG] using llt _ _ _ hL) (hs _ N (Nat.le_refl _)));have O:=mset W' .done;rcases jmp _ _ hJ with rfl|⟨id,rfl⟩
    ·exact⟨hL',some .ret,rfl,hf _ ⟨.ret,some .ret,stJ _ _ _ hJ (gW.iQ _ _ _ _),rfl,by simp,ctx.set _ _ _ _ _ hL',O _ (mbody W W' S hm (llt _ _ _ hL) u hs)⟩⟩
    ·exact⟨hL',some (.exit id),rfl,hf _ ⟨.exit id,some (.exit id),stJ _ _ _ hJ (gW.iQ _ _ _ _),rfl,by simp,ctx.set _ _ _ _ _ hL',O _ (mbody W W' S hm (llt _ _ _ hL) u hs)⟩⟩
  ·exact⟨h0 w1 (λS=>⟨by have:=ctx.size;omega,λb hb _=>ctx.old b hb,ctx.io⟩) ctx.size,ctx.ready,ctx.marks⟩
  ·rintro e w2 ⟨he,h⟩;refine⟨he,?_⟩;rcases h with ⟨hI,hL,hm⟩|⟨e',p,hJ,hj,hp,hL,hm⟩
   ·exact⟨.ready,none,hL,by simp,fn _ (stI _ _ _ hI (gW.iQ _ _ _ _)) (mset _ _ _ hm)⟩
   ·refine⟨.done,p,hL,by simp,?_⟩;have hJ':=stJ _ _ _ hJ (gW.iQ w2 (lC r w) .exhausted p);have hm':=mset w2 .exhausted p hm;rcases jmp _ _ hJ with rfl|⟨id,rfl⟩
    ·simp only[Aq,Option.some.injEq] at hj;subst hj;exact fr _ hJ' hm'
    ·simp only[Aq,Option.some.injEq] at hj;subst hj;exact fx _ _ hJ' hm'
 ·exact hv.elim
def Qp (P:Program) (ks:List Shape) (v:Value) (C:b_) (xs:List (yu ks)):Prop:=
 match v with
 | .func (.func f) first cap=>ni P f=true/\∀(l:Nat) (w:θ) (Q:Nat->b_) (D:b_),
   (∀i W,Q i W->C W)->(∀i W W',Q i W->gW W W' (w.heap.size<=·)->Q i W')->(∀W W',D W->gW W W' (w.heap.size<=·)->D W')->
   (∀i x W (K:Bool->b_),xs[i]? =some x->Q i W->(∀W',Q (i+1) W'->gW W W' (·<w.heap.size)->K true W')->(∀W',D W'->gW W W' (·<w.heap.size)->K false W')->JW P l (encR ks x) W K)->
   Q 0 w->FV P [] f (first.toList++(Value.func (.yield l) #[] #[]::cap.toList)) w λ_ w'=>Q xs.length w'\/D w'
 |_=>False
theorem acX {P:Program} {r:Option Nat} {ks:List Shape} {v:Value} {C:b_} {xs:List (yu ks)} {w:θ} {body:Nat->yu ks->θ->(Exit->b_)->Prop} {Kn Kr:b_} {Kx:List (Nat×(b_))}
  (hv:Qp P ks v C xs) (I:Nat->b_) (J:Exit->b_) (hr:∀l₀,r=some l₀->∃lp,w.heap[l₀]? =some (.loop lp))
  (h0:∀w1,Ext w w1->w1.heap.size=lC r w+1->I 0 w1)
  (hC:∀i W,I i W->C W)
  (stI:∀i W W',I i W->gW W W' (lC r w<=·)->I i W')
  (stJ:∀e W W',J e W->gW W W' (lC r w<=·)->J e W')
  (jmp:∀e W,J e W->e= .ret\/∃id,e= .exit id)
  (step:∀i x W Kb,xs[i]? =some x->I i W->lC r w<W.heap.size->(∀W' S,gW (gG W (lC r w)) W' S->(∀b,S b->b<w.heap.size)->I (i+1) W'->Kb .normal W')->
   (∀e W' S,gW (gG W (lC r w)) W' S->(∀b,S b->b<w.heap.size)->J e W'->Kb e W')->body (lC r w) x W Kb)
  (fn:∀W,I xs.length W->Mark r w W->Kn W) (fr:∀W,J .ret W->Mark r w W->Kr W) (fx:∀id W,J (.exit id) W->Mark r w W->RD id Kx W):
  yI P r ks v w body Kn Kr Kx:=by
 unfold yI;refine⟨hr,?_⟩;unfold Qp at hv;split at hv
 ·rename_i f first cap
  obtain⟨hb,hv⟩:=hv;refine⟨hb,λl L w1 ctx=> ?_⟩;have hl:l=lC r w:=ctx.at_;subst hl;have N:w.heap.size<=lC r w:=by unfold lC;split<;>omega
  have hz0:=ctx.size;have up:∀{W W'},gW W W' (w1.heap.size<=·)->gW W W' (lC r w<=·):=λhe=>he.mono λb h=>by omega
  have ls:∀W st p,gW W (iQ W (lC r w) st p) (lC r w<=·):=λW st p=>(gW.iQ W _ st p).mono λb h=>by omega
  have mext:∀W W',Mark r w W->lC r w<W.heap.size->gW W W' (w1.heap.size<=·)->Mark r w W':=λW W' hm R he hn=>by
   rw[he.same _ (by omega) (by omega)];exact hm hn
  have mset:∀W st p,Mark r w W->Mark r w (iQ W (lC r w) st p):=λW st p hm hn=>by
   have:¬(lC r w=w.heap.size):=by unfold lC;rw[hn];simp
   rw[show (iQ W (lC r w) st p).heap[w.heap.size]? =W.heap[w.heap.size]? by simp[iQ,getElem?_modify,this]];exact hm hn
  have mbody:∀W W' S,Mark r w W->lC r w<W.heap.size->gW (gG W (lC r w)) W' S->(∀b,w.heap.size<=b->b<=lC r w->¬S b)->Mark r w W':=λW W' S hm R hf hs hn=>by
   have:¬(lC r w=w.heap.size):=by unfold lC;rw[hn];simp
   rw[hf.same _ (by simp[gG];omega) (hs _ (Nat.le_refl _) N)];rw[show (gG W (lC r w)).heap[w.heap.size]? =W.heap[w.heap.size]? by simp[gG,getElem?_modify,this]];exact hm hn
  have llt:∀st p W,L st p W->lC r w<W.heap.size:=λst p W hL=>by
   obtain⟨lp,h⟩:=ctx.isLoop st p W hL;exact(Array.getElem?_eq_some_iff.1 h).1
  have lext:∀st p W W',L st p W->gW W W' (w1.heap.size<=·)->L st p W':=λst p W W' hL he=>
   ctx.frame st p W W' hL (he.same _ (llt st p W hL) (by omega))
  refine Calls.mono (hv (lC r w) w1 (λi W=>I i W/\L .ready none W/\Mark r w W) (λW=>∃e p,J e W/\Aq e=some p/\p≠none/\L .done p W/\Mark r w W)
   (λi W h=>hC i W h.1) (λi W W' h he=>⟨stI i W W' h.1 (up he),lext _ _ _ _ h.2.1 he,mext _ _ h.2.2 (llt _ _ _ h.2.1) he⟩)
   (λW W' ⟨e,p,h1,h2,h3,h4,h5⟩ he=>⟨e,p,stJ e W W' h1 (up he),h2,h3,lext _ _ _ _ h4 he,mext _ _ h5 (llt _ _ _ h4) he⟩) ?_ ?_) ?_
  ·intro i x W K hx ⟨hI,hL,hm⟩ ht hf;have hz1:=ctx.size;have frm:∀W' S st p,gW (gG W (lC r w)) W' S->(∀b,S b->b<w.heap.size)->gW W (iQ W' (lC r w) st p) (·<w1.heap.size):=λW' S st p u hS=>
    ((((gW.gG W (lC r w)).mono (S':=(·<w1.heap.size)) λb e=>by subst e;omega).trans (u.mono (S':=(·<w1.heap.size)) λb e=>by have:=hS b e;omega) λ_ _ e=>e).trans ((gW.iQ W' (lC r w) st p).mono (S':=(·<w1.heap.size)) λb e=>by subst e;omega) λ_ _ e=>e)
   refine ctx.yield x W none K hL (step i x W _ hx hI (llt _ _ _ hL) ?_ ?_)
   ·intro W' S u hS hI';have hs:∀b,w.heap.size<=b->b<=lC r w->¬S b:=λb h1 _ h3=>by have:=hS b h3;omega
    have hL':L .busy none W':=ctx.frame _ _ _ _ (ctx.busy _ _ hL) (u.same _ (by simpa [gG] using llt _ _ _ hL) (hs _ N (Nat.le_refl _)));exact⟨hL',none,rfl,ht _ ⟨stI _ _ _ hI' (ls _ _ _),ctx.set _ _ _ _ _ hL',mset _ _ _ (mbody W W' S hm (llt _ _ _ hL) u hs)⟩ (frm W' S _ _ u hS)⟩
   ·intro e W' S u hS hJ;have hs:∀b,w.heap.size<=b->b<=lC r w->¬S b:=λb h1 _ h3=>by have:=hS b h3;omega
    have hL':L .busy none W':=ctx.frame _ _ _ _ (ctx.busy _ _ hL) (u.same _ (by simpa [gG] using llt _ _ _ hL) (hs _ N (Nat.le_refl _)));have O:=mset W' .done;rcases jmp _ _ hJ with rfl|⟨id,rfl⟩
    ·exact⟨hL',some .ret,rfl,hf _ ⟨.ret,some .ret,stJ _ _ _ hJ (ls _ _ _),rfl,by simp,ctx.set _ _ _ _ _ hL',O _ (mbody W W' S hm (llt _ _ _ hL) u hs)⟩ (frm W' S _ _ u hS)⟩
    ·exact⟨hL',some (.exit id),rfl,hf _ ⟨.exit id,some (.exit id),stJ _ _ _ hJ (ls _ _ _),rfl,by simp,ctx.set _ _ _ _ _ hL',O _ (mbody W W' S hm (llt _ _ _ hL) u hs)⟩ (frm W' S _ _ u hS)⟩
  ·exact⟨h0 w1 (λS=>⟨by have:=ctx.size;omega,λb hb _=>ctx.old b hb,ctx.io⟩) ctx.size,ctx.ready,ctx.marks⟩
  ·rintro e w2 ⟨he,h⟩;refine⟨he,?_⟩;rcases h with ⟨hI,hL,hm⟩|⟨e',p,hJ,hj,hp,hL,hm⟩
   ·exact⟨.ready,none,hL,by simp,fn _ (stI _ _ _ hI (ls _ _ _)) (mset _ _ _ hm)⟩
   ·refine⟨.done,p,hL,by simp,?_⟩;have hJ':=stJ _ _ _ hJ (ls w2 .exhausted p);have hm':=mset w2 .exhausted p hm;rcases jmp _ _ hJ with rfl|⟨id,rfl⟩
    ·simp only[Aq,Option.some.injEq] at hj;subst hj;exact fr _ hJ' hm'
    ·simp only[Aq,Option.some.injEq] at hj;subst hj;exact fx _ _ hJ' hm'
 ·exact hv.elim
end Gp
end
