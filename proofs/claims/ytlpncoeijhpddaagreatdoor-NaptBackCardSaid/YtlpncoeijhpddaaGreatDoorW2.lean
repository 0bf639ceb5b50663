import Derived.Test.YtlpncoeijhpddaaGreatDoorW1
import Derived.Scope
import Derived.ProofKit
import Derived.OpenShut
import Derived.ChangeOld
import Derived.Below
import Derived.Deep.Slices
section
namespace Gp
open Go
def writes:Code->List Nat
 | .region _ ops _=>Ox ops.toList
 | .seq a b=>writes a++writes b
 | .cond _ a b=>writes a++writes b
 | .block _ a=>writes a
 | .loop a=>writes a
 | .scope a=>writes a
 |_=>[]
def nZ:Code->Bool
 | .seq a b=>nZ a||nZ b
 | .cond _ a b=>nZ a||nZ b
 | .block _ a=>nZ a
 | .loop a=>nZ a
 | .scope a=>nZ a
 | .rangeFunc _ _ _ _=>true
 |_=>false
@[reducible] def Tz:List (Nat×Kind)->Type
 |[]=>Unit
 |(_,k)::r=>k.T×Tz r
def encS:(st:List (Nat×Kind))->Tz st->Env
 |[],_=>[]
 |(s,k)::r,x=>(s,k.enc x.1)::encS r x.2
def getS:(st:List (Nat×Kind))->Env->(Tz st->Prop)->Prop
 |[],_,φ=>φ ()
 |(s,k)::r,env,φ=>match env.get s with
  |some v=>k.dec v λx=>getS r env λy=>φ (x,y)
  |none=>False
def without (ws:List Nat):Env->Env
 |[]=>[]
 |(s,v)::r=>cond (Hz s ws) (without ws r) ((s,v)::without ws r)
def iQ {S:Type} (body:S->θ->(S->b_)->Prop) (s:S) (w:θ):Prop:=
 ∃I:Nat->S->b_,(∃n,I n s w)/\∀n s w,I n s w->body s w λs' w'=>∃m,m<n/\I m s' w'
@[reducible] def adU:List Kind->Type
 |[]=>Unit
 |k::r=>k.T×adU r
def Y4:(ks:List Kind)->adU ks->List Value
 |[],_=>[]
 |k::r,x=>k.enc x.1::Y4 r x.2
def Um:List Nat->List Value->Env
 |[],_=>[]
 |_::_,[]=>[]
 |s::r,v::vs=>(s,v)::Um r vs
@[reducible] def ShT:Shape->Type
 | .one k=>k.T
 | .agg ks=>adU ks
def afZ:(s:Shape)->ShT s->Value
 | .one k,x=>k.enc x
 | .agg ks,x=> .agg ⟨Y4 ks x⟩
@[reducible] def zZ:List Shape->Type
 |[]=>Unit
 |s::r=>ShT s×zZ r
def encR:(ks:List Shape)->zZ ks->List Value
 |[],_=>[]
 |s::r,x=>afZ s x.1::encR r x.2
inductive JSh where
 |sh (s:Shape)
 |addr
 |ϐ (ks:List Kind)
@[reducible] def JT:JSh->Type
 | .sh s=>ShT s
 | .addr=>Addr
 | .ϐ ks=>adU ks
def adi:(s:JSh)->JT s->Value
 | .sh s,x=>afZ s x
 | .addr,a=> .pointer (some a)
 | .ϐ ks,x=> .tuple ⟨Y4 ks x⟩
def afO:(ks:List Kind)->List Value->(adU ks->Prop)->Prop
 |[],[],φ=>φ ()
 |k::r,v::vs,φ=>k.dec v λx=>afO r vs λy=>φ (x,y)
 |_,_,_=>False
def akN:(s:JSh)->Value->(JT s->Prop)->Prop
 | .sh (.one k),v,φ=>k.dec v φ
 | .sh (.agg ks),.agg cs,φ=>afO ks cs.toList φ
 | .addr,.pointer (some a),φ=>φ a
 | .ϐ ks,.tuple cs,φ=>afO ks cs.toList φ
 |_,_,_=>False
@[reducible] def adT:List (Nat×JSh)->Type
 |[]=>Unit
 |(_,s)::r=>JT s×adT r
def aeg:(st:List (Nat×JSh))->adT st->Env
 |[],_=>[]
 |(t,s)::r,x=>(t,adi s x.1)::aeg r x.2
def agi:(st:List (Nat×JSh))->Env->(adT st->Prop)->Prop
 |[],_,φ=>φ ()
 |(t,s)::r,env,φ=>match env.get t with
  |some v=>akN s v λx=>agi r env λy=>φ (x,y)
  |none=>False
def QL {S:Type} (body:S->Prop) (k:(S->Prop)->Prop):Prop:=k body
theorem QL.of {S:Type} {body:S->Prop} {k:(S->Prop)->Prop} (h:∀J:S->Prop,(∀s,body s->J s)->k J):QL body k:=h body λ_ h=>h
inductive Ann where
 |leaf
 |seq (a b:Ann)
 |join (st:List (Nat×JSh)) (a b:Ann)
 |cond (a b:Ann)
 |blk (a:Ann)
 |loop (st:List (Nat×Kind)) (a:Ann)
 |rng (ks:List Shape) (a b:Ann)
def iZ (w:θ) (l:Nat) (st:LoopState) (p:Option Code):θ:=
 {w with heap:=w.heap.modify l fun| .loop lp=> .loop {lp with state:=st,pending:=p}|o=>o}
def gQ (w:θ) (l:Nat):θ:=
 {w with heap:=w.heap.modify l fun| .loop lp=> .loop {lp with state:= .busy}|o=>o}
def Cb:Exit->Bool
 | .normal=>true
 |_=>false
def Cc:Exit->Option (Option Code)
 | .normal=>some none
 | .ret=>some (some .ret)
 | .exit id=>some (some (.exit id))
 |_=>none
structure ajs (P:Program) (r:Option Nat) (w:θ) (ks:List Shape) (bodyS:Nat->zZ ks->θ->(Exit->b_)->Prop)
  (l:Nat) (L:LoopState->Option Code->b_) (w1:θ):Prop where
 at_:l=if r.isNone then w.heap.size+1 else w.heap.size
 size:w1.heap.size=l+1
 old:∀b,b<w.heap.size->w1.heap[b]? =w.heap[b]?
 io:w1.os=w.os/\w1.tape=w.tape/\w1.output=w.output
 marks:r=none->w1.heap[w.heap.size]? =some (.deferred (some []))
 ready:L .ready none w1
 frame:∀st p W W',L st p W->W'.heap[l]? =W.heap[l]? ->L st p W'
 set:∀st p st' p' W,L st p W->L st' p' (iZ W l st' p')
 busy:∀p W,L .ready p W->L .busy p (gQ W l)
 isLoop:∀st p W,L st p W->∃lp,W.heap[l]? =some (.loop lp)
 yield:∀(x:zZ ks) (W:θ) (p:Option Code) (R:Bool->b_),L .ready p W->
  bodyS l x W (λe W'=>L .busy p W'/\∃j,Cc e=some j/\R (Cb e) (iZ W' l (if Cb e then .ready else .done) j))->ML P l (encR ks x) W R
def AU:Code->List Nat
 | .exit id=>[id]
 | .seq a b=>AU a++AU b
 | .cond _ a b=>AU a++AU b
 | .block _ a=>AU a
 | .loop a=>AU a
 | .scope a=>AU a
 | .rangeFunc _ _ _ b=>AU b
 |_=>[]
def Uw (id:Nat):List (Nat×(b_))->b_
 |[],_=>False
 |(i,K)::r,w=>cond (Nat.beq i id) (K w) (Uw id r w)
def ajd (Kn Kr:b_) (Kx:List (Nat×(b_))) (p:Option Code) (w:θ):Prop:=
 match p with
 |none=>Kn w
 |some .ret=>Kr w
 |some (.exit id)=>Uw id Kx w
 |_=>False
def xO (P:Program) (r:Option Nat) (ks:List Shape) (vf:Value) (w:θ) (bodyS:Nat->zZ ks->θ->(Exit->b_)->Prop)
  (Kn Kr:b_) (Kx:List (Nat×(b_))):Prop:=
 (∀l₀,r=some l₀->∃lp,w.heap[l₀]? =some (.loop lp))/\
 match vf with
 | .func (.func f) first cap=>o9 P f=true/\∀l L w1,ajs P r w ks bodyS l L w1->
   Ii P [] f (first.toList++(Value.func (.yield l) #[] #[]::cap.toList)) w1 λ_ w2=>∃st p,L st p w2/\st≠.busy/\ajd Kn Kr Kx p (iZ w2 l .exhausted p)
 |_=>False
def den (P:Program) (nt:Nat):Code->Option Nat->Ann->Env->List Nat->θ->(Exit->Env->List Nat->b_)->Prop
 | .skip,_,_,env,ds,w,K=>K .normal env ds w
 | .label _,_,_,env,ds,w,K=>K .normal env ds w
 | .ret,_,_,env,ds,w,K=>K .ret env ds w
 | .exit id,_,_,env,ds,w,K=>K (.exit id) env ds w
 | .region _ ops draw,_,_,env,ds,w,K=>cond draw (Ui P nt ops.toList env w λenv' w'=>K .normal env' ds w') (acF P nt ops.toList 0 ops.toList env w λenv' w'=>K .normal env' ds w')
 | .seq a b,r,an,env,ds,w,K=>match an with
  | .seq x y=>den P nt a r x env ds w λe env' ds' w'=>match e with
   | .normal=>den P nt b r y env' ds' w' K
   |e=>K e env' ds' w'
  | .join st x y=>cond (nZ a)
   (QL (S:=adT st×List Nat×θ) (λs=>den P nt b r y (aeg st s.1++without (writes a) env) s.2.1 s.2.2 K) λJ=>den P nt a r x env ds w λe env' ds' w'=>match e with
    | .normal=>agi st env' λs'=>J (s',ds',w')
    |e=>K e env' ds' w')
   (QL (S:=adT st×θ) (λs=>den P nt b r y (aeg st s.1++without (writes a) env) ds s.2 K) λJ=>den P nt a r x env ds w λe env' ds' w'=>match e with
    | .normal=>agi st env' λs'=>J (s',w')
    |e=>K e env' ds' w')
  |_=>False
 | .cond c a b,r,an,env,ds,w,K=>match an with
  | .cond x y=>match evO env c with
   |some (.bool t)=>cond t (den P nt a r x env ds w K) (den P nt b r y env ds w K)
   |_=>False
  |_=>False
 | .block id a,r,an,env,ds,w,K=>match an with
  | .blk x=>den P nt a r x env ds w λe env' ds' w'=>match e with
   | .exit id'=>cond (Nat.beq id' id) (K .normal env' ds' w') (K (.exit id') env' ds' w')
   |e=>K e env' ds' w'
  |_=>False
 | .scope a,r,an,env,ds,w,K=>den P nt a r an env ds w λe env' ds' w'=>match e with
  | .goto _=>False
  |e=>K e env' ds' w'
 | .loop a,r,an,env,ds,w,K=>match an with
  | .loop st x=>cond (nZ a)
   (getS st env λs0=>iQ (S:=Tz st×List Nat) (λs w next=>den P nt a r x (encS st s.1++without (writes a) env) s.2 w λe env' ds' w'=>match e with
    | .normal=>getS st env' λs'=>next (s',ds') w'
    |e=>K e env' ds' w') (s0,ds) w)
   (getS st env λs0=>iQ (S:=Tz st) (λs w next=>den P nt a r x (encS st s++without (writes a) env) ds w λe env' ds' w'=>match e with
    | .normal=>getS st env' λs'=>next s' w'
    |e=>K e env' ds' w') s0 w)
  |_=>False
 | .rangeFunc g ps assign body,r,an,env,ds,w,K=>match an with
  | .rng ks x y=>cond (!nZ assign && (Nat.beq ps.toList.length ks.length && (Jg ps.toList && ps.toList.all λs=>Nat.blt s nt))) (xO P r ks (ev env g) w
   (λl x' W Kb=>den P nt assign (some l) x (Um ps.toList (encR ks x')++env) [] W λe env1 _ W1=>match e with
    | .normal=>W1.heap[l]? =W.heap[l]? /\den P nt body (some l) y env1 [] (gQ W1 l) λe _ _ W2=>Kb e W2
    |_=>False)
   (λw'=>K .normal env (cond r.isNone (w.heap.size::ds) ds) w') (λw'=>K .ret env (cond r.isNone (w.heap.size::ds) ds) w')
   ((AU body).map λid=>(id,λw'=>K (.exit id) env (cond r.isNone (w.heap.size::ds) ds) w'))) False
  |_=>False
 |_,_,_,_,_,_,_=>False
end Gp
end
section
namespace Gp
open Go
def mkD (ds:List Nat):List Deferred:=ds.map λD=>{target:= .collected D,args:= #[]}
theorem Kw {k:Kind} {v:Value} {φ:k.T->Prop} (h:k.dec v φ):∃x,v=k.enc x/\φ x:=by
 cases k<;>cases v<;>first
  |exact h.elim
  |exact⟨_,rfl,h⟩
  |skip
 case int.int k k' n=>
  simp only[Kind.dec] at h
  cases hb:Nk k k' with
  |false=>rw[hb] at h;exact h.elim
  |true=>
   rw[hb] at h;have:=OE hb;subst this;exact⟨n,rfl,h⟩
theorem get_append (A B:Env) (s:Nat):Env.get (A++B) s=match Env.get A s with|some v=>some v|none=>Env.get B s:=by
 induction A with
 |nil=>rfl
 |cons x A ih=>
  obtain⟨t,v⟩:=x;rw[alY,qj,qj];by_cases h:t=s
  ·simp[h]
  ·simp[h,ih]
theorem I8 (ws:List Nat) (env:Env) (s:Nat):Env.get (without ws env) s=if s∈ws then none else Env.get env s:=by
 induction env with
 |nil=>simp[without,Env.get]
 |cons x env ih=>
  obtain⟨t,v⟩:=x;simp only[without]
  cases hb:Hz t ws with
  |true=>
   have ht:=tZ.1 hb;simp only[abt,ih,qj];by_cases h:t=s
   ·subst h;simp[ht]
   ·simp[h]
  |false=>
   have ht:t∉ws:=λhm=>by rw[tZ.2 hm] at hb;cases hb
   simp only[aaf,qj,ih];by_cases h:t=s
   ·subst h;simp[ht]
   ·simp[h]
theorem Kz:∀(st:List (Nat×Kind)) (env:Env) (φ:Tz st->Prop),getS st env φ->∃x,φ x/\∀t v,Env.get (encS st x) t=some v->env.get t=some v:=by
 intro st
 induction st with
 |nil=>exact λenv φ h=>⟨(),h,λt v hv=>by simp[encS,Env.get] at hv⟩
 |cons p st ih=>
  obtain⟨s,k⟩:=p;intro env φ h;simp only[getS] at h
  cases hg:env.get s with
  |none=>simp only[hg] at h
  |some v=>
   simp only[hg] at h;obtain⟨x,hx,h⟩:=Kw h;obtain⟨y,hy,h2⟩:=ih env _ h;refine⟨(x,y),hy,λt u hu=> ?_⟩;simp only[encS,qj] at hu;by_cases e:s=t
   ·subst e;simp at hu;rw[<- hu,hg,hx]
   ·rw[acZ e] at hu;exact h2 t u hu
theorem X4:∀(ks:List Kind) (vs:List Value) (φ:adU ks->Prop),afO ks vs φ->∃x,vs=Y4 ks x/\φ x:=by
 intro ks
 induction ks with
 |nil=>exact λvs φ h=>match vs,h with|[],h=>⟨(),rfl,h⟩
 |cons k ks ih=>
  intro vs φ h
  cases vs with
  |nil=>exact h.elim
  |cons v vs=>
   simp only[afO] at h;obtain⟨x,hx,h⟩:=Kw h;obtain⟨y,hy,h⟩:=ih _ _ h;exact⟨(x,y),by rw[Y4,hx,hy],h⟩
theorem aec {s:JSh} {v:Value} {φ:JT s->Prop} (h:akN s v φ):∃x,v=adi s x/\φ x:=by
 cases s with
 |sh s=>cases s with
  |one k=>exact Kw h
  |agg ks=>cases v<;>first
   |exact h.elim
   |(obtain⟨x,hx,h⟩:=X4 _ _ _ h
     refine⟨x,?_,h⟩;simp only[adi,afZ,<- hx])
 |addr=>cases v<;>first
   |exact h.elim
   |(rename_i q;cases q with
     |none=>exact h.elim
     |some a=>exact⟨a,rfl,h⟩)
 |ϐ ks=>cases v<;>first
   |exact h.elim
   |(obtain⟨x,hx,h⟩:=X4 _ _ _ h
     refine⟨x,?_,h⟩;simp only[adi,<- hx])
theorem Ye:∀(st:List (Nat×JSh)) (env:Env) (φ:adT st->Prop),agi st env φ->∃x,φ x/\∀t v,Env.get (aeg st x) t=some v->env.get t=some v:=by
 intro st
 induction st with
 |nil=>exact λenv φ h=>⟨(),h,λt v hv=>by simp[aeg,Env.get] at hv⟩
 |cons p st ih=>
  obtain⟨s,k⟩:=p;intro env φ h;simp only[agi] at h
  cases hg:env.get s with
  |none=>simp only[hg] at h
  |some v=>
   simp only[hg] at h;obtain⟨x,hx,h⟩:=aec h;obtain⟨y,hy,h2⟩:=ih env _ h;refine⟨(x,y),hy,λt u hu=> ?_⟩;simp only[aeg,qj] at hu;by_cases e:s=t
   ·subst e;simp at hu;rw[<- hu,hg,hx]
   ·rw[acZ e] at hu;exact h2 t u hu
theorem least (p:Nat->Prop) (h:∃n,p n):∃n,p n/\∀m,p m->n<=m:=by
 obtain⟨n,hn⟩:=h
 induction n using Nat.strongRecOn with
 |_ n ih=>
  by_cases hx:∃m,m<n/\p m
  ·obtain⟨m,hm,hp⟩:=hx;exact ih m hm hp
  ·exact⟨n,hn,λm hm=>Nat.le_of_not_lt λu=>hx ⟨m,u,hm⟩⟩
theorem wpIn_loop_ghost {F:Fence} {n:Nat} {P:Program} {c:Code} {Q:Exit->Act->b_} {a:Act} {w:θ} (I:Nat->Act->b_) (h₀:∃m,I m a w)
  (round:∀m a w,I m a w->c.wpIn F n P (Exit.then (λa' w'=>∃m',m'<m/\I m' a' w') Q) a w):(Code.loop c).wpIn F n P Q a w:=by
 have hl:∀a w,(∃m,I m a w)->∃m,I m a w/\∀k,I k a w->m<=k:=λa w h=>least (λm=>I m a w) h;refine wpIn_loop (λa w=>∃m,I m a w) (λa w=> @dite Nat (∃m,I m a w) (Classical.propDecidable _) (λh=>Classical.choose (hl a w h)) (λ_=>0)) h₀ ?_;intro a w h;obtain⟨hI,hmin⟩:=Classical.choose_spec (hl a w h);refine wpIn_mono (round _ a w hI) λe a' w' hq=> ?_
 cases e<;>first|exact hq|skip
 obtain⟨m',hlt,hI'⟩:=hq;refine⟨⟨m',hI'⟩,?_⟩;have h':∃m,I m a' w':=⟨m',hI'⟩;obtain⟨_,u⟩:=Classical.choose_spec (hl a' w' h');simp only[dif_pos h,dif_pos h'];have:=u m' hI';omega
section
variable {P:Program} {F:Fence} {n:Nat} {b:Frame} {a:Act} {k:List Item} {cs:List Frame} {w:θ} {Q:Exit->Act->b_}
theorem wP {c:Code}:step P (lone (b.atR a (.code (.scope c)::k)) cs w)= .next (lone (b.atR a (.code c:: .inScope c::k)) cs w):=
 step_lone_go (by simp[stepG,stepG.exec,Frame.atR])
theorem XL {c:Code}:step P (lone (b.atR a (.inScope c::k)) cs w)= .next (lone (b.atR a k) cs w):=
 step_lone_go (by simp[stepG,stepG.exec,Frame.atR])
theorem LY {c:Code} (h:c.wpIn F n P (Exit.noGoto Q) a w):(Code.scope c).wpIn F n P Q a w:=by
 intro b k cs I hb hr;have h0:(lone (b.atR a (.code (.scope c)::k)) cs w).fenced P F:=fenced_calm hb hr rfl;obtain⟨e,a₁,w₁,hq,u⟩:=h b (.inScope c::k) cs I hb hr
 cases e with
 |normal=>exact⟨.normal,a₁,w₁,hq,.head h0 wP (StepsIn.trans u (.one (fenced_calm hb hr rfl) XL))⟩
 |exit id=>
  have hx:exitTo id (.inScope c::k)=exitTo id k:=by simp[exitTo]
  exact⟨.exit id,a₁,w₁,hq,λk' hk=> .head h0 wP (u.1 k' (by rw[hx];exact hk)),
   λhr' hk=>let ⟨k₁,h1,h2⟩:=u.2 hr' (by rw[hx];exact hk);⟨k₁,h1,.head h0 wP h2⟩⟩
 |goto l=>exact hq.elim
 |ret=>exact⟨_,a₁,w₁,hq,.of_steps (.one h0 wP) u⟩
 |panic ch=>exact⟨_,a₁,w₁,hq,.of_steps (.one h0 wP) u⟩
 |outgrown=>exact⟨_,a₁,w₁,hq,.of_steps (.one h0 wP) u⟩
end
theorem ϯ {env:Env} {a:Act} (ha:Agr env a) {c:Operand} {v:Value} (h:evO env c=some v):a.eval c=v:=by
 have:=akV ha (x:=c) (by rw[h];rfl);rw[<- this,ev,h];rfl
section
variable {P:Program}
theorem QZ (w:θ) (l:Nat) (f:Obj->Obj) (b:Nat):(w.heap.modify l f)[b]? =if l=b then (w.heap[b]?).map f else w.heap[b]? :=by
 rw[aly]
theorem acN {w:θ} {l:Nat} {lp:Loop} (h:w.heap[l]? =some (.loop lp)) (st:LoopState) (p:Option Code):(iZ w l st p).heap[l]? =some (.loop {lp with state:=st,pending:=p}):=by
 simp only[iZ,QZ,ajn,h,ahF]
theorem afI {w:θ} {l:Nat} {lp:Loop} (h:w.heap[l]? =some (.loop lp)):(gQ w l).heap[l]? =some (.loop {lp with state:= .busy}):=by
 simp only[gQ,QZ,ajn,h,ahF]
theorem EI {w:θ} {l:Nat} {o:Obj} (h:w.heap[l]? =some o) (f:Obj->Obj):w.heap.setIfInBounds l (f o)=w.heap.modify l f:=by
 apply Array.ext_getElem?;intro i;have hl:=(akE.1 h).1;rw[ama,aly];by_cases e:l=i
 ·subst e;have h2:w.heap[l]=o:=by have:=amq hl;rw[h] at this;exact(akR this).symm
  simp[hl,h2]
 ·simp[e]
theorem run_getLoop {w:θ} {l:Nat} {lp:Loop} (h:w.heap[l]? =some (.loop lp)):(Instr.getLoop l).run P w= .ok lp w:=by
 simp[Instr.getLoop,getObj,Sem.run,h]
theorem NT {w:θ} {l:Nat} {lp:Loop} {o:Obj} (h:w.heap[l]? =some (.loop lp)):(setObj l o).run P w= .ok () {w with heap:=w.heap.setIfInBounds l o}:=by
 simp[setObj,Sem.run,h]
theorem run_beginRound {w:θ} {l:Nat} {lp:Loop} (h:w.heap[l]? =some (.loop lp)) (hr:lp.state= .ready):(Instr.beginRound l).run P w= .ok () (gQ w l):=by
 simp only[Instr.beginRound,Sem.run_bind,run_getLoop h,Result.andThen_ok,NT h,hr,Sem.run_pure];simp only[gQ];rw[<- EI h]
theorem run_endRound {w:θ} {l:Nat} {lp:Loop} (h:w.heap[l]? =some (.loop lp)) (j:Option Code):
  (Instr.endRound l j).run P w= .ok (.bool j.isNone) (iZ w l (if j.isNone then .ready else .done) j):=by
 simp only[Instr.endRound,Sem.run_bind,run_getLoop h,Result.andThen_ok,NT h,Sem.run_pure];simp only[iZ];rw[<- EI h]
theorem run_endLoop {w:θ} {l:Nat} {lp:Loop} (h:w.heap[l]? =some (.loop lp)) (hb:lp.state≠.busy):
  (Instr.endLoop l).run P w= .ok lp.pending (iZ w l .exhausted lp.pending):=by
 have hb':¬(lp.state= .busy):=hb;simp[Instr.endLoop,run_getLoop h,NT h,hb'];simp only[iZ];rw[<- EI h]
abbrev RD (ps:List Nat) (vs:List Value) (tmps:Array Value):Array Value:=(ps.zip vs).foldl (λ(tmps:Array Value) (p:Nat×Value)=>tmps.setIfInBounds p.1 p.2) tmps
theorem aeB:∀(ps:List Nat) (vs:List Value) (tmps:Array Value),(RD ps vs tmps).size=tmps.size:=by
 intro ps
 induction ps with
 |nil=>intro vs tmps;rfl
 |cons p ps ih=>
  intro vs tmps
  cases vs with
  |nil=>rfl
  |cons v vs=>simp only[RD,List.zip_cons_cons,amO] at ih ⊢;rw[ih];simp
theorem UG:∀(ps:List Nat) (vs:List Value) (tmps:Array Value) (s:Nat),s∉ps->(RD ps vs tmps)[s]? =tmps[s]? :=by
 intro ps
 induction ps with
 |nil=>intro vs tmps s _;rfl
 |cons p ps ih=>
  intro vs tmps s h
  cases vs with
  |nil=>rfl
  |cons v vs=>
   simp only[RD,List.zip_cons_cons,amO] at ih ⊢;rw[ih vs _ s (λx=>h (by simp[x]))];have:¬(p=s):=λx=>h (by simp[x]);simp[this]
theorem agA:∀(ps:List Nat) (vs:List Value) (tmps:Array Value),Jg ps=true->(∀s∈ps,s<tmps.size)->
  ∀s v,Env.get (Um ps vs) s=some v->(RD ps vs tmps)[s]? =some v:=by
 intro ps
 induction ps with
 |nil=>intro vs tmps _ _ s v h;simp[Um,Env.get] at h
 |cons p ps ih=>
  intro vs tmps I J s v h
  cases vs with
  |nil=>simp[Um,Env.get] at h
  |cons u vs=>
   simp only[Jg,alg,al_] at I;simp only[Um,qj] at h;have e:RD (p::ps) (u::vs) tmps=RD ps vs (tmps.setIfInBounds p u):=rfl;rw[e];by_cases hs:p=s
   ·subst hs;rw[adZ rfl] at h;have hn:p∉ps:=λx=>by rw[tZ.2 x] at I;simp at I
    rw[UG _ _ _ _ hn];have:p<tmps.size:=J p (by simp);simp[this,<- h]
   ·rw[acZ hs] at h;exact ih vs _ I.2 (λs hs=>by simpa using J s (by simp[hs])) s v h
end
end Gp
end
section
namespace Gp
open Go
section
variable {P:Program}
theorem JV.self {nt:Nat} {dfr:List Deferred} {ws ws':List Nat} {a0 a:Act} {env:Env} (h:JV nt dfr ws a0 env a):JV nt dfr ws' a env a:=⟨h.agr,h.size,h.defers,λ_ _=>rfl⟩
theorem JV.trans {nt:Nat} {d1 d2:List Deferred} {ws ws':List Nat} {a0 a a':Act} {env env':Env} (h:JV nt d1 ws a0 env a) (h':JV nt d2 ws' a env' a') (hs:∀s∈ws',s∈ws):JV nt d2 ws a0 env' a':=
 ⟨h'.agr,h'.size,h'.defers,λs hn=>(h'.same s λx=>hn (hs s x)).trans (h.same s hn)⟩
theorem JV.env {nt:Nat} {dfr:List Deferred} {ws:List Nat} {a0 a:Act} {env env':Env} (h:JV nt dfr ws a0 env a) (he:∀s v,env'.get s=some v->a.tmps[s]? =some v):JV nt dfr ws a0 env' a:=
 ⟨he,h.size,h.defers,h.same⟩
def LL (l:Nat) (fn:FuncId) (tmps:Array Value) (ps:Array Tmp) (assign body:Code) (dfr:Nat) (st:LoopState) (p:Option Code) (W:θ):Prop:=
 W.heap[l]? =some (.loop {state:=st,pending:=p,fn:=fn,tmps:=tmps,params:=ps,assign:=assign,body:=body,defers:=dfr})
def D6 (P:Program) (nt:Nat) (c:Code):Prop:=
 ∀(r:Option Nat) (an:Ann) (env:Env) (ds:List Nat) (w:θ) (K:Exit->Env->List Nat->b_) (n:Nat) (Q:Exit->Act->b_) (ws:List Nat) (a0 a:Act),
  den P nt c r an env ds w K->JV nt (mkD ds) ws a0 env a->(∀s∈writes c,s∈ws)->
  (∀e env' ds' w' a',JV nt (mkD ds') ws a0 env' a'->(nZ c=false->ds'=ds)->K e env' ds' w'->Q e a' w')->c.wpIn (Fr r) n P Q a w
theorem aeh:∀(st:List (Nat×Kind)) (x y:Tz st) (t:Nat),Env.get (encS st x) t=none->Env.get (encS st y) t=none:=by
 intro st
 induction st with
 |nil=>simp
 |cons p st ih=>
  obtain⟨s,k⟩:=p;intro x y t h;simp only[encS,qj] at h ⊢
  grind
theorem ϛ {nt:Nat} {dfr dfr':List Deferred} {ws ws':List Nat} {st:List (Nat×Kind)} {x y:Tz st} {env env':Env} {a0 a a':Act} (h:JV nt dfr ws a0 (encS st y++without ws' env) a)
  (h':JV nt dfr' ws' a env' a') (hx:∀t v,Env.get (encS st x) t=some v->env'.get t=some v):∀s v,Env.get (encS st x++without ws' env) s=some v->a'.tmps[s]? =some v:=by
 intro s v hs;rw[get_append] at hs
 cases he:Env.get (encS st x) s with
 |some u=>rw[he] at hs;simp at hs;subst hs;exact h'.agr s u (hx s u he)
 |none=>
  rw[he] at hs;simp only at hs;have hw:s∉ws':=by
   intro hw;rw[I8] at hs
   simp_all
  rw[h'.same s hw];refine h.agr s v ?_;rw[get_append,aeh st x y s he];exact hs
theorem XV {st:List (Nat×Kind)} {x:Tz st} {env:Env} {a:Act} (ws':List Nat) (h:Agr env a)
  (hx:∀t v,Env.get (encS st x) t=some v->env.get t=some v):∀s v,Env.get (encS st x++without ws' env) s=some v->a.tmps[s]? =some v:=by
 intro s v hs;rw[get_append] at hs
 cases he:Env.get (encS st x) s with
 |some u=>rw[he] at hs;simp at hs;subst hs;exact h s u (hx s u he)
 |none=>
  rw[he] at hs;simp only[I8] at hs;by_cases hw:s∈ws'
  ·simp_all
  ·simp only[hw,aku] at hs;exact h s v hs
theorem Ϛ {nt:Nat} {dfr:List Deferred} {ws':List Nat} {B env env':Env} {a a':Act} (ha:Agr env a)
  (h':JV nt dfr ws' a env' a') (hx:∀t v,Env.get B t=some v->env'.get t=some v):∀s v,Env.get (B++without ws' env) s=some v->a'.tmps[s]? =some v:=by
 intro s v hs;rw[get_append] at hs
 cases he:Env.get B s with
 |some u=>rw[he] at hs;simp at hs;subst hs;exact h'.agr s u (hx s u he)
 |none=>
  rw[he] at hs;simp only[I8] at hs;by_cases hw:s∈ws'
  ·simp_all
  ·simp only[hw,aku] at hs;rw[h'.same s hw];exact ha s v hs
theorem ab_ {nt:Nat} {x y:Code} (ihx:D6 P nt x) (ihy:D6 P nt y) {st:List (Nat×JSh)} {ax ay:Ann} {r:Option Nat} {env:Env} {ds:List Nat} {w:θ} {K:Exit->Env->List Nat->b_}
  {n:Nat} {Q:Exit->Act->b_} {ws:List Nat} {a0 a:Act} (h:den P nt (.seq x y) r (.join st ax ay) env ds w K) (ha:JV nt (mkD ds) ws a0 env a) (N:∀s∈writes (.seq x y),s∈ws)
  (hQ:∀e env' ds' w' a',JV nt (mkD ds') ws a0 env' a'->(nZ (.seq x y)=false->ds'=ds)->K e env' ds' w'->Q e a' w'):(Code.seq x y).wpIn (Fr r) n P Q a w:=by
 have u:∀s∈writes x,s∈ws:=λs hs=>N s (by simp[writes,hs]);have O:∀s∈writes y,s∈ws:=λs hs=>N s (by simp[writes,hs]);simp only[den] at h
 cases hr:nZ x with
 |false=>
  rw[hr] at h;simp only[aaf,QL] at h;refine wpIn_seq (ihx r ax env ds w _ n _ (writes x) a a h ha.self (λs hs=>hs) ?_);intro e env' ds' w' a' ha' I hk;have I:=I hr;subst I
  cases e with
  |normal=>
   obtain⟨s',hb,hs'⟩:=Ye _ _ _ hk;refine ihy r ay _ ds' w' K n Q ws a0 a' hb ((ha.trans ha' u).env (Ϛ ha.agr ha' hs')) O ?_;intro e2 env2 ds2 w2 a2 ha2 J hk2;refine hQ _ _ _ _ _ ha2 (λhx=> ?_) hk2;simp only[nZ,amF] at hx
   simp_all
  |_=>exact hQ _ _ _ _ _ (ha.trans ha' u) (λ_=>rfl) hk
 |true=>
  rw[hr] at h;simp only[abt,QL] at h;refine wpIn_seq (ihx r ax env ds w _ n _ (writes x) a a h ha.self (λs hs=>hs) ?_);intro e env' ds' w' a' ha' _ hk
  cases e with
  |normal=>
   obtain⟨s',hb,hs'⟩:=Ye _ _ _ hk;refine ihy r ay _ ds' w' K n Q ws a0 a' hb ((ha.trans ha' u).env (Ϛ ha.agr ha' hs')) O ?_;intro e2 env2 ds2 w2 a2 ha2 J hk2;refine hQ _ _ _ _ _ ha2 (λhx=> ?_) hk2;simp[nZ,hr] at hx
  |_=>exact hQ _ _ _ _ _ (ha.trans ha' u) (λhx=>by simp[nZ,hr] at hx) hk
theorem aci {nt:Nat} {c:Code} (ih:D6 P nt c):D6 P nt (.loop c):=by
 intro r an env ds w K n Q ws a0 a h ha J hQ
 cases an with
 |loop st x=>
  simp only[den] at h
  cases hr:nZ c with
  |false=>
   rw[hr] at h;simp only[aaf] at h;obtain⟨s0,⟨I,h0,u⟩,hs0⟩:=Kz _ _ _ h;refine wpIn_loop_ghost (λm a' w'=>∃s:Tz st,I m s w'/\JV nt (mkD ds) ws a0 (encS st s++without (writes c) env) a') ?_ ?_
   ·obtain⟨m,hm⟩:=h0;exact⟨m,s0,hm,ha.env (XV _ ha.agr hs0)⟩
   ·rintro m a1 w1 ⟨s,hI,ha1⟩;refine ih r x _ ds w1 _ n _ (writes c) a1 a1 (u m s w1 hI) ha1.self (λs hs=>hs) ?_;intro e env' ds' w' a' ha' N hk;have N:=N hr;subst N
    cases e with
    |normal=>
     obtain⟨s',⟨m',O,hI'⟩,hs'⟩:=Kz _ _ _ hk;exact⟨m',O,s',hI',(ha1.trans ha' J).env (ϛ ha1 ha' hs')⟩
    |_=>exact hQ _ _ _ _ _ (ha1.trans ha' J) (λ_=>rfl) hk
  |true=>
   rw[hr] at h;simp only[abt] at h;obtain⟨s0,⟨I,h0,u⟩,hs0⟩:=Kz _ _ _ h;refine wpIn_loop_ghost (λm a' w'=>∃s:Tz st×List Nat,I m s w'/\JV nt (mkD s.2) ws a0 (encS st s.1++without (writes c) env) a') ?_ ?_
   ·obtain⟨m,hm⟩:=h0;exact⟨m,(s0,ds),hm,ha.env (XV _ ha.agr hs0)⟩
   ·rintro m a1 w1 ⟨s,hI,ha1⟩;refine ih r x _ s.2 w1 _ n _ (writes c) a1 a1 (u m s w1 hI) ha1.self (λs hs=>hs) ?_;intro e env' ds' w' a' ha' _ hk
    cases e with
    |normal=>
     obtain⟨s',⟨m',O,hI'⟩,hs'⟩:=Kz _ _ _ hk;exact⟨m',O,(s',ds'),hI',(ha1.trans ha' J).env (ϛ ha1 ha' hs')⟩
    |_=>exact hQ _ _ _ _ _ (ha1.trans ha' J) (λhx=>by simp[nZ,hr] at hx) hk
 |_=>exact h.elim
theorem WT {fn:FuncId} {tmps:Array Value} {ps:Array Tmp} {assign body:Code} {w:θ}:
  (Instr.enterLoop fn tmps ps assign body none).run P w=
   .ok (w.heap.size+1,[{target:= .collected w.heap.size,args:= #[]}])
    ((w.alloc (.deferred (some []))).alloc (.loop {state:= .ready,pending:=none,fn:=fn,tmps:=tmps,params:=ps,assign:=assign,body:=body,defers:=w.heap.size})):=by
 simp[Instr.enterLoop]
theorem P6 {fn:FuncId} {tmps:Array Value} {ps:Array Tmp} {assign body:Code} {w:θ} {l₀:Nat} {lp:Loop} (h:w.heap[l₀]? =some (.loop lp)):
  (Instr.enterLoop fn tmps ps assign body (some l₀)).run P w=
   .ok (w.heap.size,[]) (w.alloc (.loop {state:= .ready,pending:=none,fn:=fn,tmps:=tmps,params:=ps,assign:=assign,body:=body,defers:=lp.defers})):=by
 simp[Instr.enterLoop,run_getLoop h]
theorem aey {e:Exit} {j:Option Code} (h:Cc e=some j):j.isNone=Cb e:=by
 cases e<;>simp[Cc] at h<;>subst h<;>rfl
theorem aa2 {nt:Nat} {assign body:Code} (ih1:D6 P nt assign) (ih2:D6 P nt body) {l:Nat} {fn:FuncId} {tmps:Array Value} {ps:Array Tmp} {dfr:Nat} {ks:List Shape} {x y:Ann} {env:Env}
  (hlen:Nat.beq ps.toList.length ks.length=true) (O:Jg ps.toList=true) (hlt:∀s∈ps.toList,s<nt) (U:nZ assign=false) (Y:tmps.size=nt) (hag:∀s v,env.get s=some v->tmps[s]? =some v)
  {x':zZ ks} {W:θ} {p:Option Code} {R:Bool->b_} (hL:LL l fn tmps ps assign body dfr .ready p W)
  (h:den P nt assign (some l) x (Um ps.toList (encR ks x')++env) [] W λe env1 _ W1=>match e with
    | .normal=>W1.heap[l]? =W.heap[l]? /\den P nt body (some l) y env1 [] (gQ W1 l) λe _ _ W2=>
      (LL l fn tmps ps assign body dfr .busy p W2/\∃j,Cc e=some j/\R (Cb e) (iZ W2 l (if Cb e then .ready else .done) j))
    |_=>False):ML P l (encR ks x') W R:=by
 have hkl:∀(ks:List Shape) (x:zZ ks),(encR ks x).length=ks.length:=by
  intro ks
  induction ks with
  |nil=>intro x;rfl
  |cons k ks ih=>intro x;simp[encR,ih]
 have hl2:(encR ks x').length=ps.size:=by
  simp_all
 refine⟨fn,RD ps.toList (encR ks x') tmps,assign,body,?_,?_⟩
 ·have h1:(ps.zip (⟨encR ks x'⟩:Array Value)).foldl (λ(tmps:Array Value) (x:Tmp×Value)=>tmps.setIfInBounds x.1 x.2) tmps=RD ps.toList (encR ks x') tmps:=by
   rw[<- Array.foldl_toList,Array.toList_zip]
  simp only[Instr.yield,Sem.run_bind,run_getLoop hL,Result.andThen_ok]
  simp_all
 ·refine roundIn_of_wpIn trivial ?_;have hA:JV nt (mkD []) (writes assign) {tmps:=RD ps.toList (encR ks x') tmps,defers:=[]} (Um ps.toList (encR ks x')++env) {tmps:=RD ps.toList (encR ks x') tmps,defers:=[]}:=by
   refine⟨λs v hs=> ?_,by simp[aeB,Y],rfl,λ_ _=>rfl⟩;rw[get_append] at hs
   cases he:Env.get (Um ps.toList (encR ks x')) s with
   |some u=>
    rw[he] at hs;simp only[aho] at hs;subst hs;exact agA _ _ _ O (λs hs=>by simp_all) s u he
   |none=>
    rw[he] at hs;have hn:s∉ps.toList:=by
     intro hm;have:∀(ps:List Nat) (vs:List Value),ps.length=vs.length->s∈ps->Env.get (Um ps vs) s≠none:=by
      intro ps
      induction ps with
      |nil=>simp
      |cons q ps ih=>
       intro vs hl hm
       cases vs with
       |nil=>simp at hl
       |cons v vs=>
        simp only[Um,qj]
        grind
     simp_all
    show (RD ps.toList (encR ks x') tmps)[s]? =some v;rw[UG _ _ _ _ hn]
    simp_all
  refine ih1 (some l) x _ [] W _ 0 _ (writes assign) _ _ h hA (λs hs=>hs) ?_;intro e env1 ds1 W1 a1 ha1 I hk;have I:=I U;subst I
  cases e with
  |normal=>
   obtain⟨J,hk⟩:=hk;have hL1:=J.trans hL;refine⟨gQ W1 l,run_beginRound hL1 rfl,?_⟩;have ha1':JV nt (mkD []) (writes body) a1 env1 a1:=ha1.self;refine ih2 (some l) y env1 [] _ _ 0 _ (writes body) a1 a1 hk ha1' (λs hs=>hs) ?_;intro e env2 ds2 W2 a2 ha2 _ hk2;obtain⟨hL2,j,hj,hR⟩:=hk2;have N:=run_endRound (P:=P) hL2 j;rw[aey hj] at N;have hR':∃b:Bool,Ending.returned (.bool (Cb e))= .returned (.bool b)/\R b (iZ W2 l (if Cb e then .ready else .done) j):=⟨_,rfl,hR⟩
   cases e<;>simp only[Cc,aho] at hj<;>first
    |(subst hj;exact⟨_,_,N,hR'⟩)
    |(cases hj;done)
  |_=>exact hk.elim
theorem ad7 (hP:XR P) {f:FuncId} {first cap:Array Value} {l:Nat} {W:θ} (hb:o9 P f=true) {a:Act} {g:Operand} (hg:a.eval g= .func (.func f) first cap):
  ∃d,(resolve a.eval (rangeCall g l) 0).run P W= .ok d W/\(invoke d.target d.args).run P W= .ok (.enter f ⟨first.toList++(Value.func (.yield l) #[] #[]::cap.toList)⟩) W:=by
 refine⟨{target:= .fn (.func f) cap,args:=first++ #[.func (.yield l) #[] #[]]},?_,?_⟩
 ·simp only[resolve,hg,Deferred.ofValue,Sem.run_pure,List.map_toArray,akh,List.map_nil];rfl
 ·have e:first++ #[Value.func (.yield l) #[] #[]]++cap=⟨first.toList++(Value.func (.yield l) #[] #[]::cap.toList)⟩:=by simp
  simp only[invoke,e];exact AP hP hb _ _
theorem ab1 {id:Nat} {w:θ} {K:Exit->b_}:∀(l:List Nat),Uw id (l.map λid=>(id,K (.exit id))) w->K (.exit id) w:=by
 intro l
 induction l with
 |nil=>intro h;exact h.elim
 |cons i l ih=>
  intro h;simp only[akh,Uw] at h
  cases hb:Nat.beq i id with
  |true=>
   rw[hb] at h;have:=alW hb;subst this;exact h
  |false=>rw[hb] at h;exact ih h
theorem acd {K:Exit->b_} {l:List Nat} {p:Option Code} {w:θ} (h:ajd (K .normal) (K .ret) (l.map λid=>(id,K (.exit id))) p w) {F:Fence} {n:Nat} {Q:Exit->Act->b_} {a:Act}
  (hQ:∀e w,K e w->Q e a w):(p=none->Q .normal a w)/\∀c,p=some c->c.wpIn F n P Q a w:=by
 cases p with
 |none=>exact⟨λ_=>hQ _ _ h,λc hc=>by cases hc⟩
 |some c=>
  refine⟨λhc=>by(cases hc),λc' hc=> ?_⟩
  cases hc
  cases c<;>first|exact h.elim|exact wpIn_ret (hQ _ _ h)|exact wpIn_exit (hQ _ _ (ab1 l h))
theorem aeV (hP:XR P) {nt:Nat} {g:Operand} {ps:Array Tmp} {assign body:Code} (ih1:D6 P nt assign) (ih2:D6 P nt body):D6 P nt (.rangeFunc g ps assign body):=by
 intro r an env ds w K n Q ws a0 a h ha hws hQ
 cases an with
 |rng ks x y=>
  simp only[den] at h
  cases hb:(!nZ assign && (Nat.beq ps.toList.length ks.length && (Jg ps.toList && ps.toList.all λs=>Nat.blt s nt))) with
  |false=>rw[hb] at h;exact h.elim
  |true=>
   rw[hb] at h;simp only[abt] at h;simp only[alg,al5,amv,al_] at hb;obtain⟨U,hlen,Y,Z⟩:=hb;obtain⟨hr0,h⟩:=h;split at h
   ·rename_i f first cap hv
    obtain⟨u,h⟩:=h;have hg:a.eval g= .func (.func f) first cap:=by
     cases hx:evO env g with
     |none=>simp[ev,hx,undef] at hv
     |some v=>
      have:=ϯ ha.agr hx;simp only[ev,hx,alO] at hv;rw[this,hv]
    refine wpIn_rangeFunc λfn _=> ?_;have mk:∀(l:Nat) (mark:List Deferred) (w1:θ) (dfr:Nat),(Instr.enterLoop fn a.tmps ps assign body (Fr r).round).run P w= .ok (l,mark) w1->
      (l=if r.isNone then w.heap.size+1 else w.heap.size)->w1.heap.size=l+1->(∀b,b<w.heap.size->w1.heap[b]? =w.heap[b]?)->(w1.os=w.os/\w1.tape=w.tape/\w1.output=w.output)->(r=none->w1.heap[w.heap.size]? =some (.deferred (some [])))->
      LL l fn a.tmps ps assign body dfr .ready none w1->mark++a.defers=mkD (cond r.isNone (w.heap.size::ds) ds)->
      ∃(l:Nat) (mark:List Deferred) (w₁:θ) (d:Deferred) (w₁':θ) (f:FuncId) (args:Array Value) (w₂:θ),
       (Instr.enterLoop fn a.tmps ps assign body (Fr r).round).run P w= .ok (l,mark) w₁/\(resolve a.eval (rangeCall g l) 0).run P w₁= .ok d w₁'/\
       (∀f',Target.leads P w₁' d.target d.args=some f'->(Fr r).fn f')/\(invoke d.target d.args).run P w₁'= .ok (.enter f args) w₂/\((Fr r).depth.isSome=true->1<=n)/\
       CallsIn (Fr r) (n - 1) P f args w₂ (rangePost (Fr r) n P l Q {a with defers:=mark++a.defers}):=by
     intro l mark w1 dfr he hl aa J ab ac ae af;obtain⟨d,N,O⟩:=ad7 hP u hg;refine⟨l,mark,w1,d,w1,f,_,w1,he,N,λ_ _=>trivial,O,λhx=>by trivial,?_⟩;have I:=h l (LL l fn a.tmps ps assign body dfr) w1 {
      at_:=hl
      size:=aa
      old:=J
      io:=ab
      marks:=ac
      ready:=ae
      frame:=λst p W W' hL hs=>hs.trans hL
      set:=λst p st' p' W hL=>acN hL st' p'
      busy:=λp W hL=>afI hL
      isLoop:=λst p W hL=>⟨_,hL⟩
      yield:=λx' W p R hL hx=>aa2 ih1 ih2 hlen Y Z U ha.size ha.agr hL hx}
     have hc:CallsIn Fence.wide (n - 1) P f _ w1 _:=callsIn_wide.2 (J_ I);refine CallsIn.mono hc λe w2 hx=> ?_;obtain⟨v,rfl,st,p,hL,ag,hj⟩:=hx;refine⟨p,_,run_endLoop hL ag,?_⟩;have hj2:=acd (P:=P) (F:=Fr r) (n:=n) (a:={a with defers:=mark++a.defers}) (K:=λe w'=>K e env (cond r.isNone (w.heap.size::ds) ds) w') hj λe w' hk=>
      hQ _ _ _ _ _ ⟨ha.agr,ha.size,af,ha.same⟩ (λhx=>by trivial) hk
     clear hj I hc
     cases p with
     |none=>exact hj2.1 rfl
     |some c=>exact hj2.2 c rfl
    cases r with
    |none=>
     refine mk (w.heap.size+1) _ _ w.heap.size WT rfl (by simp) (λb hb=> ?_) ⟨rfl,rfl,rfl⟩ (λ_=> ?_) ?_ (by simp[mkD,ha.defers])
     ·have h1:b≠w.heap.size+1:=by omega
      have h2:b≠w.heap.size:=by omega
      simp[World.alloc,-World.alloc_eq,amU,h1,h2]
     ·simp[World.alloc,-World.alloc_eq,amU]
     ·have:=World.alloc_heap_new (w.alloc (.deferred (some []))) (.loop {state:= .ready,pending:=none,fn:=fn,tmps:=a.tmps,params:=ps,assign:=assign,body:=body,defers:=w.heap.size});rw[World.size_alloc] at this;exact this
    |some l₀=>
     obtain⟨lp,ah⟩:=hr0 l₀ rfl;refine mk w.heap.size _ _ lp.defers (P6 ah) rfl (by simp) (λb hb=> ?_) ⟨rfl,rfl,rfl⟩ (λhx=>by cases hx) ?_ (by simp[ha.defers])
     ·have h2:b≠w.heap.size:=by omega
      simp[World.alloc,-World.alloc_eq,amU,h2]
     ·simp[LL,World.alloc,-World.alloc_eq]
   ·exact h.elim
 |_=>exact h.elim
theorem aef (hP:XR P) (nt:Nat):∀c,D6 P nt c:=by
 intro c
 induction c with
 |skip=>intro r an env ds w K n Q ws a0 a h ha u hQ;exact wpIn_skip (hQ _ _ _ _ _ ha (λ_=>rfl) h)
 |label l=>intro r an env ds w K n Q ws a0 a h ha u hQ;exact wpIn_label (hQ _ _ _ _ _ ha (λ_=>rfl) h)
 |ret=>intro r an env ds w K n Q ws a0 a h ha u hQ;exact wpIn_ret (hQ _ _ _ _ _ ha (λ_=>rfl) h)
 |exit id=>intro r an env ds w K n Q ws a0 a h ha u hQ;exact wpIn_exit (hQ _ _ _ _ _ ha (λ_=>rfl) h)
 |region id ops draw=>
  intro r an env ds w K n Q ws a0 a h ha u hQ;simp only[den] at h
  cases draw with
  |true=>exact Uj hP u (λenv a w ha hk=>hQ _ _ _ _ _ ha (λ_=>rfl) hk) ha h
  |false=>
   refine wpIn_region ?_;have:=Z9 (r:=r) (n:=n) hP u (λenv a w ha hk=>hQ _ _ _ _ _ ha (λ_=>rfl) hk) ops.toList 0 env a w (by simp) ha h;rw[List.range_eq_range'];simpa using this
 |seq x y ihx ihy=>
  intro r an env ds w K n Q ws a0 a h ha u hQ
  cases an with
  |seq ax ay=>
   simp only[den] at h;refine wpIn_seq (ihx r ax env ds w _ n _ ws a0 a h ha (λs hs=>u s (by simp[writes,hs])) ?_);intro e env' ds' w' a' ha' I hk
   cases e with
   |normal=>
    refine ihy r ay env' ds' w' K n Q ws a0 a' hk ha' (λs hs=>u s (by simp[writes,hs])) ?_;intro e2 env2 ds2 w2 a2 ha2 hds2 hk2;refine hQ _ _ _ _ _ ha2 (λhx=> ?_) hk2;simp only[nZ,amF] at hx
    simp_all
   |_=>
    refine hQ _ _ _ _ _ ha' (λhx=> ?_) hk;simp only[nZ,amF] at hx
    simp_all
  |join st ax ay=>exact ab_ ihx ihy h ha u hQ
  |_=>exact h.elim
 |cond c x y ihx ihy=>
  intro r an env ds w K n Q ws a0 a h ha u hQ
  cases an with
  |cond ax ay=>
   simp only[den] at h;split at h
   ·rename_i t ht;refine wpIn_cond (ϯ ha.agr ht) ?_
    cases t with
    |true=>
     refine ihx r ax env ds w K n Q ws a0 a h ha (λs hs=>u s (by simp[writes,hs])) λe env' ds' w' a' ha' I hk=>hQ _ _ _ _ _ ha' (λhx=> ?_) hk;simp only[nZ,amF] at hx
     simp_all
    |false=>
     refine ihy r ay env ds w K n Q ws a0 a h ha (λs hs=>u s (by simp[writes,hs])) λe env' ds' w' a' ha' I hk=>hQ _ _ _ _ _ ha' (λhx=> ?_) hk;simp only[nZ,amF] at hx
     simp_all
   ·exact h.elim
  |_=>exact h.elim
 |block id x ihx=>
  intro r an env ds w K n Q ws a0 a h ha u hQ
  cases an with
  |blk ax=>
   simp only[den] at h;refine wpIn_block (ihx r ax env ds w _ n _ ws a0 a h ha u ?_);intro e env' ds' w' a' ha' I hk
   cases e with
   |exit id'=>
    simp only at hk;simp only[Exit.inBlock];by_cases J:id'=id
    ·subst J;have:Nat.beq id' id'=true:=by simp
     rw[this] at hk;rw[adZ rfl];exact hQ _ _ _ _ _ ha' I hk
    ·have:Nat.beq id' id=false:=by cases hx:Nat.beq id' id;rfl;simp_all
     rw[this] at hk;rw[acZ J];exact hQ _ _ _ _ _ ha' I hk
   |_=>exact hQ _ _ _ _ _ ha' I hk
  |_=>exact h.elim
 |loop x ihx=>exact aci ihx
 |rangeFunc g ps assign body ih1 ih2=>exact aeV hP ih1 ih2
 |scope x ihx=>
  intro r an env ds w K n Q ws a0 a h ha u hQ;simp only[den] at h;refine LY (ihx r an env ds w _ n _ ws a0 a h ha u ?_);intro e env' ds' w' a' ha' I hk
  cases e with
  |goto l=>exact hk.elim
  |_=>exact hQ _ _ _ _ _ ha' I hk
 |goto l=>intro r an env ds w K n Q ws a0 a h ha u hQ;exact h.elim
 |refuse y=>intro r an env ds w K n Q ws a0 a h ha u hQ;exact h.elim
end
end Gp
end
section
namespace Gp
open Go
@[reducible] def Tv:List Kind->Type
 |[]=>b_
 |k::r=>k.T->Tv r
def flat:List Shape->List Kind
 |[]=>[]
 | .one k::r=>k::flat r
 | .agg ks::r=>ks++flat r
def afP:(ks:List Kind)->(rest:List Kind)->List Value->Tv (ks++rest)->(Tv rest->Prop)->Prop
 |[],_,[],c,φ=>φ c
 |k::ks,rest,v::vs,c,φ=>k.dec v λx=>afP ks rest vs (c x) φ
 |_,_,_,_,_=>False
def Uf:(sh:List Shape)->List Value->Tv (flat sh)->b_
 |[],[],c,w=>c w
 | .one k::r,v::vs,c,w=>k.dec v λx=>Uf r vs (c x) w
 | .agg ks::r,v::vs,c,w=>match v with
  | .agg cs=>afP ks (flat r) cs.toList c λc'=>Uf r vs c' w
  |_=>False
 |_,_,_,_=>False
def ϰ:(ks:List Kind)->(rest:List Kind)->Tv (ks++rest)->(List Value->Tv rest->Prop)->Prop
 |[],_,c,φ=>φ [] c
 |k::ks,rest,c,φ=>∃x:k.T,ϰ ks rest (c x) λvs c'=>φ (k.enc x::vs) c'
def ϱ:(sh:List Shape)->Tv (flat sh)->(List Value->Prop)->b_
 |[],c,φ,w=>φ []/\c w
 | .one k::r,c,φ,w=>∃x:k.T,ϱ r (c x) (λvs=>φ (k.enc x::vs)) w
 | .agg ks::r,c,φ,w=>ϰ ks (flat r) c λvs c'=>ϱ r c' (λus=>φ (.agg ⟨vs⟩::us)) w
theorem afQ:∀(ks rest:List Kind) (vs:List Value) (c:Tv (ks++rest)) (φ:Tv rest->Prop),afP ks rest vs c φ->
  ∀ψ:List Value->Tv rest->Prop,(∀c',φ c'->ψ vs c')->ϰ ks rest c ψ:=by
 intro ks
 induction ks with
 |nil=>
  intro rest vs c φ h ψ hψ
  cases vs with
  |nil=>exact hψ c h
  |cons v vs=>exact h.elim
 |cons k ks ih=>
  intro rest vs c φ h ψ hψ
  cases vs with
  |nil=>exact h.elim
  |cons v vs=>
   obtain⟨x,hx,h'⟩:=Kw h;subst hx;exact⟨x,ih rest vs (c x) φ h' _ hψ⟩
theorem afR:∀(sh:List Shape) (vs:List Value) (c:Tv (flat sh)) (w:θ),Uf sh vs c w->∀φ:List Value->Prop,φ vs->ϱ sh c φ w:=by
 intro sh
 induction sh with
 |nil=>
  intro vs c w h φ hφ
  cases vs with
  |nil=>exact⟨hφ,h⟩
  |cons v vs=>exact h.elim
 |cons s sh ih=>
  intro vs c w h φ hφ
  cases s with
  |one k=>
   cases vs with
   |nil=>exact h.elim
   |cons v vs=>
    obtain⟨x,hx,h'⟩:=Kw h;subst hx;exact⟨x,ih vs (c x) w h' (λvs=>φ (k.enc x::vs)) hφ⟩
  |agg ks=>
   cases vs with
   |nil=>exact h.elim
   |cons v vs=>
    cases v with
    |agg cs=>exact afQ ks (flat sh) cs.toList c _ h _ λc' h'=>ih vs c' w h' (λus=>φ (.agg ⟨cs.toList⟩::us)) hφ
    |_=>exact h.elim
def wR:List Nat->θ->(b_)->Prop
 |[],w,K=>K w
 |D::ds,w,K=>w.heap[D]? =some (.deferred (some []))/\wR ds (w.putObj D (.deferred none)) K
def EH (P:Program):List ResultVar->Env->θ->(List Value->Prop)->Prop
 |[],_,_,φ=>φ []
 | .tmp t::r,env,w,φ=>match env.get t with
  |some v=>EH P r env w λvs=>φ (v::vs)
  |none=>False
 | .cell a t::r,env,w,φ=>match env.get a,shapeOf P t,jT P t with
  |some (.pointer (some ad)),some sh,some n=>cond (Nat.beq sh.cells n) (sh.ld w ad λv=>EH P r env w λvs=>φ (v::vs)) False
  |_,_,_=>False
def ak8 (P:Program) (rs:List ResultVar) (sh:List Shape) (Post:Tv (flat sh)) (e:Exit) (env:Env) (ds:List Nat) (w:θ):Prop:=
 match e with
 | .normal=>wR ds w λw'=>EH P rs env w' λvs=>Uf sh vs Post w'
 | .ret=>wR ds w λw'=>EH P rs env w' λvs=>Uf sh vs Post w'
 |_=>False
def PI:Nat->List Value->Env
 |_,[]=>[]
 |i,v::vs=>(i,v)::PI (i+1) vs
theorem abK:∀(vs:List Value) (i s:Nat) (v:Value),Env.get (PI i vs) s=some v->i<=s/\vs[s - i]? =some v:=by
 intro vs
 induction vs with
 |nil=>intro i s v h;simp[PI,Env.get] at h
 |cons u vs ih=>
  intro i s v h;simp only[PI,qj] at h;by_cases e:i=s
  ·subst e;simp at h;simp[h]
  ·rw[acZ e] at h;obtain⟨h1,h2⟩:=ih _ _ _ h;refine⟨by omega,?_⟩;obtain⟨m,hm⟩:∃m,s - i=m+1:=⟨s - i - 1,by omega⟩;rw[hm];have:s - (i+1)=m:=by omega
   rw[this] at h2;simpa using h2
section
variable {P:Program}
def resV (tmps:Array Value) (x:ResultVar):Sem Value:=
 match x with
 | .tmp t=>pure (tmps.getD t undef)
 | .cell b t=>do loadVar t (<- asAddr (tmps.getD b undef))
theorem acM {a:Act} {env:Env} {w:θ} (ha:Agr env a):∀(rs:List ResultVar) (φ:List Value->Prop),EH P rs env w φ->
  ∃vs,(rs.mapM (resV a.tmps)).run P w= .ok vs w/\φ vs:=by
 intro rs
 induction rs with
 |nil=>exact λφ h=>⟨[],by simp,h⟩
 |cons x rs ih=>
  intro φ h
  cases x with
  |tmp t=>
   simp only[EH] at h
   cases hg:env.get t with
   |none=>simp only[hg] at h
   |some v=>
    simp only[hg] at h;obtain⟨vs,hr,hφ⟩:=ih _ h;have:=ha t v hg;refine⟨v::vs,?_,hφ⟩;rw[List.mapM_cons];simp only[resV,Sem.run_bind,Sem.run_pure,Result.andThen_ok,al9,this,alO,hr]
  |cell b t=>
   simp only[EH] at h;split at h
   ·rename_i ad sh n hg hs hn
    cases hb:Nat.beq sh.cells n with
    |false=>rw[hb] at h;exact h.elim
    |true=>
     rw[hb] at h;obtain⟨v,hv,h⟩:=Ri (P:=P) hs hn (alW hb) h;obtain⟨vs,hr,hφ⟩:=ih _ h;have:=ha b _ hg;refine⟨v::vs,?_,hφ⟩;rw[List.mapM_cons];simp only[resV,Sem.run_bind,Sem.run_pure,Result.andThen_ok,al9,this,alO,asAddr,hv,hr]
   ·exact h.elim
theorem aa0 {fn:Func} {a:Act} {env:Env} {w:θ} (ha:Agr env a) {φ:List Value->Prop} (h:EH P fn.results.toList env w φ):
  ∃vs,(results fn a.tmps).run P w= .ok (ϐ vs) w/\φ vs:=by
 obtain⟨vs,hr,hφ⟩:=acM ha _ _ h;refine⟨vs,?_,hφ⟩;have e:results fn a.tmps=(do let vs<- fn.results.mapM (resV a.tmps);pure (if h:vs.size=1 then vs[0] else .tuple vs)):=rfl
 rw[e,Array.mapM_eq_mapM_toList];simp only[Sem.run_bind,Sem.run_map];rw[hr];simp only[Result.andThen_ok,Sem.run_pure];congr 1
 match vs with
 |[]=>rfl
 |[v]=>rfl
 |v::u::vs=>rfl
theorem YU {fn:Func} {a:Act} {env:Env} (ha:Agr env a) {R:Ending->b_} {φ:List Value->b_} (hR:∀vs w,φ vs w->R (.returned (ϐ vs)) w):
  ∀(ds:List Nat) (w:θ),wR ds w (λw'=>EH P fn.results.toList env w' λvs=>φ vs w')->LeavesInM (Fr none) 0 P fn a.tmps R (mkD ds) .returning w:=by
 intro ds
 induction ds with
 |nil=>
  intro w h;obtain⟨vs,hr,hφ⟩:=aa0 ha h;exact⟨_,hr,hR _ _ hφ⟩
 |cons D ds ih=>
  intro w h;obtain⟨h1,h2⟩:=h;exact⟨by simp,.inl ⟨D,_,rfl,run_takeDeferred h1,ih _ h2⟩⟩
theorem agd (hP:XR P) {f:FuncId} {fn:Func} {c:Code} {nt:Nat} (hf:P.funcs[f]? =some fn) (hb:fn.body=some c) (N:fn.ntmps=nt) {rs:List ResultVar} (O:fn.results=⟨rs⟩)
  (sh:List Shape) (Post:Tv (flat sh)) (an:Ann) (args:List Value) (hl:Nat.ble args.length nt=true) (w:θ) (h:den P nt c none an (PI 0 args) [] w (ak8 P rs sh Post)):
  Calls P f ⟨args⟩ w λe w'=>ϱ sh Post (λus=>e= .returned (ϐ us)) w':=by
 refine(callsIn_wide (n:=0)).1 ?_;refine callsIn_of_wp_marks (F:=Fr none) hf hb trivial ?_ rfl;have R:((⟨args⟩:Array Value)++Array.replicate (fn.ntmps - (⟨args⟩:Array Value).size) undef).size=nt:=by
  have:=Nat.le_of_ble_eq_true hl;simp[N];omega
 refine aef hP nt c none an _ [] w _ 0 _ (writes c) _ _ h ⟨λs v hs=> ?_,R,rfl,λ_ _=>rfl⟩ (λs hs=>hs) ?_
 ·obtain⟨_,h2⟩:=abK _ _ _ _ hs;have I:=(afg.1 h2).1;simp only[amg] at h2 I;show ((⟨args⟩:Array Value)++Array.replicate (fn.ntmps - (⟨args⟩:Array Value).size) undef)[s]? =some v;rw[anj (by simpa using I)];simpa using h2
 ·intro e env' ds' w' a' ha' _ hk;have J:∀w',wR ds' w' (λw'=>EH P rs env' w' λvs=>Uf sh vs Post w')->
    LeavesInM (Fr none) 0 P fn a'.tmps (λe w'=>ϱ sh Post (λus=>e= .returned (ϐ us)) w') a'.defers .returning w':=by
   intro w' hw';rw[ha'.defers];have u:fn.results.toList=rs:=by rw[O]
   rw[<- u] at hw';exact YU ha'.agr (φ:=λvs w'=>Uf sh vs Post w') (λvs w hd=>afR sh vs Post w hd (λus=>Ending.returned (ϐ vs)= .returned (ϐ us)) rfl) ds' w' hw'
  cases e with
  |normal=>exact J w' hk
  |ret=>exact J w' hk
  |_=>exact hk.elim
theorem XR.aj_ (h:(P.funcs.toList.all λfn=> !(fn.name=="runtime.NumGoroutine"))=true) (hm:P.follows .mixedOrders=true):XR P:=by
 refine⟨λf fn hf _=> ?_,hm⟩;rw[al5] at h;have:=h fn (als (by simpa using hf));simpa using this
end
def bs (l:List UInt8):ByteArray:=⟨⟨l⟩⟩
def Al (w:θ) (o:Obj) (K:Addr->b_):Prop:=K ⟨w.heap.size,0,none⟩ (w.alloc o)
end Gp
end
section
namespace Gp
open Go
def Row (w:θ) (b:Nat) (l:List Value):Prop:=∃T,w.heap[b]? =some (.cells ⟨l⟩ T (0,0))
structure ig (w w':θ) (S:Nat->Prop):Prop where
 size:w.heap.size<=w'.heap.size
 same:∀b,b<w.heap.size->¬S b->w'.heap[b]? =w.heap[b]?
 io:w'.os=w.os/\w'.tape=w.tape/\w'.output=w.output
theorem gY (b o n:Nat):(⟨b,o,none⟩:Addr).add n=⟨b,o+n,none⟩:=by
 unfold Addr.add;by_cases h:n=0
 ·simp[h]
 ·simp[h]
section
variable {w w' w1 w2:θ} {b b' i:Nat} {l l':List Value} {S S':Nat->Prop}
theorem Row.lt (h:Row w b l):b<w.heap.size:=by
 obtain⟨T,h⟩:=h;exact(akE.1 h).1
theorem Row.cell (h:Row w b l) (i:Nat):w.cell? ⟨b,i,none⟩=l[i]? :=by
 obtain⟨T,h⟩:=h;simp[World.cell?,h]
theorem Row.frozen (h:Row w b l) (i:Nat):w.frozen? ⟨b,i,none⟩=false:=by
 obtain⟨T,h⟩:=h;simp[World.frozen?,h]
theorem ig.refl (w:θ) (S:Nat->Prop):ig w w S:=⟨ajq _,λ_ _ _=>rfl,rfl,rfl,rfl⟩
theorem ig.trans (h:ig w w1 S) (h':ig w1 w2 S') (hs:∀b,b<w.heap.size->S' b->S b):ig w w2 S:=
 ⟨akK h.size h'.size,λb hb hn=>(h'.same b (alA hb h.size) λx=>hn (hs b hb x)).trans (h.same b hb hn),h'.io.1.trans h.io.1,h'.io.2.1.trans h.io.2.1,h'.io.2.2.trans h.io.2.2⟩
theorem ig.mono (h:ig w w1 S) (hs:∀b,S b->S' b):ig w w1 S':=⟨h.size,λb hb hn=>h.same b hb λx=>hn (hs b x),h.io⟩
theorem ig.drew (w:θ) (S:Nat->Prop):ig w w.drew S:=⟨ajq _,λ_ _ _=>rfl,rfl,rfl,rfl⟩
theorem ig.alloc (w:θ) (o:Obj) (S:Nat->Prop):ig w (w.alloc o) S:=
 ⟨by simp,λb hb _=>by simp[World.alloc,-World.alloc_eq,amU];omega,rfl,rfl,rfl⟩
theorem ig.set (w:θ) (a:Addr) (v:Value) (hs:S a.block):ig w (w.setCell a v) S:=by
 refine⟨by simp,λb hb hn=> ?_,rfl,rfl,rfl⟩;have:¬(a.block=b):=λe=>hn (e ▸ hs);simp[World.setCell,aly,this]
theorem Row.fr (h:Row w b l) (hf:ig w w' S) (hs:¬S b):Row w' b l:=by
 have hl:=h.lt;obtain⟨T,h⟩:=h;exact⟨T,(hf.same b hl hs).trans h⟩
theorem Row.drew (h:Row w b l):Row w.drew b l:=h
theorem Row.new (w:θ) (l:List Value) (T:TypeId):Row (w.alloc (.cells ⟨l⟩ T)) w.heap.size l:=⟨T,World.alloc_heap_new w _⟩
theorem Row.set (h:Row w b l) (i:Nat) (v:Value):Row (w.setCell ⟨b,i,none⟩ v) b (l.set i v):=by
 obtain⟨T,h⟩:=h;refine⟨T,?_⟩;simp only[World.setCell,aly,ajn,h,ahF];congr 2;simp[Array.setIfInBounds];intro hx;rw[List.set_eq_of_length_le hx]
theorem uQ {T:TypeId} {K:Addr->b_} (h:∀b w1,Row w1 b l->b=w.heap.size->w1.heap.size=b+1->(∀S,ig w w1 S)->K ⟨b,0,none⟩ w1):Al w (.cells ⟨l⟩ T) K:=
 h _ _ (Row.new w l T) rfl (by simp) (λS=>ig.alloc w _ S)
theorem Ik {e size bytes:Nat} {z:List Value} {n c:Int} {K:gG->b_} (h0:0<=n) (h1:n<=c) (h2:c<=2^62) (h3:(bytes:Int) * c<=2^48)
  (h:∀b w1,Row w1 b (iw z c.toNat)->b=w.heap.size->w1.heap.size=b+1->(∀S,ig w w1 S)->K ⟨some ⟨b,0,none⟩,n.toNat,c.toNat⟩ w1):Ϙ e size bytes z n c w K:=
 ⟨h0,h1,h2,h3,h _ _ (Row.new w _ e) rfl (by simp) (λS=>ig.alloc w _ S)⟩
theorem iC {v:Value} {K:b_} (hr:Row w b l) (h1:iP v=true) (hi:i<l.length)
  (h:∀w1,Row w1 b (l.set i v)->(∀S:Nat->Prop,S b->ig w w1 S)->w1.heap.size=w.heap.size->K w1):St w ⟨b,i,none⟩ v K:=
 ⟨h1,by rw[hr.cell];simp[hi],hr.frozen i,h _ (hr.set i v) (λS hs=>ig.set w _ v hs) (by simp)⟩
theorem Sz {K:b_}:∀(vs:List Value) (w:θ) (l:List Value) (o i:Nat),Row w b l->(∀v∈vs,iP v=true)->o+i+vs.length<=l.length->
  (∀w1,Row w1 b (l.take (o+i)++vs++l.drop (o+i+vs.length))->(∀S:Nat->Prop,S b->ig w w1 S)->w1.heap.size=w.heap.size->K w1)->iE vs w ⟨b,o,none⟩ i K:=by
 intro vs
 induction vs with
 |nil=>
  intro w l o i hr _ _ h;exact h w (by simpa using hr) (λS _=>ig.refl _ _) rfl
 |cons v vs ih=>
  intro w l o i hr hv hl h;simp only[ajg] at hl;show St w ((⟨b,o,none⟩:Addr).add i) v _;rw[gY];refine iC hr (hv v (amk ..)) (by omega) λw1 r1 f1 z1=> ?_;refine ih w1 _ o (i+1) r1 (λu hu=>hv u (alU _ hu)) (by rw[alP];omega) λw2 r2 f2 z2=> ?_;refine h w2 ?_ (λS hs=>(f1 S hs).trans (f2 S hs) λ_ _ e=>e) (by omega);have e1:(l.set (o+i) v).take (o+(i+1))=l.take (o+i)++[v]:=by
   rw[<- al8,akx (by simp;omega),List.take_set_of_le (by omega)];simp
  have e2:(l.set (o+i) v).drop (o+(i+1)+vs.length)=l.drop (o+i+(vs.length+1)):=by
   rw[List.drop_set_of_lt (by omega)];congr 1;omega
  rw[e1,e2] at r2;simpa using r2
theorem iF {k:Kind} {x:k.T} {K:k.T->Prop} (hr:Row w b l) (hv:l[i]? =some (k.enc x)) (h:K x):Ld k w ⟨b,i,none⟩ K:=⟨x,by rw[hr.cell];exact hv,h⟩
theorem tq {s:gG} {size:Nat} {i:Int} {o:Nat} {K:Addr->Prop} (hs:s.a=some ⟨b,o,none⟩) (h0:0<=i) (h1:i<(s.len:Int)) (h:K ⟨b,o+i.toNat * size,none⟩):iK s size i K:=
 ⟨_,hs,h0,h1,by rw[gY];exact h⟩
theorem g_ {S:Type} {body:S->θ->(S->b_)->Prop} {s:S} (I:S->b_) (μ:S->θ->Nat) (h0:I s w)
  (step:∀s w,I s w->∀next:S->b_,(∀s' w',I s' w'->μ s' w'<μ s w->next s' w')->body s w next):iQ body s w:=
 ⟨λn s w=>I s w/\n=μ s w,⟨_,h0,rfl⟩,λn s w hI=>step s w hI.1 _ λs' w' hI' h=>⟨_,by rw[hI.2];exact h,hI',rfl⟩⟩
end
theorem jh {α:Type} (f:α->List Value) (k:Nat) (hf:∀x,(f x).length=k) (xs:List α):(xs.flatMap f).length=xs.length * k:=by
 induction xs with
 |nil=>simp
 |cons x xs ih=>simp[hf,ih,alN];omega
theorem flat_get {α:Type} (f:α->List Value) (k:Nat) (hf:∀x,(f x).length=k):∀(xs:List α) (i j:Nat),j<k->(xs.flatMap f)[i * k+j]? =(xs[i]?).bind λx=>(f x)[j]? :=by
 intro xs
 induction xs with
 |nil=>intro i j _;simp
 |cons x xs ih=>
  intro i j hj;rw[alx]
  cases i with
  |zero=>rw[alT (by rw[hf];omega)];simp
  |succ i=>
   rw[alh (by rw[hf,alN];omega),hf];rw[show (i+1) * k+j - k=i * k+j by rw[alN];omega,ih i j hj];simp
theorem I5 {α:Type} (f:α->List Value) (k:Nat) (hf:∀x,(f x).length=k):∀(xs:List α) (i j:Nat) (x y:α) (v:Value),j<k->xs[i]? =some x->(f x).set j v=f y->
  (xs.flatMap f).set (i * k+j) v=(xs.set i y).flatMap f:=by
 intro xs
 induction xs with
 |nil=>intro i j x y v _ h;simp at h
 |cons z xs ih=>
  intro i j x y v hj hx hy
  cases i with
  |zero=>
   simp at hx;subst hx;simp only[alx,af5,aml,ahn];rw[List.set_append_left _ _ (by rw[hf];exact hj),hy]
  |succ i=>
   simp only[alx,ahm];rw[ami _ _ (by rw[hf,alN];omega),hf];rw[show (i+1) * k+j - k=i * k+j by rw[alN];omega];rw[ih i j x y v hj (by simpa using hx) hy]
theorem wrap_i64 {n:Int} (h1: -9223372036854775808<=n) (h2:n<=9223372036854775807):IntKind.i64.wrap n=n:=by
 rw[IntKind.wrap_i64];omega
def Ϗ (k:Kind):Option Value->(k.T->Prop)->Prop
 |some v,K=>k.dec v K
 |none,_=>False
theorem gK (k:IntKind) (n:Int) (K:Int->Prop):Kind.dec (.int k) (.int k n) K=K n:=by cases k<;>rfl
theorem jr (b:Bool) (K:Bool->Prop):Kind.dec .bool (.bool b) K=K b:=rfl
theorem SG (b:ByteArray) (K:ByteArray->Prop):Kind.dec .str (.string b) K=K b:=rfl
theorem pR (a:gu) (K:gu->Prop):Kind.dec .ptr (.pointer a) K=K a:=rfl
theorem h_ (a:gu) (l c:Nat) (K:gG->Prop):Kind.dec .slice (.slice a l c) K=K ⟨a,l,c⟩:=rfl
theorem Dy (r:Option Nat) (K:Option Nat->Prop):Kind.dec .map (.map r) K=K r:=rfl
theorem Kv (v:Value) (K:Value->Prop):Kind.dec .any v K=K v:=by cases v<;>rfl
theorem ϫ (k:Kind) (x:k.T) (K:k.T->Prop):k.dec (k.enc x) K=K x:=by
 cases k with
 |int k=>exact gK k x K
 |any=>exact Kv x K
 |_=>rfl
theorem XP (k:Kind) (w:θ) (a:Addr) (K:k.T->Prop):Ld k w a K↔Ϗ k (w.cell? a) K:=by
 constructor
 ·rintro⟨x,hx,h⟩;rw[hx];show k.dec (k.enc x) K;rw[ϫ];exact h
 ·intro h
  cases hc:w.cell? a with
  |none=>rw[hc] at h;exact h.elim
  |some v=>
   rw[hc] at h;obtain⟨x,hx,h⟩:=Kw h;exact⟨x,by rw[hc,hx],h⟩
theorem gJ (k:Kind) (v:Value) (K:k.T->Prop):Ϗ k (some v) K=k.dec v K:=rfl
theorem yg (a:Addr) (l c size:Nat) (i:Int) (K:Addr->Prop):iK ⟨some a,l,c⟩ size i K↔(0<=i/\i<(l:Int)/\K (a.add (i.toNat * size))):=by
 constructor
 ·rintro⟨a',h,h0,h1,h2⟩
  cases h
  exact⟨h0,h1,h2⟩
 ·rintro⟨h0,h1,h2⟩;exact⟨a,rfl,h0,h1,h2⟩
theorem xA {α:Type} (x:α) (P:α->Prop):(∃a,some x=some a/\P a)↔P x:=by
 constructor
 ·rintro⟨a,h,hp⟩;cases h;exact hp
 ·exact λh=>⟨x,rfl,h⟩
end Gp
end
section
namespace Gp
open Go Go.ChangeShapes Go.WideShapes
inductive jq
 |bool|int (k:IntKind)|str
 |slice (e:jq) (n:Nat)
 |agg (r:jq)
 |nil|cons (d:jq) (n:Nat) (r:jq)
 |arr (k:Nat) (d:jq) (n:Nat)
def jq.T:jq->Type
 | .bool=>Bool
 | .int _=>Int
 | .str=>ByteArray
 | .slice e _=>gG×List e.T
 | .agg r=>r.T
 | .nil=>Unit
 | .cons d _ r=>d.T×r.T
 | .arr _ d _=>List d.T
def jq.cells:(d:jq)->d.T->List Value
 | .bool,b=>[.bool b]
 | .int k,n=>[.int k n]
 | .str,s=>[.string s]
 | .slice _ _,x=>[.slice x.1.a x.1.len x.1.cap]
 | .agg r,x=>r.cells x
 | .nil,_=>[]
 | .cons d _ r,x=>d.cells x.1++r.cells x.2
 | .arr _ d _,xs=>xs.flatMap d.cells
def ahq {α:Type} (w:θ) (s:gG) (n:Nat) (f:α->List Value) (xs:List α):Prop:=
 s.len=xs.length/\s.len<=s.cap/\s.cap<=maxLen/\(xs≠[]->∃b o,s.a=some ⟨b,o,none⟩/\b<w.heap.size/\∀i x,xs[i]? =some x->(f x).length=n/\∀j v,(f x)[j]? =some v->w.cell? ⟨b,o+i * n+j,none⟩=some v)
def akz {α:Type} (k:Nat) (p:α->Prop) (xs:List α):Prop:=xs.length=k/\∀y∈xs,p y
def jq.In (w:θ):(d:jq)->d.T->Prop
 | .bool,_=>True
 | .int k,n=>(Lit.int k n).wf=true
 | .str,s=>s.size<=maxLen
 | .slice e n,x=>ahq w x.1 n e.cells x.2/\∀y∈x.2,e.In w y
 | .agg r,x=>r.In w x
 | .nil,_=>True
 | .cons d _ r,x=>d.In w x.1/\r.In w x.2
 | .arr k d _,xs=>akz k (λy:d.T=>d.In w y) xs
def jq.ok (P:Program):jq->Sum TypeId (Nat×Nat×List Field)->Bool
 | .bool,.inl t=>match P.underlying t with|some .bool=>true|_=>false
 | .int k,.inl t=>match P.underlying t with|some (.int k')=>decide (k'=k)|_=>false
 | .str,.inl t=>match P.underlying t with|some .string=>true|_=>false
 | .slice e n,.inl t=>match P.underlying t with|some (.slice e')=>Nat.beq (P.cellsOf e') n && Nat.blt 0 n && e.ok P (.inl e')|_=>false
 | .agg r,.inl t=>match P.underlying t with|some (.struct fs)=>r.ok P (.inr (0,P.cellsOf t,fs.toList))|_=>false
 | .arr k d n,.inl t=>match P.underlying t with|some (.array k' e')=>Nat.beq k' k && Nat.beq (P.cellsOf e') n && Nat.beq (P.cellsOf t) (k * n) && d.ok P (.inl e')|_=>false
 | .nil,.inr (o,n,[])=>Nat.beq o n
 | .cons d n r,.inr (o,m,f::fs)=>Nat.beq f.offset o && Nat.beq (P.cellsOf f.type) n && d.ok P (.inl f.type) && r.ok P (.inr (o+n,m,fs))
 |_,_=>false
theorem Yu {α:Type} {n:Nat} {p:Nat->α->Prop} (h:∀i,i<n->∃x,p i x):∃xs:List α,xs.length=n/\∀i x,xs[i]? =some x->p i x:=by
 induction n with
 |zero=>exact⟨[],rfl,λi x h=>by simp at h⟩
 |succ n ih=>
  obtain⟨xs,hl,hx⟩:=ih λi hi=>h i (by omega);obtain⟨y,hy⟩:=h n (by omega);refine⟨xs++[y],by simp[hl],λi x hi=> ?_⟩;by_cases hlt:i<n
  ·rw[alT (by omega)] at hi;exact hx i x hi
  ·have hlen:=(afg.1 hi).1;simp only[ahP,am8] at hlen;have:i=n:=by omega
   subst this;rw[alh (by omega)] at hi;simp[hl] at hi;exact hi ▸ hy
theorem ahQ {α:Type} (f:α->List Value) (n:Nat):∀(xs:List α) (cs:List Value),cs.length=xs.length * n->(∀i x,xs[i]? =some x->(cs.drop (i * n)).take n=f x)->cs=xs.flatMap f:=by
 intro xs
 induction xs with
 |nil=>intro cs hl _;simpa using hl
 |cons x xs ih=>
  intro cs hl h;have h0:=h 0 x rfl;simp at h0;have:=ih (cs.drop n) (by simp[hl,alN]) λi y hi=>by
   have:=h (i+1) y (by simpa using hi)
   rwa [alN,Nat.one_mul,Nat.add_comm,<- List.drop_drop] at this
  rw[alx,<- h0,<- this,aks]
section
variable {H:Type} {enc:TypeId×Value->H} {P:Program} {w:θ} {base:Nat} {sp:Nat->Bool} {held:Bool}
theorem beq_iff {a b:Nat}:Nat.beq a b=true↔a=b:=⟨alW,λh=>by subst h;simp⟩
theorem jq.open (d:jq):(∀(t:TypeId),d.ok P (.inl t)=true->∀(fuel:Nat) (cs:List Value) (x:DataW H×List MemPlace),DataW.trod enc P w base sp held fuel t cs=some x->∃v:d.T,cs=d.cells v/\d.In w v)/\
  (∀(o m:Nat) (fs:List Field),d.ok P (.inr (o,m,fs))=true->∀(fuel:Nat) (cs:List Value),cs.length=m->(∀f∈fs,∃x,DataW.trod enc P w base sp held fuel f.type ((cs.drop f.offset).take (P.cellsOf f.type))=some x)->∃v:d.T,cs.drop o=d.cells v/\d.In w v):=by
 induction d with
 |bool=>
  refine⟨λt ht fuel cs x h=> ?_,λo m fs h=>by simp[jq.ok] at h⟩;simp only[jq.ok] at ht;split at ht
  ·rename_i hu;obtain⟨b,rfl,_⟩:=DataW.trod_bool hu h;exact⟨b,rfl,trivial⟩
  ·cases ht
 |int k=>
  refine⟨λt ht fuel cs x h=> ?_,λo m fs h=>by simp[jq.ok] at h⟩;simp only[jq.ok] at ht;split at ht
  ·rename_i k' hu;have:=amV ht;subst this;obtain⟨n,rfl,_,hw⟩:=DataW.trod_int hu h;exact⟨n,rfl,hw⟩
  ·cases ht
 |str=>
  refine⟨λt ht fuel cs x h=> ?_,λo m fs h=>by simp[jq.ok] at h⟩;simp only[jq.ok] at ht;split at ht
  ·rename_i hu;obtain⟨b,rfl,_,hw⟩:=DataW.trod_string hu h;exact⟨b,rfl,hw⟩
  ·cases ht
 |slice e n ih=>
  refine⟨λt ht fuel cs x h=> ?_,λo m fs h=>by simp[jq.ok] at h⟩;simp only[jq.ok] at ht;split at ht
  case h_2=>cases ht
  rename_i e' hu;simp only[alg,beq_iff,amv] at ht;obtain⟨⟨hn,U⟩,he⟩:=ht;rcases Go.Deep.open_slice hu h with ⟨rfl,rfl⟩|⟨a,len,cap,m,g,D,Pl,rfl,hb,hl,hm,Z,rfl,hx⟩
  ·exact⟨(⟨none,0,0⟩,[]),rfl,⟨rfl,ajq _,by simp[maxLen],λh=>absurd rfl h⟩,λy hy=>by simp at hy⟩
  ·have hlm:len<=m:=by rw[Z];split<;>omega
   obtain⟨xs,R,N⟩:=Yu (n:=len) (p:=λi (v:e.T)=>(e.cells v).length=n/\(∀j,j<n->w.cell? (a.add (i * n+j))=(e.cells v)[j]?)/\e.In w v) λi hi=>by
    obtain⟨cs',h1,h2⟩:=hx i (by omega);obtain⟨_,hlen,I⟩:=World.cells?_some h1;obtain⟨v,rfl,hv⟩:=ih.1 e' he _ _ _ h2;rw[hn] at hlen I;exact⟨v,hlen,λj hj=>by rw[<- Go.Deep.add_add];exact I j hj,hv⟩
   refine⟨(⟨some a,len,cap⟩,xs),rfl,⟨by simp[R],hl,hm,λaa=> ?_⟩,λy hy=> ?_⟩
   ·obtain⟨b,o,spot⟩:=a;have hx0:∃x0,xs[0]? =some x0:=by cases xs with
     |nil=>exact absurd rfl aa
     |cons x _=>exact⟨x,rfl⟩
    obtain⟨x0,hx0⟩:=hx0;obtain⟨l0,c0,_⟩:=N 0 x0 hx0;have J:=c0 0 U;rw[adP (by omega)] at J;have hs:=World.cell?_spot J;have O:spot=none:=by simpa [Addr.add] using hs
    subst O;refine⟨b,o,rfl,?_,λi x hi=>⟨(N i x hi).1,λj v hj=> ?_⟩⟩
    ·simp only[aml,ahn] at J;rw[gY] at J;unfold World.cell? at J
     cases hb:w.heap[b]? with
     |none=>simp[hb] at J
     |some o=>exact(akE.1 hb).1
    ·have:=(N i x hi).2.1 j (by rw[<- (N i x hi).1];exact(afg.1 hj).1);rw[gY,hj] at this;rw[al8];exact this
   ·obtain⟨i,hi⟩:=amo hy;exact(N i y hi).2.2
 |agg r ih=>
  refine⟨λt ht fuel cs x h=> ?_,λo m fs h=>by simp[jq.ok] at h⟩;simp only[jq.ok] at ht;split at ht
  case h_2=>cases ht
  rename_i fs hu;obtain⟨xs,n,rfl,_,hl,R,hf⟩:=DataW.trod_struct hu h;obtain⟨v,hv,hi⟩:=ih.2 0 _ _ ht n cs hl λf hf'=>by
   obtain⟨i,hi⟩:=amo hf';have hi':fs[i]? =some f:=by simpa using hi
   have:=hf i f hi';have ab:i<xs.length:=by
    rw[R];exact(akE.1 hi').1
   rw[adP ab] at this;exact⟨_,this⟩
  exact⟨v,hv,hi⟩
 |nil=>
  refine⟨λt h=>by simp[jq.ok] at h,λo m fs h fuel cs hl hf=> ?_⟩
  cases fs with
  |nil=>
   simp only[jq.ok,beq_iff] at h;subst h;exact⟨(),by simp[jq.cells,hl],trivial⟩
  |cons f fs=>simp[jq.ok] at h
 |cons d n r ihd ihr=>
  refine⟨λt h=>by simp[jq.ok] at h,λo m fs h fuel cs hl hf=> ?_⟩
  cases fs with
  |nil=>simp[jq.ok] at h
  |cons f fs=>
   simp only[jq.ok,alg,beq_iff] at h;obtain⟨⟨⟨h1,h2⟩,h3⟩,h4⟩:=h;obtain⟨x,hx⟩:=hf f (amk ..);obtain⟨v,hv,ac⟩:=ihd.1 _ h3 _ _ _ hx;obtain⟨u,hu,ae⟩:=ihr.2 _ _ _ h4 fuel cs hl λg hg=>hf g (alU _ hg);refine⟨(v,u),?_,ac,ae⟩;rw[h1,h2] at hv;show cs.drop o=d.cells v++r.cells u;rw[<- hv,<- hu,<- List.drop_drop,aks]
 |arr k d n ih=>
  refine⟨λt ht fuel cs x h=> ?_,λo m fs h=>by simp[jq.ok] at h⟩;simp only[jq.ok] at ht;split at ht
  case h_2=>cases ht
  rename_i k' e' hu;simp only[alg,beq_iff] at ht;obtain⟨⟨⟨hk,hn⟩,hc⟩,he⟩:=ht;obtain⟨xs,g,rfl,_,hl,R,hf⟩:=DataW.trod_array hu h;obtain⟨vs,W,Y⟩:=Yu (n:=k) (p:=λi (v:d.T)=>(cs.drop (i * n)).take n=d.cells v/\d.In w v) λi hi=>by
   have:=hf i (by omega);rw[adP (by omega)] at this;rw[hn] at this;exact ih.1 _ he _ _ _ this
  refine⟨vs,?_,W,λy hy=> ?_⟩
  ·exact ahQ d.cells n vs cs (by rw[hl,hc,W]) λi x hi=>(Y i x hi).1
  ·obtain⟨i,hi⟩:=amo hy;exact(Y i y hi).2
def jq.value:(d:jq)->d.T->Value
 | .bool,b=> .bool b
 | .int k,n=> .int k n
 | .str,s=> .string s
 | .slice _ _,x=> .slice x.1.a x.1.len x.1.cap
 | .agg r,x=> .agg ⟨r.cells x⟩
 | .nil,_=> .agg #[]
 | .cons d n r,x=> .agg ⟨(jq.cons d n r).cells x⟩
 | .arr k d n,xs=> .agg ⟨(jq.arr k d n).cells xs⟩
theorem jq.arg (d:jq) {base0:Nat} {t:TypeId} {v:Value} {y:DataW H} {ps:List MemPlace} (ht:d.ok P (.inl t)=true) (u:Value.okWide P w .any base0 t v) (h:DataW.Trod enc P w base sp held t v y ps):∃x:d.T,v=d.value x/\d.In w x:=by
 obtain⟨fuel,h⟩:=h;obtain⟨x,hc,hi⟩:=d.open.1 t ht fuel _ _ h
 refine⟨x,?_,hi⟩;unfold Value.okWide at u
 cases d with
 |bool=>
  simp only[jq.ok] at ht;split at ht
  ·rename_i hu;simp only[hu,Cell.okWide] at u
   cases v<;>simp_all [Cell.ok,Value.cells,jq.cells,jq.value]
  ·cases ht
 |int k=>
  simp only[jq.ok] at ht;split at ht
  ·rename_i k' hu;simp only[hu,Cell.okWide] at u
   cases v<;>simp_all [Cell.ok,Value.cells,jq.cells,jq.value]
  ·cases ht
 |str=>
  simp only[jq.ok] at ht;split at ht
  ·rename_i hu;simp only[hu,Cell.okWide] at u
   cases v<;>simp_all [Cell.ok,Value.cells,jq.cells,jq.value]
  ·cases ht
 |slice e n=>
  simp only[jq.ok] at ht;split at ht
  ·rename_i k' hu;simp only[hu,Cell.okWide] at u
   cases v<;>simp_all [Cell.ok,Value.cells,jq.cells,jq.value]
  ·cases ht
 |agg r=>
  simp only[jq.ok] at ht;split at ht
  ·rename_i fs hu;simp only[hu] at u;obtain⟨cs,rfl,_⟩:=u;show Value.agg cs=Value.agg ⟨r.cells x⟩;rw[<- show cs.toList=r.cells x from hc]
  ·cases ht
 |arr k e n=>
  simp only[jq.ok] at ht;split at ht
  ·rename_i k' e' hu;simp only[hu] at u;obtain⟨cs,rfl,_⟩:=u;show Value.agg cs=Value.agg ⟨(jq.arr k e n).cells x⟩;rw[<- show cs.toList=(jq.arr k e n).cells x from hc]
  ·cases ht
 |nil=>simp[jq.ok] at ht
 |cons d n r=>simp[jq.ok] at ht
end
theorem afF {W w':θ} (h:∀S,ig W w' S):Go.RowKit.Below W.heap.size W w':=
 ⟨(h λ_=>False).io.1,(h λ_=>False).io.2.1,(h λ_=>False).io.2.2,(h λ_=>False).size,λk hk=>(h λ_=>False).same k hk (by simp)⟩
end Gp
end
section
namespace Gp
open Go
def Buf (w:θ) (s:gG) (vs:List Value):Prop:=
 s.len=vs.length/\((s.a=none/\vs=[]/\s.cap=0)\/∃b pad,s.a=some ⟨b,0,none⟩/\s.cap=vs.length+pad.length/\Row w b (vs++pad))
def gG.at (s:gG) (b:Nat):Prop:=∃o,s.a=some ⟨b,o,none⟩
theorem Buf.cells {w:θ} {s:gG} {vs:List Value} (h:Buf w s vs):oL w s.a s.len vs:=by
 obtain⟨hl,⟨ha,rfl,_⟩|⟨b,pad,ha,_,hr⟩⟩:=h
 ·rw[ha];rfl
 ·rw[ha];refine⟨hl.symm,λj hj=> ?_⟩;rw[gY,hr.cell,ahn,alT hj]
theorem Buf.fr {w w':θ} {s:gG} {vs:List Value} {S:Nat->Prop} (h:Buf w s vs) (hf:ig w w' S) (hs:∀b,gG.at s b->¬S b):Buf w' s vs:=by
 obtain⟨hl,⟨ha,h1,h2⟩|⟨b,pad,ha,hc,hr⟩⟩:=h
 ·exact⟨hl,.inl ⟨ha,h1,h2⟩⟩
 ·exact⟨hl,.inr ⟨b,pad,ha,hc,hr.fr hf (hs b ⟨0,ha⟩)⟩⟩
theorem xJ {b:Nat}:∀(vs:List Value) (w:θ) (l:List Value) (o i:Nat),Row w b l->o+i+vs.length<=l.length->
  Row (setCells w ⟨b,o,none⟩ vs i) b (l.take (o+i)++vs++l.drop (o+i+vs.length))/\∀S:Nat->Prop,S b->ig w (setCells w ⟨b,o,none⟩ vs i) S:=by
 intro vs
 induction vs with
 |nil=>intro w l o i hr _;exact⟨by simpa [setCells] using hr,λS _=>ig.refl _ _⟩
 |cons v vs ih=>
  intro w l o i hr hl;simp only[ajg] at hl;have r1:=hr.set (o+i) v;obtain⟨r2,f2⟩:=ih (w.setCell ⟨b,o+i,none⟩ v) _ o (i+1) r1 (by rw[alP];omega);have e1:(l.set (o+i) v).take (o+(i+1))=l.take (o+i)++[v]:=by
   rw[<- al8,akx (by simp;omega),List.take_set_of_le (by omega)];simp
  have e2:(l.set (o+i) v).drop (o+(i+1)+vs.length)=l.drop (o+i+(vs.length+1)):=by
   rw[List.drop_set_of_lt (by omega)];congr 1;omega
  rw[e1,e2] at r2;show Row (setCells (w.setCell ((⟨b,o,none⟩:Addr).add i) v) ⟨b,o,none⟩ vs (i+1)) b _/\∀S:Nat->Prop,S b->ig w (setCells (w.setCell ((⟨b,o,none⟩:Addr).add i) v) ⟨b,o,none⟩ vs (i+1)) S;rw[gY];exact⟨by simpa using r2,λS hs=>(ig.set w ⟨b,o+i,none⟩ v hs).trans (f2 S hs) λ_ _ e=>e⟩
theorem adQ {e:TypeId} {z:Value} {s:gG} {vs xs:List Value} {w:θ} {K:gG->b_} (h:Buf w s vs) (h1:∀v∈xs,iP v=true) (hl:vs.length+xs.length<=2^46)
  (hK:∀s' w',Buf w' s' (vs++xs)->(ig w w' (gG.at s))->(∀b,gG.at s' b->gG.at s b\/w.heap.size<=b)->(s'.a=none->vs++xs=[]/\s.a=none)->K s' w'):XO e 1 1 [z] s xs.length xs w K:=by
 obtain⟨hlen,hc⟩:=id h;by_cases u:s.len+xs.length<=s.cap
 ·rcases hc with ⟨ha,rfl,hc⟩|⟨b,pad,ha,hc,hr⟩
  ·simp at hlen;have:xs=[]:=by cases xs with
    |nil=>rfl
    |cons _ _=>simp at u;omega
   subst this;refine .inl ⟨u,λa ha'=>(by rw[ha] at ha';cases ha'),h1,?_⟩;rw[ha];exact hK _ _ ⟨by simp[hlen],.inl ⟨rfl,rfl,hc⟩⟩ (ig.refl _ _) (λb ⟨o,hb⟩=>by cases hb) λ_=>⟨rfl,ha⟩
  ·obtain⟨r2,f2⟩:=xJ xs w (vs++pad) s.len 0 hr (by simp;omega);refine .inl ⟨u,λa ha'=> ?_,h1,?_⟩
   ·rw[ha] at ha';cases ha';intro j hj;rw[gY,gY,hr.cell,hr.frozen];simp;omega
   ·rw[ha];simp only[gY,ahn,aiC];have e1:(vs++pad).take (s.len+0)=vs:=by rw[akC,hlen];simp
    have e2:((vs++pad).drop (s.len+0+xs.length)).length+xs.length=pad.length:=by simp;omega
    rw[e1] at r2;exact hK _ _ ⟨by simp[hlen],.inr ⟨b,_,rfl,by simp only[ahP];omega,r2⟩⟩ (f2 _ ⟨0,ha⟩) (λc ⟨o,hc'⟩=> .inl (by cases hc';exact⟨0,ha⟩)) (λhx=>by cases hx)
 ·refine .inr ⟨by omega,by omega,by omega,vs,?_,λc h1' h2'=> ?_⟩
  ·rw[aiC];exact h.cells
  ·refine hK _ _ ⟨by simp[hlen],.inr ⟨w.heap.size,iw [z] (c - (s.len+xs.length)),rfl,?_,by simpa using Row.new w.drew _ e⟩⟩ ((ig.drew w _).trans (ig.alloc w.drew _ _) λ_ _ e=>e) (λb ⟨o,hb⟩=> .inr (by cases hb;exact ajq _)) (λhx=>by cases hx);have:∀n,(iw [z] n).length=n:=λn=>by
    induction n with
    |zero=>rfl
    |succ n ih=>simp[iw,ih]
   rw[this];simp only[ahP];omega
abbrev Ext (w w':θ):Prop:=∀S:Nat->Prop,ig w w' S
theorem Ext.refl (w:θ):Ext w w:=λS=>ig.refl w S
theorem Ext.trans {w w1 w2:θ} (h:Ext w w1) (h':Ext w1 w2):Ext w w2:=λS=>(h S).trans (h' S) λ_ _ e=>e
theorem Ext.drew (w:θ):Ext w w.drew:=λS=>ig.drew w S
theorem Ext.fr {w w1 w2:θ} {S:Nat->Prop} (h:Ext w w1) (h':ig w1 w2 S):ig w w2 S:=(h S).trans h' λ_ _ e=>e
theorem ig.ext {w w1 w2:θ} {S:Nat->Prop} (h:ig w w1 S) (h':Ext w1 w2):ig w w2 S:=h.trans (h' S) λ_ _ e=>e
theorem ig.new {w w':θ} {S:Nat->Prop} (h:ig w w' S) (hs:∀b,b<w.heap.size->¬S b):Ext w w':=λ_=>⟨h.size,λb hb _=>h.same b hb (hs b hb),h.io⟩
theorem Ext.new {w w1 w2:θ} {S:Nat->Prop} (h:Ext w w1) (h':ig w1 w2 S) (hs:∀b,b<w.heap.size->¬S b):Ext w w2:=(h.fr h').new hs
theorem Ext.size {w w':θ} (h:Ext w w'):w.heap.size<=w'.heap.size:=(h λ_=>False).size
theorem Row.ext {w w':θ} {b:Nat} {l:List Value} (h:Row w b l) (hf:Ext w w'):Row w' b l:=h.fr (hf λ_=>False) (by simp)
theorem Buf.ext {w w':θ} {s:gG} {vs:List Value} (h:Buf w s vs) (hf:Ext w w'):Buf w' s vs:=h.fr (hf λ_=>False) (λ_ _=>by simp)
theorem ig.nG (w:θ) (b:Nat) (o:Obj):ig w (w.putObj b o) (·=b):=
 ⟨by simp[World.putObj],λc _ hn=>by simp[World.putObj,ama];intro e;exact absurd e.symm hn,rfl,rfl,rfl⟩
theorem gU {w:θ} {T:TypeId} {l:List Value} {K:Addr->b_} (h:∀b w1,Row w1 b l->b=w.heap.size->w1.heap.size=b+1->Ext w w1->K ⟨b,0,none⟩ w1):Al w (.cells ⟨l⟩ T) K:=uQ h
theorem gZ {w:θ} {b:Nat} {l:List Value} {vs:List Value} {K:b_} (hr:Row w b l) (hv:vs.all iP=true) (hl:vs.length=l.length)
  (h:∀w1,Row w1 b vs->(∀S:Nat->Prop,S b->ig w w1 S)->w1.heap.size=w.heap.size->K w1):iE vs w ⟨b,0,none⟩ 0 K:=by
 refine Sz vs w l 0 0 hr (λv h=>al5.1 hv v h) (by omega) λw1 r1 f1 z1=>h w1 ?_ f1 z1;have:List.drop vs.length l=[]:=by rw[hl];simp
 simpa [this] using r1
theorem StN_f {w:θ} {b:Nat} {l:List Value} {vs:List Value} {K:b_} (hr:Row w b l) (h:∀w1,Row w1 b vs->ig w w1 (·=b)->w1.heap.size=w.heap.size->K w1) (hv:vs.all iP=true:=by rfl) (hl:vs.length=l.length:=by rfl):iE vs w ⟨b,0,none⟩ 0 K:=
 gZ hr hv hl λw1 h1 h2 h3=>h w1 h1 (h2 _ rfl) h3
theorem Ld_i {w:θ} {b:Nat} {l:List Value} {K:Int->Prop} (i:Nat) (x:Int) (hr:Row w b l) (h:K x) (hv:l[i]? =some (.int .i64 x):=by rfl):Ld ν w ⟨b,i,none⟩ K:=iF (k:= .int .i64) hr hv h
theorem Ld_s {w:θ} {b:Nat} {l:List Value} {K:gG->Prop} (i:Nat) (x:gG) (hr:Row w b l) (h:K x) (hv:l[i]? =some (.slice x.a x.len x.cap):=by rfl):Ld .slice w ⟨b,i,none⟩ K:=iF (k:= .slice) hr hv h
theorem Ld_b {w:θ} {b:Nat} {l:List Value} {K:Bool->Prop} (i:Nat) (x:Bool) (hr:Row w b l) (h:K x) (hv:l[i]? =some (.bool x):=by rfl):Ld .bool w ⟨b,i,none⟩ K:=iF (k:= .bool) hr hv h
theorem Ext.nw {w w1 w2:θ} {b:Nat} (h:Ext w w1) (h':ig w1 w2 (·=b)) (hs:w.heap.size<=b:=by omega):Ext w w2:=h.new h' λy hy e=>by subst e;omega
theorem YI (w:θ) (a:Addr) (i:Nat) (K:b_):iE [] w a i K=K w:=rfl
theorem D5 {w:θ} {T:TypeId} {z vs:List Value} {K:Addr->b_} (hv:vs.all iP=true) (hl:vs.length=z.length)
  (h:∀b w1,Row w1 b vs->b=w.heap.size->w1.heap.size=b+1->Ext w w1->K ⟨b,0,none⟩ w1):Al w (.cells ⟨z⟩ T) λa w1=>iE vs w1 a 0 λw2=>K a w2:=by
 refine gU λb w1 r1 e1 z1 f1=>gZ r1 hv hl λw2 r2 f2 z2=>h b w2 r2 e1 (by omega) (f1.new (f2 (·=b) rfl) λx hx e=>by omega)
theorem block_add (a:Addr) (j:Nat):(a.add j).block=a.block:=by unfold Addr.add;split<;>rfl
theorem cell_lt {w:θ} {a:Addr} {v:Value} (h:w.cell? a=some v):a.block<w.heap.size:=by
 unfold World.cell? at h
 cases hh:w.heap[a.block]? with
 |none=>simp[hh] at h
 |some o=>exact(akE.1 hh).1
theorem Gu {w w':θ} {a:Addr} {v:Value} {S:Nat->Prop} (h:w.cell? a=some v) (hf:ig w w' S) (hs:¬S a.block):w'.cell? a=some v:=by
 have:=hf.same a.block (cell_lt h) hs;rw[<- h];simp only[World.cell?,this]
theorem kS {w w':θ} {a:Addr} {v:Value} (h:w.cell? a=some v) (hf:Ext w w'):w'.cell? a=some v:=Gu h (hf λ_=>False) (by simp)
theorem ig.iZ (W:θ) (l:Nat) (st:LoopState) (p:Option Code):ig W (Gp.iZ W l st p) (·=l):=
 ⟨by simp[Gp.iZ],λb _ hn=>by simp[Gp.iZ,aly];omega,rfl,rfl,rfl⟩
theorem ig.gQ (W:θ) (l:Nat):ig W (Gp.gQ W l) (·=l):=
 ⟨by simp[Gp.gQ],λb _ hn=>by simp[Gp.gQ,aly];omega,rfl,rfl,rfl⟩
def Sv (P:Program) (ks:List Shape) (v:Value) (C:Nat->b_) (xs:List (zZ ks)):Prop:=
 match v with
 | .func (.func f) first cap=>o9 P f=true/\∀(l:Nat) (Q:Nat->b_) (D:b_),
   (∀i W,Q i W->C i W)->(∀i W W',Q i W->Ext W W'->Q i W')->(∀W W',D W->Ext W W'->D W')->
   (∀i x W (K:Bool->b_),xs[i]? =some x->Q i W->(∀W',Q (i+1) W'->K true W')->(∀W',D W'->K false W')->ML P l (encR ks x) W K)->
   ∀w,Q 0 w->Ii P [] f (first.toList++(Value.func (.yield l) #[] #[]::cap.toList)) w λ_ w'=>Q xs.length w'\/D w'
 |_=>False
abbrev qE (P:Program) (ks:List Shape) (v:Value) (C:b_) (xs:List (zZ ks)):Prop:=Sv P ks v (λ_=>C) xs
theorem kP {P:Program} {l:Nat} {sh:List Shape} {args:List Value} {w:θ} {K:Value->b_} (h:ML P l args w λb w'=>K (.bool b) w'):jF P sh (.func (.yield l) #[] #[]) args w K:=h
def lM (r:Option Nat) (w:θ):Nat:=if r.isNone then w.heap.size+1 else w.heap.size
def Mark (r:Option Nat) (w W:θ):Prop:=r=none->W.heap[w.heap.size]? =some (.deferred (some []))
theorem vU {P:Program} {r:Option Nat} {ks:List Shape} {v:Value} {C:Nat->b_} {xs:List (zZ ks)} {w:θ} {body:Nat->zZ ks->θ->(Exit->b_)->Prop} {Kn Kr:b_} {Kx:List (Nat×(b_))}
  (hv:Sv P ks v C xs) (I:Nat->b_) (J:Exit->b_) (hr:∀l₀,r=some l₀->∃lp,w.heap[l₀]? =some (.loop lp))
  (h0:∀w1,Ext w w1->w1.heap.size=lM r w+1->I 0 w1)
  (hC:∀i W,I i W->C i W)
  (stI:∀i W W',I i W->ig W W' (·=lM r w)->I i W')
  (stJ:∀e W W',J e W->ig W W' (·=lM r w)->J e W')
  (jmp:∀e W,J e W->e= .ret\/∃id,e= .exit id)
  (step:∀i x W Kb,xs[i]? =some x->I i W->lM r w<W.heap.size->(∀W' S,ig (gQ W (lM r w)) W' S->(∀b,w.heap.size<=b->b<=lM r w->¬S b)->I (i+1) W'->Kb .normal W')->
   (∀e W' S,ig (gQ W (lM r w)) W' S->(∀b,w.heap.size<=b->b<=lM r w->¬S b)->J e W'->Kb e W')->body (lM r w) x W Kb)
  (fn:∀W,I xs.length W->Mark r w W->Kn W) (fr:∀W,J .ret W->Mark r w W->Kr W) (fx:∀id W,J (.exit id) W->Mark r w W->Uw id Kx W):
  xO P r ks v w body Kn Kr Kx:=by
 unfold xO;refine⟨hr,?_⟩;unfold Sv at hv;split at hv
 ·rename_i f first cap
  obtain⟨hb,hv⟩:=hv;refine⟨hb,λl L w1 ctx=> ?_⟩;have hl:l=lM r w:=ctx.at_;subst hl;have N:w.heap.size<=lM r w:=by unfold lM;split<;>omega
  have mext:∀W W',Mark r w W->lM r w<W.heap.size->Ext W W'->Mark r w W':=λW W' hm R he hn=>by
   rw[(he λ_=>False).same _ (by omega) (by simp)];exact hm hn
  have mset:∀W st p,Mark r w W->Mark r w (iZ W (lM r w) st p):=λW st p hm hn=>by
   have:¬(lM r w=w.heap.size):=by unfold lM;rw[hn];simp
   rw[show (iZ W (lM r w) st p).heap[w.heap.size]? =W.heap[w.heap.size]? by simp[iZ,aly,this]];exact hm hn
  have mbody:∀W W' S,Mark r w W->lM r w<W.heap.size->ig (gQ W (lM r w)) W' S->(∀b,w.heap.size<=b->b<=lM r w->¬S b)->Mark r w W':=λW W' S hm R hf hs hn=>by
   have:¬(lM r w=w.heap.size):=by unfold lM;rw[hn];simp
   rw[hf.same _ (by simp[gQ];omega) (hs _ (ajq _) N)];rw[show (gQ W (lM r w)).heap[w.heap.size]? =W.heap[w.heap.size]? by simp[gQ,aly,this]];exact hm hn
  have llt:∀st p W,L st p W->lM r w<W.heap.size:=λst p W hL=>by
   obtain⟨lp,h⟩:=ctx.isLoop st p W hL;exact(akE.1 h).1
  have lext:∀st p W W',L st p W->Ext W W'->L st p W':=λst p W W' hL he=>
   ctx.frame st p W W' hL ((he λ_=>False).same _ (llt st p W hL) (by simp))
  refine Calls.mono (hv (lM r w) (λi W=>I i W/\L .ready none W/\Mark r w W) (λW=>∃e p,J e W/\Cc e=some p/\p≠none/\L .done p W/\Mark r w W)
   (λi W h=>hC i W h.1) (λi W W' h he=>⟨stI i W W' h.1 (he _),lext _ _ _ _ h.2.1 he,mext _ _ h.2.2 (llt _ _ _ h.2.1) he⟩)
   (λW W' ⟨e,p,h1,h2,h3,h4,h5⟩ he=>⟨e,p,stJ e W W' h1 (he _),h2,h3,lext _ _ _ _ h4 he,mext _ _ h5 (llt _ _ _ h4) he⟩) ?_ w1 ?_) ?_
  ·intro i x W K hx ⟨hI,hL,hm⟩ ht hf;refine ctx.yield x W none K hL (step i x W _ hx hI (llt _ _ _ hL) ?_ ?_)
   ·intro W' S u hs hI';have hL':L .busy none W':=ctx.frame _ _ _ _ (ctx.busy _ _ hL) (u.same _ (by simpa [gQ] using llt _ _ _ hL) (hs _ N (ajq _)));exact⟨hL',none,rfl,ht _ ⟨stI _ _ _ hI' (ig.iZ _ _ _ _),ctx.set _ _ _ _ _ hL',mset _ _ _ (mbody W W' S hm (llt _ _ _ hL) u hs)⟩⟩
   ·intro e W' S u hs hJ;have hL':L .busy none W':=ctx.frame _ _ _ _ (ctx.busy _ _ hL) (u.same _ (by simpa [gQ] using llt _ _ _ hL) (hs _ N (ajq _)));have O:=mset W' .done;rcases jmp _ _ hJ with rfl|⟨id,rfl⟩
    ·exact⟨hL',some .ret,rfl,hf _ ⟨.ret,some .ret,stJ _ _ _ hJ (ig.iZ _ _ _ _),rfl,by simp,ctx.set _ _ _ _ _ hL',O _ (mbody W W' S hm (llt _ _ _ hL) u hs)⟩⟩
    ·exact⟨hL',some (.exit id),rfl,hf _ ⟨.exit id,some (.exit id),stJ _ _ _ hJ (ig.iZ _ _ _ _),rfl,by simp,ctx.set _ _ _ _ _ hL',O _ (mbody W W' S hm (llt _ _ _ hL) u hs)⟩⟩
  ·exact⟨h0 w1 (λS=>⟨by have:=ctx.size;omega,λb hb _=>ctx.old b hb,ctx.io⟩) ctx.size,ctx.ready,ctx.marks⟩
  ·rintro e w2 ⟨he,h⟩;refine⟨he,?_⟩;rcases h with ⟨hI,hL,hm⟩|⟨e',p,hJ,hj,hp,hL,hm⟩
   ·exact⟨.ready,none,hL,by simp,fn _ (stI _ _ _ hI (ig.iZ _ _ _ _)) (mset _ _ _ hm)⟩
   ·refine⟨.done,p,hL,by simp,?_⟩;have hJ':=stJ _ _ _ hJ (ig.iZ w2 (lM r w) .exhausted p);have hm':=mset w2 .exhausted p hm;rcases jmp _ _ hJ with rfl|⟨id,rfl⟩
    ·simp only[Cc,aho] at hj;subst hj;exact fr _ hJ' hm'
    ·simp only[Cc,aho] at hj;subst hj;exact fx _ _ hJ' hm'
 ·exact hv.elim
def N9 (P:Program) (ks:List Shape) (v:Value) (C:b_) (xs:List (zZ ks)):Prop:=
 match v with
 | .func (.func f) first cap=>o9 P f=true/\∀(l:Nat) (w:θ) (Q:Nat->b_) (D:b_),
   (∀i W,Q i W->C W)->(∀i W W',Q i W->ig W W' (w.heap.size<=·)->Q i W')->(∀W W',D W->ig W W' (w.heap.size<=·)->D W')->
   (∀i x W (K:Bool->b_),xs[i]? =some x->Q i W->(∀W',Q (i+1) W'->ig W W' (·<w.heap.size)->K true W')->(∀W',D W'->ig W W' (·<w.heap.size)->K false W')->ML P l (encR ks x) W K)->
   Q 0 w->Ii P [] f (first.toList++(Value.func (.yield l) #[] #[]::cap.toList)) w λ_ w'=>Q xs.length w'\/D w'
 |_=>False
theorem Yy {P:Program} {r:Option Nat} {ks:List Shape} {v:Value} {C:b_} {xs:List (zZ ks)} {w:θ} {body:Nat->zZ ks->θ->(Exit->b_)->Prop} {Kn Kr:b_} {Kx:List (Nat×(b_))}
  (hv:N9 P ks v C xs) (I:Nat->b_) (J:Exit->b_) (hr:∀l₀,r=some l₀->∃lp,w.heap[l₀]? =some (.loop lp))
  (h0:∀w1,Ext w w1->w1.heap.size=lM r w+1->I 0 w1)
  (hC:∀i W,I i W->C W)
  (stI:∀i W W',I i W->ig W W' (lM r w<=·)->I i W')
  (stJ:∀e W W',J e W->ig W W' (lM r w<=·)->J e W')
  (jmp:∀e W,J e W->e= .ret\/∃id,e= .exit id)
  (step:∀i x W Kb,xs[i]? =some x->I i W->lM r w<W.heap.size->(∀W' S,ig (gQ W (lM r w)) W' S->(∀b,S b->b<w.heap.size)->I (i+1) W'->Kb .normal W')->
   (∀e W' S,ig (gQ W (lM r w)) W' S->(∀b,S b->b<w.heap.size)->J e W'->Kb e W')->body (lM r w) x W Kb)
  (fn:∀W,I xs.length W->Mark r w W->Kn W) (fr:∀W,J .ret W->Mark r w W->Kr W) (fx:∀id W,J (.exit id) W->Mark r w W->Uw id Kx W):
  xO P r ks v w body Kn Kr Kx:=by
 unfold xO;refine⟨hr,?_⟩;unfold N9 at hv;split at hv
 ·rename_i f first cap
  obtain⟨hb,hv⟩:=hv;refine⟨hb,λl L w1 ctx=> ?_⟩;have hl:l=lM r w:=ctx.at_;subst hl;have N:w.heap.size<=lM r w:=by unfold lM;split<;>omega
  have hz0:=ctx.size;have up:∀{W W'},ig W W' (w1.heap.size<=·)->ig W W' (lM r w<=·):=λhe=>he.mono λb h=>by omega
  have ls:∀W st p,ig W (iZ W (lM r w) st p) (lM r w<=·):=λW st p=>(ig.iZ W _ st p).mono λb h=>by omega
  have mext:∀W W',Mark r w W->lM r w<W.heap.size->ig W W' (w1.heap.size<=·)->Mark r w W':=λW W' hm R he hn=>by
   rw[he.same _ (by omega) (by omega)];exact hm hn
  have mset:∀W st p,Mark r w W->Mark r w (iZ W (lM r w) st p):=λW st p hm hn=>by
   have:¬(lM r w=w.heap.size):=by unfold lM;rw[hn];simp
   rw[show (iZ W (lM r w) st p).heap[w.heap.size]? =W.heap[w.heap.size]? by simp[iZ,aly,this]];exact hm hn
  have mbody:∀W W' S,Mark r w W->lM r w<W.heap.size->ig (gQ W (lM r w)) W' S->(∀b,w.heap.size<=b->b<=lM r w->¬S b)->Mark r w W':=λW W' S hm R hf hs hn=>by
   have:¬(lM r w=w.heap.size):=by unfold lM;rw[hn];simp
   rw[hf.same _ (by simp[gQ];omega) (hs _ (ajq _) N)];rw[show (gQ W (lM r w)).heap[w.heap.size]? =W.heap[w.heap.size]? by simp[gQ,aly,this]];exact hm hn
  have llt:∀st p W,L st p W->lM r w<W.heap.size:=λst p W hL=>by
   obtain⟨lp,h⟩:=ctx.isLoop st p W hL;exact(akE.1 h).1
  have lext:∀st p W W',L st p W->ig W W' (w1.heap.size<=·)->L st p W':=λst p W W' hL he=>
   ctx.frame st p W W' hL (he.same _ (llt st p W hL) (by omega))
  refine Calls.mono (hv (lM r w) w1 (λi W=>I i W/\L .ready none W/\Mark r w W) (λW=>∃e p,J e W/\Cc e=some p/\p≠none/\L .done p W/\Mark r w W)
   (λi W h=>hC i W h.1) (λi W W' h he=>⟨stI i W W' h.1 (up he),lext _ _ _ _ h.2.1 he,mext _ _ h.2.2 (llt _ _ _ h.2.1) he⟩)
   (λW W' ⟨e,p,h1,h2,h3,h4,h5⟩ he=>⟨e,p,stJ e W W' h1 (up he),h2,h3,lext _ _ _ _ h4 he,mext _ _ h5 (llt _ _ _ h4) he⟩) ?_ ?_) ?_
  ·intro i x W K hx ⟨hI,hL,hm⟩ ht hf;have hz1:=ctx.size;have frm:∀W' S st p,ig (gQ W (lM r w)) W' S->(∀b,S b->b<w.heap.size)->ig W (iZ W' (lM r w) st p) (·<w1.heap.size):=λW' S st p u hS=>
    ((((ig.gQ W (lM r w)).mono (S':=(·<w1.heap.size)) λb e=>by subst e;omega).trans (u.mono (S':=(·<w1.heap.size)) λb e=>by have:=hS b e;omega) λ_ _ e=>e).trans ((ig.iZ W' (lM r w) st p).mono (S':=(·<w1.heap.size)) λb e=>by subst e;omega) λ_ _ e=>e)
   refine ctx.yield x W none K hL (step i x W _ hx hI (llt _ _ _ hL) ?_ ?_)
   ·intro W' S u hS hI';have hs:∀b,w.heap.size<=b->b<=lM r w->¬S b:=λb h1 _ h3=>by have:=hS b h3;omega
    have hL':L .busy none W':=ctx.frame _ _ _ _ (ctx.busy _ _ hL) (u.same _ (by simpa [gQ] using llt _ _ _ hL) (hs _ N (ajq _)));exact⟨hL',none,rfl,ht _ ⟨stI _ _ _ hI' (ls _ _ _),ctx.set _ _ _ _ _ hL',mset _ _ _ (mbody W W' S hm (llt _ _ _ hL) u hs)⟩ (frm W' S _ _ u hS)⟩
   ·intro e W' S u hS hJ;have hs:∀b,w.heap.size<=b->b<=lM r w->¬S b:=λb h1 _ h3=>by have:=hS b h3;omega
    have hL':L .busy none W':=ctx.frame _ _ _ _ (ctx.busy _ _ hL) (u.same _ (by simpa [gQ] using llt _ _ _ hL) (hs _ N (ajq _)));have O:=mset W' .done;rcases jmp _ _ hJ with rfl|⟨id,rfl⟩
    ·exact⟨hL',some .ret,rfl,hf _ ⟨.ret,some .ret,stJ _ _ _ hJ (ls _ _ _),rfl,by simp,ctx.set _ _ _ _ _ hL',O _ (mbody W W' S hm (llt _ _ _ hL) u hs)⟩ (frm W' S _ _ u hS)⟩
    ·exact⟨hL',some (.exit id),rfl,hf _ ⟨.exit id,some (.exit id),stJ _ _ _ hJ (ls _ _ _),rfl,by simp,ctx.set _ _ _ _ _ hL',O _ (mbody W W' S hm (llt _ _ _ hL) u hs)⟩ (frm W' S _ _ u hS)⟩
  ·exact⟨h0 w1 (λS=>⟨by have:=ctx.size;omega,λb hb _=>ctx.old b hb,ctx.io⟩) ctx.size,ctx.ready,ctx.marks⟩
  ·rintro e w2 ⟨he,h⟩;refine⟨he,?_⟩;rcases h with ⟨hI,hL,hm⟩|⟨e',p,hJ,hj,hp,hL,hm⟩
   ·exact⟨.ready,none,hL,by simp,fn _ (stI _ _ _ hI (ls _ _ _)) (mset _ _ _ hm)⟩
   ·refine⟨.done,p,hL,by simp,?_⟩;have hJ':=stJ _ _ _ hJ (ls w2 .exhausted p);have hm':=mset w2 .exhausted p hm;rcases jmp _ _ hJ with rfl|⟨id,rfl⟩
    ·simp only[Cc,aho] at hj;subst hj;exact fr _ hJ' hm'
    ·simp only[Cc,aho] at hj;subst hj;exact fx _ _ hJ' hm'
 ·exact hv.elim
end Gp
end
