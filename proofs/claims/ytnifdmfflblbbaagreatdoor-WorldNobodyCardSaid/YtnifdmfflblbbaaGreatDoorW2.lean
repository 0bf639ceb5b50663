import Derived.Test.YtnifdmfflblbbaaGreatDoorW1
import Derived.Scope
import Derived.ProofKit
import Derived.OpenShut
import Derived.ChangeOld
import Derived.Below
import Derived.Deep.Slices
import Derived.Test.YtnifdmfflblbbaaGreatDoorRows
import GoSem.ClaimGoes
import Derived.KernelRfl
section
namespace Gp
open Go
def writes:Code->List Nat
 | .region _ ops _=>oC ops.toList
 | .seq a b=>writes a++writes b
 | .cond _ a b=>writes a++writes b
 | .block _ a=>writes a
 | .loop a=>writes a
 | .scope a=>writes a
 |_=>[]
def bg:Code->Bool
 | .seq a b=>bg a||bg b
 | .cond _ a b=>bg a||bg b
 | .block _ a=>bg a
 | .loop a=>bg a
 | .scope a=>bg a
 | .rangeFunc _ _ _ _=>true
 |_=>false
@[reducible] def oJ:List (Nat×Kind)->Type
 |[]=>Unit
 |(_,k)::r=>k.T×oJ r
def encS:(st:List (Nat×Kind))->oJ st->Env
 |[],_=>[]
 |(s,k)::r,x=>(s,k.enc x.1)::encS r x.2
def uK:(st:List (Nat×Kind))->Env->(oJ st->Prop)->Prop
 |[],_,φ=>φ ()
 |(s,k)::r,env,φ=>match env.get s with
  |some v=>k.dec v fun x=>uK r env fun y=>φ (x,y)
  |none=>False
def without (ws:List Nat):Env->Env
 |[]=>[]
 |(s,v)::r=>cond (gK s ws) (without ws r) ((s,v)::without ws r)
def IC {S:Type} (body:S->World->(S->World->Prop)->Prop) (s:S) (w:World):Prop:=
 ∃I:Nat->S->World->Prop,(∃n,I n s w)/\∀n s w,I n s w->body s w fun s' w'=>∃m,m<n/\I m s' w'
@[reducible] def Aq:List Kind->Type
 |[]=>Unit
 |k::r=>k.T×Aq r
def DY:(ks:List Kind)->Aq ks->List Value
 |[],_=>[]
 |k::r,x=>k.enc x.1::DY r x.2
def oQ:List Nat->List Value->Env
 |[],_=>[]
 |_::_,[]=>[]
 |s::r,v::vs=>(s,v)::oQ r vs
@[reducible] def ShT:Shape->Type
 | .one k=>k.T
 | .agg ks=>Aq ks
def BL:(s:Shape)->ShT s->Value
 | .one k,x=>k.enc x
 | .agg ks,x=> .agg ⟨DY ks x⟩
@[reducible] def uS:List Shape->Type
 |[]=>Unit
 |s::r=>ShT s×uS r
def encR:(ks:List Shape)->uS ks->List Value
 |[],_=>[]
 |s::r,x=>BL s x.1::encR r x.2
inductive Gg where
 |sh (s:Shape)
 |addr
 |bJ (ks:List Kind)
@[reducible] def JT:Gg->Type
 | .sh s=>ShT s
 | .addr=>Addr
 | .bJ ks=>Aq ks
def Bc:(s:Gg)->JT s->Value
 | .sh s,x=>BL s x
 | .addr,a=> .pointer (some a)
 | .bJ ks,x=> .tuple ⟨DY ks x⟩
def Ey:(ks:List Kind)->List Value->(Aq ks->Prop)->Prop
 |[],[],φ=>φ ()
 |k::r,v::vs,φ=>k.dec v fun x=>Ey r vs fun y=>φ (x,y)
 |_,_,_=>False
def KY:(s:Gg)->Value->(JT s->Prop)->Prop
 | .sh (.one k),v,φ=>k.dec v φ
 | .sh (.agg ks),.agg cs,φ=>Ey ks cs.toList φ
 | .addr,.pointer (some a),φ=>φ a
 | .bJ ks,.tuple cs,φ=>Ey ks cs.toList φ
 |_,_,_=>False
@[reducible] def CW:List (Nat×Gg)->Type
 |[]=>Unit
 |(_,s)::r=>JT s×CW r
def Dt:(st:List (Nat×Gg))->CW st->Env
 |[],_=>[]
 |(t,s)::r,x=>(t,Bc s x.1)::Dt r x.2
def Et:(st:List (Nat×Gg))->Env->(CW st->Prop)->Prop
 |[],_,φ=>φ ()
 |(t,s)::r,env,φ=>match env.get t with
  |some v=>KY s v fun x=>Et r env fun y=>φ (x,y)
  |none=>False
def vw {S:Type} (body:S->Prop) (k:(S->Prop)->Prop):Prop:=k body
theorem vw.of {S:Type} {body:S->Prop} {k:(S->Prop)->Prop} (h:∀J:S->Prop,(∀s,body s->J s)->k J):vw body k:=h body fun _ h=>h
inductive jO where
 |leaf
 |seq (a b:jO)
 |join (st:List (Nat×Gg)) (a b:jO)
 |cond (a b:jO)
 |blk (a:jO)
 |loop (st:List (Nat×Kind)) (a:jO)
 |rng (ks:List Shape) (a b:jO)
def bn (w:World) (l:Nat) (st:LoopState) (p:Option Code):World:=
 {w with heap:=w.heap.modify l fun| .loop lp=> .loop {lp with state:=st,pending:=p}|o=>o}
def gQ (w:World) (l:Nat):World:=
 {w with heap:=w.heap.modify l fun| .loop lp=> .loop {lp with state:= .busy}|o=>o}
def gu:Exit->Bool
 | .normal=>true
 |_=>false
def pV:Exit->Option (Option Code)
 | .normal=>some none
 | .ret=>some (some .ret)
 | .exit id=>some (some (.exit id))
 |_=>none
structure IV (P:Program) (r:Option Nat) (w:World) (ks:List Shape) (bodyS:Nat->uS ks->World->(Exit->World->Prop)->Prop)
  (l:Nat) (L:LoopState->Option Code->World->Prop) (w1:World):Prop where
 at_:l=if r.isNone then w.heap.size+1 else w.heap.size
 size:w1.heap.size=l+1
 old:∀b,b<w.heap.size->w1.heap[b]? =w.heap[b]?
 io:w1.os=w.os/\w1.tape=w.tape/\w1.output=w.output
 marks:r=none->w1.heap[w.heap.size]? =some (.deferred (some []))
 ready:L .ready none w1
 frame:∀st p W W',L st p W->W'.heap[l]? =W.heap[l]? ->L st p W'
 set:∀st p st' p' W,L st p W->L st' p' (bn W l st' p')
 busy:∀p W,L .ready p W->L .busy p (gQ W l)
 isLoop:∀st p W,L st p W->∃lp,W.heap[l]? =some (.loop lp)
 yield:∀(x:uS ks) (W:World) (p:Option Code) (R:Bool->World->Prop),L .ready p W->
  bodyS l x W (fun e W'=>L .busy p W'/\∃j,pV e=some j/\R (gu e) (bn W' l (if gu e then .ready else .done) j))->nZ P l (encR ks x) W R
def dJ:Code->List Nat
 | .exit id=>[id]
 | .seq a b=>dJ a++dJ b
 | .cond _ a b=>dJ a++dJ b
 | .block _ a=>dJ a
 | .loop a=>dJ a
 | .scope a=>dJ a
 | .rangeFunc _ _ _ b=>dJ b
 |_=>[]
def vJ (id:Nat):List (Nat×(World->Prop))->World->Prop
 |[],_=>False
 |(i,K)::r,w=>cond (Nat.beq i id) (K w) (vJ id r w)
def Ea (Kn Kr:World->Prop) (Kx:List (Nat×(World->Prop))) (p:Option Code) (w:World):Prop:=
 match p with
 |none=>Kn w
 |some .ret=>Kr w
 |some (.exit id)=>vJ id Kx w
 |_=>False
def KQ (P:Program) (r:Option Nat) (ks:List Shape) (vf:Value) (w:World) (bodyS:Nat->uS ks->World->(Exit->World->Prop)->Prop)
  (Kn Kr:World->Prop) (Kx:List (Nat×(World->Prop))):Prop:=
 (∀l₀,r=some l₀->∃lp,w.heap[l₀]? =some (.loop lp))/\
 match vf with
 | .func (.func f) first cap=>dD P f=true/\∀l L w1,IV P r w ks bodyS l L w1->
   vN P [] f (first.toList++(Value.func (.yield l) #[] #[]::cap.toList)) w1 fun _ w2=>∃st p,L st p w2/\st≠.busy/\Ea Kn Kr Kx p (bn w2 l .exhausted p)
 |_=>False
def den (P:Program) (nt:Nat):Code->Option Nat->jO->Env->List Nat->World->(Exit->Env->List Nat->World->Prop)->Prop
 | .skip,_,_,env,ds,w,K=>K .normal env ds w
 | .label _,_,_,env,ds,w,K=>K .normal env ds w
 | .ret,_,_,env,ds,w,K=>K .ret env ds w
 | .exit id,_,_,env,ds,w,K=>K (.exit id) env ds w
 | .region _ ops draw,_,_,env,ds,w,K=>cond draw (o9 P nt ops.toList env w fun env' w'=>K .normal env' ds w') (uj P nt ops.toList 0 ops.toList env w fun env' w'=>K .normal env' ds w')
 | .seq a b,r,an,env,ds,w,K=>match an with
  | .seq x y=>den P nt a r x env ds w fun e env' ds' w'=>match e with
   | .normal=>den P nt b r y env' ds' w' K
   |e=>K e env' ds' w'
  | .join st x y=>cond (bg a)
   (vw (S:=CW st×List Nat×World) (fun s=>den P nt b r y (Dt st s.1++without (writes a) env) s.2.1 s.2.2 K) fun J=>den P nt a r x env ds w fun e env' ds' w'=>match e with
    | .normal=>Et st env' fun s'=>J (s',ds',w')
    |e=>K e env' ds' w')
   (vw (S:=CW st×World) (fun s=>den P nt b r y (Dt st s.1++without (writes a) env) ds s.2 K) fun J=>den P nt a r x env ds w fun e env' ds' w'=>match e with
    | .normal=>Et st env' fun s'=>J (s',w')
    |e=>K e env' ds' w')
  |_=>False
 | .cond c a b,r,an,env,ds,w,K=>match an with
  | .cond x y=>match D7 env c with
   |some (.bool t)=>cond t (den P nt a r x env ds w K) (den P nt b r y env ds w K)
   |_=>False
  |_=>False
 | .block id a,r,an,env,ds,w,K=>match an with
  | .blk x=>den P nt a r x env ds w fun e env' ds' w'=>match e with
   | .exit id'=>cond (Nat.beq id' id) (K .normal env' ds' w') (K (.exit id') env' ds' w')
   |e=>K e env' ds' w'
  |_=>False
 | .scope a,r,an,env,ds,w,K=>den P nt a r an env ds w fun e env' ds' w'=>match e with
  | .goto _=>False
  |e=>K e env' ds' w'
 | .loop a,r,an,env,ds,w,K=>match an with
  | .loop st x=>cond (bg a)
   (uK st env fun s0=>IC (S:=oJ st×List Nat) (fun s w next=>den P nt a r x (encS st s.1++without (writes a) env) s.2 w fun e env' ds' w'=>match e with
    | .normal=>uK st env' fun s'=>next (s',ds') w'
    |e=>K e env' ds' w') (s0,ds) w)
   (uK st env fun s0=>IC (S:=oJ st) (fun s w next=>den P nt a r x (encS st s++without (writes a) env) ds w fun e env' ds' w'=>match e with
    | .normal=>uK st env' fun s'=>next s' w'
    |e=>K e env' ds' w') s0 w)
  |_=>False
 | .rangeFunc g ps assign body,r,an,env,ds,w,K=>match an with
  | .rng ks x y=>cond (!bg assign && (Nat.beq ps.toList.length ks.length && (j_ ps.toList && ps.toList.all fun s=>Nat.blt s nt))) (KQ P r ks (ev env g) w
   (fun l x' W Kb=>den P nt assign (some l) x (oQ ps.toList (encR ks x')++env) [] W fun e env1 _ W1=>match e with
    | .normal=>W1.heap[l]? =W.heap[l]? /\den P nt body (some l) y env1 [] (gQ W1 l) fun e _ _ W2=>Kb e W2
    |_=>False)
   (fun w'=>K .normal env (cond r.isNone (w.heap.size::ds) ds) w') (fun w'=>K .ret env (cond r.isNone (w.heap.size::ds) ds) w')
   ((dJ body).map fun id=>(id,fun w'=>K (.exit id) env (cond r.isNone (w.heap.size::ds) ds) w'))) False
  |_=>False
 |_,_,_,_,_,_,_=>False
end Gp
end
section
namespace Gp
open Go
def FW (ds:List Nat):List Deferred:=ds.map fun D=>{target:= .collected D,args:= #[]}
theorem l7 {k:Kind} {v:Value} {φ:k.T->Prop} (h:k.dec v φ):∃x,v=k.enc x/\φ x:=by
 cases k<;>cases v<;>first
  |exact h.elim
  |exact⟨_,rfl,h⟩
  |skip
 case int.int k k' n=>
  simp only [Kind.dec] at h
  cases hb:jQ k k' with
  |false=>rw [hb] at h;exact h.elim
  |true=>
   rw [hb] at h
   have:=jo hb
   subst this
   exact⟨n,rfl,h⟩
theorem get_append (A B:Env) (s:Nat):Env.get (A++B) s=match Env.get A s with|some v=>some v|none=>Env.get B s:=by
 induction A with
 |nil=>rfl
 |cons x A ih=>
  obtain⟨t,v⟩:=x
  rw [List.cons_append,aS,aS]
  by_cases h:t=s
  ·simp [h]
  ·simp [h,ih]
theorem bW (ws:List Nat) (env:Env) (s:Nat):Env.get (without ws env) s=if s∈ws then none else Env.get env s:=by
 induction env with
 |nil=>simp [without,Env.get]
 |cons x env ih=>
  obtain⟨t,v⟩:=x
  simp only [without]
  cases hb:gK t ws with
  |true=>
   have ht:=bI.1 hb
   simp only [cond_true,ih,aS]
   by_cases h:t=s
   ·subst h;simp [ht]
   ·simp [h]
  |false=>
   have ht:t∉ws:=fun hm=>by rw [bI.2 hm] at hb;cases hb
   simp only [cond_false,aS,ih]
   by_cases h:t=s
   ·subst h;simp [ht]
   ·simp [h]
theorem mg:∀(st:List (Nat×Kind)) (env:Env) (φ:oJ st->Prop),uK st env φ->∃x,φ x/\∀t v,Env.get (encS st x) t=some v->env.get t=some v:=by
 intro st
 induction st with
 |nil=>exact fun env φ h=>⟨(),h,fun t v hv=>by simp [encS,Env.get] at hv⟩
 |cons p st ih=>
  obtain⟨s,k⟩:=p
  intro env φ h
  simp only [uK] at h
  cases hg:env.get s with
  |none=>simp only [hg] at h
  |some v=>
   simp only [hg] at h
   obtain⟨x,hx,h⟩:=l7 h
   obtain⟨y,hy,h2⟩:=ih env _ h
   refine⟨(x,y),hy,fun t u hu=> ?_⟩
   simp only [encS,aS] at hu
   by_cases e:s=t
   ·subst e;simp at hu;rw [<- hu,hg,hx]
   ·rw [if_neg e] at hu;exact h2 t u hu
theorem vF:∀(ks:List Kind) (vs:List Value) (φ:Aq ks->Prop),Ey ks vs φ->∃x,vs=DY ks x/\φ x:=by
 intro ks
 induction ks with
 |nil=>exact fun vs φ h=>match vs,h with|[],h=>⟨(),rfl,h⟩
 |cons k ks ih=>
  intro vs φ h
  cases vs with
  |nil=>exact h.elim
  |cons v vs=>
   simp only [Ey] at h
   obtain⟨x,hx,h⟩:=l7 h
   obtain⟨y,hy,h⟩:=ih _ _ h
   exact⟨(x,y),by rw [DY,hx,hy],h⟩
theorem DT {s:Gg} {v:Value} {φ:JT s->Prop} (h:KY s v φ):∃x,v=Bc s x/\φ x:=by
 cases s with
 |sh s=>cases s with
  |one k=>exact l7 h
  |agg ks=>cases v<;>first
   |exact h.elim
   |(obtain⟨x,hx,h⟩:=vF _ _ _ h
     refine⟨x,?_,h⟩
     simp only [Bc,BL,<- hx])
 |addr=>cases v<;>first
   |exact h.elim
   |(rename_i q;cases q with
     |none=>exact h.elim
     |some a=>exact⟨a,rfl,h⟩)
 |bJ ks=>cases v<;>first
   |exact h.elim
   |(obtain⟨x,hx,h⟩:=vF _ _ _ h
     refine⟨x,?_,h⟩
     simp only [Bc,<- hx])
theorem uZ:∀(st:List (Nat×Gg)) (env:Env) (φ:CW st->Prop),Et st env φ->∃x,φ x/\∀t v,Env.get (Dt st x) t=some v->env.get t=some v:=by
 intro st
 induction st with
 |nil=>exact fun env φ h=>⟨(),h,fun t v hv=>by simp [Dt,Env.get] at hv⟩
 |cons p st ih=>
  obtain⟨s,k⟩:=p
  intro env φ h
  simp only [Et] at h
  cases hg:env.get s with
  |none=>simp only [hg] at h
  |some v=>
   simp only [hg] at h
   obtain⟨x,hx,h⟩:=DT h
   obtain⟨y,hy,h2⟩:=ih env _ h
   refine⟨(x,y),hy,fun t u hu=> ?_⟩
   simp only [Dt,aS] at hu
   by_cases e:s=t
   ·subst e;simp at hu;rw [<- hu,hg,hx]
   ·rw [if_neg e] at hu;exact h2 t u hu
theorem least (p:Nat->Prop) (h:∃n,p n):∃n,p n/\∀m,p m->n<=m:=by
 obtain⟨n,hn⟩:=h
 induction n using Nat.strongRecOn with
 |_ n ih=>
  by_cases hx:∃m,m<n/\p m
  ·obtain⟨m,hm,hp⟩:=hx
   exact ih m hm hp
  ·exact⟨n,hn,fun m hm=>Nat.le_of_not_lt fun hlt=>hx ⟨m,hlt,hm⟩⟩
theorem wpIn_loop_ghost {F:Fence} {n:Nat} {P:Program} {c:Code} {Q:Exit->Act->World->Prop} {a:Act} {w:World} (I:Nat->Act->World->Prop) (h₀:∃m,I m a w)
  (round:∀m a w,I m a w->c.wpIn F n P (Exit.then (fun a' w'=>∃m',m'<m/\I m' a' w') Q) a w):(Code.loop c).wpIn F n P Q a w:=by
 have hl:∀a w,(∃m,I m a w)->∃m,I m a w/\∀k,I k a w->m<=k:=fun a w h=>least (fun m=>I m a w) h
 refine wpIn_loop (fun a w=>∃m,I m a w) (fun a w=> @dite Nat (∃m,I m a w) (Classical.propDecidable _) (fun h=>Classical.choose (hl a w h)) (fun _=>0)) h₀ ?_
 intro a w h
 obtain⟨hI,hmin⟩:=Classical.choose_spec (hl a w h)
 refine wpIn_mono (round _ a w hI) fun e a' w' hq=> ?_
 cases e<;>first|exact hq|skip
 obtain⟨m',hlt,hI'⟩:=hq
 refine⟨⟨m',hI'⟩,?_⟩
 have h':∃m,I m a' w':=⟨m',hI'⟩
 obtain⟨_,hmin'⟩:=Classical.choose_spec (hl a' w' h')
 simp only [dif_pos h,dif_pos h']
 have:=hmin' m' hI'
 omega
section
variable {P:Program} {F:Fence} {n:Nat} {b:Frame} {a:Act} {k:List Item} {cs:List Frame} {w:World} {Q:Exit->Act->World->Prop}
theorem fH {c:Code}:step P (lone (b.atR a (.code (.scope c)::k)) cs w)= .next (lone (b.atR a (.code c:: .inScope c::k)) cs w):=
 step_lone_go (by simp [stepG,stepG.exec,Frame.atR])
theorem uM {c:Code}:step P (lone (b.atR a (.inScope c::k)) cs w)= .next (lone (b.atR a k) cs w):=
 step_lone_go (by simp [stepG,stepG.exec,Frame.atR])
theorem mG {c:Code} (h:c.wpIn F n P (Exit.noGoto Q) a w):(Code.scope c).wpIn F n P Q a w:=by
 intro b k cs hro hb hr
 have h0:(lone (b.atR a (.code (.scope c)::k)) cs w).fenced P F:=fenced_calm hb hr rfl
 obtain⟨e,a₁,w₁,hq,harr⟩:=h b (.inScope c::k) cs hro hb hr
 cases e with
 |normal=>exact⟨.normal,a₁,w₁,hq,.head h0 fH (StepsIn.trans harr (.one (fenced_calm hb hr rfl) uM))⟩
 |exit id=>
  have hx:exitTo id (.inScope c::k)=exitTo id k:=by simp [exitTo]
  exact⟨.exit id,a₁,w₁,hq,fun k' hk=> .head h0 fH (harr.1 k' (by rw [hx];exact hk)),
   fun hr' hk=>let ⟨k₁,h1,h2⟩:=harr.2 hr' (by rw [hx];exact hk);⟨k₁,h1,.head h0 fH h2⟩⟩
 |goto l=>exact hq.elim
 |ret=>exact⟨_,a₁,w₁,hq,.of_steps (.one h0 fH) harr⟩
 |panic ch=>exact⟨_,a₁,w₁,hq,.of_steps (.one h0 fH) harr⟩
 |outgrown=>exact⟨_,a₁,w₁,hq,.of_steps (.one h0 fH) harr⟩
end
theorem xO {env:Env} {a:Act} (ha:CO env a) {c:Operand} {v:Value} (h:D7 env c=some v):a.eval c=v:=by
 have:=J7 ha (x:=c) (by rw [h];rfl)
 rw [<- this,ev,h];rfl
section
variable {P:Program}
theorem qF (w:World) (l:Nat) (f:Obj->Obj) (b:Nat):(w.heap.modify l f)[b]? =if l=b then (w.heap[b]?).map f else w.heap[b]? :=by
 rw [Array.getElem?_modify]
theorem Aj {w:World} {l:Nat} {lp:Loop} (h:w.heap[l]? =some (.loop lp)) (st:LoopState) (p:Option Code):(bn w l st p).heap[l]? =some (.loop {lp with state:=st,pending:=p}):=by
 simp only [bn,qF,if_true,h,Option.map_some]
theorem EO {w:World} {l:Nat} {lp:Loop} (h:w.heap[l]? =some (.loop lp)):(gQ w l).heap[l]? =some (.loop {lp with state:= .busy}):=by
 simp only [gQ,qF,if_true,h,Option.map_some]
theorem jv {w:World} {l:Nat} {o:Obj} (h:w.heap[l]? =some o) (f:Obj->Obj):w.heap.setIfInBounds l (f o)=w.heap.modify l f:=by
 apply Array.ext_getElem?
 intro i
 have hl:=(Array.getElem?_eq_some_iff.1 h).1
 rw [Array.getElem?_setIfInBounds,Array.getElem?_modify]
 by_cases e:l=i
 ·subst e
  have h2:w.heap[l]=o:=by have:=Array.getElem?_eq_getElem hl;rw [h] at this;exact(Option.some.inj this).symm
  simp [hl,h2]
 ·simp [e]
theorem run_getLoop {w:World} {l:Nat} {lp:Loop} (h:w.heap[l]? =some (.loop lp)):(Instr.getLoop l).run P w= .ok lp w:=by
 simp [Instr.getLoop,getObj,Sem.run,h]
theorem nH {w:World} {l:Nat} {lp:Loop} {o:Obj} (h:w.heap[l]? =some (.loop lp)):(setObj l o).run P w= .ok () {w with heap:=w.heap.setIfInBounds l o}:=by
 simp [setObj,Sem.run,h]
theorem run_beginRound {w:World} {l:Nat} {lp:Loop} (h:w.heap[l]? =some (.loop lp)) (hr:lp.state= .ready):(Instr.beginRound l).run P w= .ok () (gQ w l):=by
 simp only [Instr.beginRound,Sem.run_bind,run_getLoop h,Result.andThen_ok,nH h,hr,Sem.run_pure]
 simp only [gQ]
 rw [<- jv h]
theorem run_endRound {w:World} {l:Nat} {lp:Loop} (h:w.heap[l]? =some (.loop lp)) (j:Option Code):
  (Instr.endRound l j).run P w= .ok (.bool j.isNone) (bn w l (if j.isNone then .ready else .done) j):=by
 simp only [Instr.endRound,Sem.run_bind,run_getLoop h,Result.andThen_ok,nH h,Sem.run_pure]
 simp only [bn]
 rw [<- jv h]
theorem run_endLoop {w:World} {l:Nat} {lp:Loop} (h:w.heap[l]? =some (.loop lp)) (hb:lp.state≠.busy):
  (Instr.endLoop l).run P w= .ok lp.pending (bn w l .exhausted lp.pending):=by
 have hb':¬(lp.state= .busy):=hb
 simp [Instr.endLoop,run_getLoop h,nH h,hb']
 simp only [bn]
 rw [<- jv h]
abbrev qY (ps:List Nat) (vs:List Value) (tmps:Array Value):Array Value:=(ps.zip vs).foldl (fun(tmps:Array Value) (p:Nat×Value)=>tmps.setIfInBounds p.1 p.2) tmps
theorem CQ:∀(ps:List Nat) (vs:List Value) (tmps:Array Value),(qY ps vs tmps).size=tmps.size:=by
 intro ps
 induction ps with
 |nil=>intro vs tmps;rfl
 |cons p ps ih=>
  intro vs tmps
  cases vs with
  |nil=>rfl
  |cons v vs=>simp only [qY,List.zip_cons_cons,List.foldl_cons] at ih ⊢;rw [ih];simp
theorem rZ:∀(ps:List Nat) (vs:List Value) (tmps:Array Value) (s:Nat),s∉ps->(qY ps vs tmps)[s]? =tmps[s]? :=by
 intro ps
 induction ps with
 |nil=>intro vs tmps s _;rfl
 |cons p ps ih=>
  intro vs tmps s h
  cases vs with
  |nil=>rfl
  |cons v vs=>
   simp only [qY,List.zip_cons_cons,List.foldl_cons] at ih ⊢
   rw [ih vs _ s (fun x=>h (by simp [x]))]
   have:¬(p=s):=fun x=>h (by simp [x])
   simp [this]
theorem EN:∀(ps:List Nat) (vs:List Value) (tmps:Array Value),j_ ps=true->(∀s∈ps,s<tmps.size)->
  ∀s v,Env.get (oQ ps vs) s=some v->(qY ps vs tmps)[s]? =some v:=by
 intro ps
 induction ps with
 |nil=>intro vs tmps _ _ s v h;simp [oQ,Env.get] at h
 |cons p ps ih=>
  intro vs tmps hnd hlt s v h
  cases vs with
  |nil=>simp [oQ,Env.get] at h
  |cons u vs=>
   simp only [j_,Bool.and_eq_true,Bool.not_eq_true'] at hnd
   simp only [oQ,aS] at h
   have e:qY (p::ps) (u::vs) tmps=qY ps vs (tmps.setIfInBounds p u):=rfl
   rw [e]
   by_cases hs:p=s
   ·subst hs
    rw [if_pos rfl] at h
    have hn:p∉ps:=fun x=>by rw [bI.2 x] at hnd;simp at hnd
    rw [rZ _ _ _ _ hn]
    have:p<tmps.size:=hlt p (by simp)
    simp [this,<- h]
   ·rw [if_neg hs] at h
    exact ih vs _ hnd.2 (fun s hs=>by simpa using hlt s (by simp [hs])) s v h
end
end Gp
end
section
namespace Gp
open Go
section
variable {P:Program}
theorem n_.self {nt:Nat} {dfr:List Deferred} {ws ws':List Nat} {a0 a:Act} {env:Env} (h:n_ nt dfr ws a0 env a):n_ nt dfr ws' a env a:=⟨h.agr,h.size,h.defers,fun _ _=>rfl⟩
theorem n_.trans {nt:Nat} {d1 d2:List Deferred} {ws ws':List Nat} {a0 a a':Act} {env env':Env} (h:n_ nt d1 ws a0 env a) (h':n_ nt d2 ws' a env' a') (hs:∀s∈ws',s∈ws):n_ nt d2 ws a0 env' a':=
 ⟨h'.agr,h'.size,h'.defers,fun s hn=>(h'.same s fun x=>hn (hs s x)).trans (h.same s hn)⟩
theorem n_.env {nt:Nat} {dfr:List Deferred} {ws:List Nat} {a0 a:Act} {env env':Env} (h:n_ nt dfr ws a0 env a) (he:∀s v,env'.get s=some v->a.tmps[s]? =some v):n_ nt dfr ws a0 env' a:=
 ⟨he,h.size,h.defers,h.same⟩
def LL (l:Nat) (fn:FuncId) (tmps:Array Value) (ps:Array Tmp) (assign body:Code) (dfr:Nat) (st:LoopState) (p:Option Code) (W:World):Prop:=
 W.heap[l]? =some (.loop {state:=st,pending:=p,fn:=fn,tmps:=tmps,params:=ps,assign:=assign,body:=body,defers:=dfr})
def jH (P:Program) (nt:Nat) (c:Code):Prop:=
 ∀(r:Option Nat) (an:jO) (env:Env) (ds:List Nat) (w:World) (K:Exit->Env->List Nat->World->Prop) (n:Nat) (Q:Exit->Act->World->Prop) (ws:List Nat) (a0 a:Act),
  den P nt c r an env ds w K->n_ nt (FW ds) ws a0 env a->(∀s∈writes c,s∈ws)->
  (∀e env' ds' w' a',n_ nt (FW ds') ws a0 env' a'->(bg c=false->ds'=ds)->K e env' ds' w'->Q e a' w')->c.wpIn (Fr r) n P Q a w
theorem Dz:∀(st:List (Nat×Kind)) (x y:oJ st) (t:Nat),Env.get (encS st x) t=none->Env.get (encS st y) t=none:=by
 intro st
 induction st with
 |nil=>exact fun x y t h=>h
 |cons p st ih=>
  obtain⟨s,k⟩:=p
  intro x y t h
  simp only [encS,aS] at h ⊢
  by_cases e:s=t
  ·simp [e] at h
  ·simp only [e,if_false] at h ⊢;exact ih _ _ _ h
theorem zy {nt:Nat} {dfr dfr':List Deferred} {ws ws':List Nat} {st:List (Nat×Kind)} {x y:oJ st} {env env':Env} {a0 a a':Act} (h:n_ nt dfr ws a0 (encS st y++without ws' env) a)
  (h':n_ nt dfr' ws' a env' a') (hx:∀t v,Env.get (encS st x) t=some v->env'.get t=some v):∀s v,Env.get (encS st x++without ws' env) s=some v->a'.tmps[s]? =some v:=by
 intro s v hs
 rw [get_append] at hs
 cases he:Env.get (encS st x) s with
 |some u=>rw [he] at hs;simp at hs;subst hs;exact h'.agr s u (hx s u he)
 |none=>
  rw [he] at hs
  simp only at hs
  have hw:s∉ws':=by
   intro hw
   rw [bW] at hs
   simp [hw] at hs
  rw [h'.same s hw]
  refine h.agr s v ?_
  rw [get_append,Dz st x y s he]
  exact hs
theorem vM {st:List (Nat×Kind)} {x:oJ st} {env:Env} {a:Act} (ws':List Nat) (h:CO env a)
  (hx:∀t v,Env.get (encS st x) t=some v->env.get t=some v):∀s v,Env.get (encS st x++without ws' env) s=some v->a.tmps[s]? =some v:=by
 intro s v hs
 rw [get_append] at hs
 cases he:Env.get (encS st x) s with
 |some u=>rw [he] at hs;simp at hs;subst hs;exact h s u (hx s u he)
 |none=>
  rw [he] at hs
  simp only [bW] at hs
  by_cases hw:s∈ws'
  ·simp [hw] at hs
  ·simp only [hw,if_false] at hs
   exact h s v hs
theorem yJ {nt:Nat} {dfr:List Deferred} {ws':List Nat} {B env env':Env} {a a':Act} (ha:CO env a)
  (h':n_ nt dfr ws' a env' a') (hx:∀t v,Env.get B t=some v->env'.get t=some v):∀s v,Env.get (B++without ws' env) s=some v->a'.tmps[s]? =some v:=by
 intro s v hs
 rw [get_append] at hs
 cases he:Env.get B s with
 |some u=>rw [he] at hs;simp at hs;subst hs;exact h'.agr s u (hx s u he)
 |none=>
  rw [he] at hs
  simp only [bW] at hs
  by_cases hw:s∈ws'
  ·simp [hw] at hs
  ·simp only [hw,if_false] at hs
   rw [h'.same s hw]
   exact ha s v hs
theorem zG {nt:Nat} {x y:Code} (ihx:jH P nt x) (ihy:jH P nt y) {st:List (Nat×Gg)} {ax ay:jO} {r:Option Nat} {env:Env} {ds:List Nat} {w:World} {K:Exit->Env->List Nat->World->Prop}
  {n:Nat} {Q:Exit->Act->World->Prop} {ws:List Nat} {a0 a:Act} (h:den P nt (.seq x y) r (.join st ax ay) env ds w K) (ha:n_ nt (FW ds) ws a0 env a) (hws:∀s∈writes (.seq x y),s∈ws)
  (hQ:∀e env' ds' w' a',n_ nt (FW ds') ws a0 env' a'->(bg (.seq x y)=false->ds'=ds)->K e env' ds' w'->Q e a' w'):(Code.seq x y).wpIn (Fr r) n P Q a w:=by
 have hwx:∀s∈writes x,s∈ws:=fun s hs=>hws s (by simp [writes,hs])
 have hwy:∀s∈writes y,s∈ws:=fun s hs=>hws s (by simp [writes,hs])
 simp only [den] at h
 cases hr:bg x with
 |false=>
  rw [hr] at h
  simp only [cond_false,vw] at h
  refine wpIn_seq (ihx r ax env ds w _ n _ (writes x) a a h ha.self (fun s hs=>hs) ?_)
  intro e env' ds' w' a' ha' hds hk
  have hds:=hds hr
  subst hds
  cases e with
  |normal=>
   obtain⟨s',hb,hs'⟩:=uZ _ _ _ hk
   refine ihy r ay _ ds' w' K n Q ws a0 a' hb ((ha.trans ha' hwx).env (yJ ha.agr ha' hs')) hwy ?_
   intro e2 env2 ds2 w2 a2 ha2 hds2 hk2
   refine hQ _ _ _ _ _ ha2 (fun hx=> ?_) hk2
   simp only [bg,Bool.or_eq_false_iff] at hx
   exact hds2 hx.2
  |_=>exact hQ _ _ _ _ _ (ha.trans ha' hwx) (fun _=>rfl) hk
 |true=>
  rw [hr] at h
  simp only [cond_true,vw] at h
  refine wpIn_seq (ihx r ax env ds w _ n _ (writes x) a a h ha.self (fun s hs=>hs) ?_)
  intro e env' ds' w' a' ha' _ hk
  cases e with
  |normal=>
   obtain⟨s',hb,hs'⟩:=uZ _ _ _ hk
   refine ihy r ay _ ds' w' K n Q ws a0 a' hb ((ha.trans ha' hwx).env (yJ ha.agr ha' hs')) hwy ?_
   intro e2 env2 ds2 w2 a2 ha2 hds2 hk2
   refine hQ _ _ _ _ _ ha2 (fun hx=> ?_) hk2
   simp [bg,hr] at hx
  |_=>exact hQ _ _ _ _ _ (ha.trans ha' hwx) (fun hx=>by simp [bg,hr] at hx) hk
theorem Ap {nt:Nat} {c:Code} (ih:jH P nt c):jH P nt (.loop c):=by
 intro r an env ds w K n Q ws a0 a h ha hws hQ
 cases an with
 |loop st x=>
  simp only [den] at h
  cases hr:bg c with
  |false=>
   rw [hr] at h
   simp only [cond_false] at h
   obtain⟨s0,⟨I,h0,hstep⟩,hs0⟩:=mg _ _ _ h
   refine wpIn_loop_ghost (fun m a' w'=>∃s:oJ st,I m s w'/\n_ nt (FW ds) ws a0 (encS st s++without (writes c) env) a') ?_ ?_
   ·obtain⟨m,hm⟩:=h0
    exact⟨m,s0,hm,ha.env (vM _ ha.agr hs0)⟩
   ·rintro m a1 w1 ⟨s,hI,ha1⟩
    refine ih r x _ ds w1 _ n _ (writes c) a1 a1 (hstep m s w1 hI) ha1.self (fun s hs=>hs) ?_
    intro e env' ds' w' a' ha' hds hk
    have hds:=hds hr
    subst hds
    cases e with
    |normal=>
     obtain⟨s',⟨m',hlt,hI'⟩,hs'⟩:=mg _ _ _ hk
     exact⟨m',hlt,s',hI',(ha1.trans ha' hws).env (zy ha1 ha' hs')⟩
    |_=>exact hQ _ _ _ _ _ (ha1.trans ha' hws) (fun _=>rfl) hk
  |true=>
   rw [hr] at h
   simp only [cond_true] at h
   obtain⟨s0,⟨I,h0,hstep⟩,hs0⟩:=mg _ _ _ h
   refine wpIn_loop_ghost (fun m a' w'=>∃s:oJ st×List Nat,I m s w'/\n_ nt (FW s.2) ws a0 (encS st s.1++without (writes c) env) a') ?_ ?_
   ·obtain⟨m,hm⟩:=h0
    exact⟨m,(s0,ds),hm,ha.env (vM _ ha.agr hs0)⟩
   ·rintro m a1 w1 ⟨s,hI,ha1⟩
    refine ih r x _ s.2 w1 _ n _ (writes c) a1 a1 (hstep m s w1 hI) ha1.self (fun s hs=>hs) ?_
    intro e env' ds' w' a' ha' _ hk
    cases e with
    |normal=>
     obtain⟨s',⟨m',hlt,hI'⟩,hs'⟩:=mg _ _ _ hk
     exact⟨m',hlt,(s',ds'),hI',(ha1.trans ha' hws).env (zy ha1 ha' hs')⟩
    |_=>exact hQ _ _ _ _ _ (ha1.trans ha' hws) (fun hx=>by simp [bg,hr] at hx) hk
 |_=>exact h.elim
theorem uX {fn:FuncId} {tmps:Array Value} {ps:Array Tmp} {assign body:Code} {w:World}:
  (Instr.enterLoop fn tmps ps assign body none).run P w=
   .ok (w.heap.size+1,[{target:= .collected w.heap.size,args:= #[]}])
    ((w.alloc (.deferred (some []))).alloc (.loop {state:= .ready,pending:=none,fn:=fn,tmps:=tmps,params:=ps,assign:=assign,body:=body,defers:=w.heap.size})):=by
 simp [Instr.enterLoop]
theorem qj {fn:FuncId} {tmps:Array Value} {ps:Array Tmp} {assign body:Code} {w:World} {l₀:Nat} {lp:Loop} (h:w.heap[l₀]? =some (.loop lp)):
  (Instr.enterLoop fn tmps ps assign body (some l₀)).run P w=
   .ok (w.heap.size,[]) (w.alloc (.loop {state:= .ready,pending:=none,fn:=fn,tmps:=tmps,params:=ps,assign:=assign,body:=body,defers:=lp.defers})):=by
 simp [Instr.enterLoop,run_getLoop h]
theorem BZ {e:Exit} {j:Option Code} (h:pV e=some j):j.isNone=gu e:=by
 cases e<;>simp [pV] at h<;>subst h<;>rfl
theorem yw {nt:Nat} {assign body:Code} (ih1:jH P nt assign) (ih2:jH P nt body) {l:Nat} {fn:FuncId} {tmps:Array Value} {ps:Array Tmp} {dfr:Nat} {ks:List Shape} {x y:jO} {env:Env}
  (hlen:Nat.beq ps.toList.length ks.length=true) (hnd:j_ ps.toList=true) (hlt:∀s∈ps.toList,s<nt) (hra:bg assign=false) (hsz:tmps.size=nt) (hag:∀s v,env.get s=some v->tmps[s]? =some v)
  {x':uS ks} {W:World} {p:Option Code} {R:Bool->World->Prop} (hL:LL l fn tmps ps assign body dfr .ready p W)
  (h:den P nt assign (some l) x (oQ ps.toList (encR ks x')++env) [] W fun e env1 _ W1=>match e with
    | .normal=>W1.heap[l]? =W.heap[l]? /\den P nt body (some l) y env1 [] (gQ W1 l) fun e _ _ W2=>
      (LL l fn tmps ps assign body dfr .busy p W2/\∃j,pV e=some j/\R (gu e) (bn W2 l (if gu e then .ready else .done) j))
    |_=>False):nZ P l (encR ks x') W R:=by
 have hkl:∀(ks:List Shape) (x:uS ks),(encR ks x).length=ks.length:=by
  intro ks
  induction ks with
  |nil=>intro x;rfl
  |cons k ks ih=>intro x;simp [encR,ih]
 have hl2:(encR ks x').length=ps.size:=by
  rw [hkl]
  have:=Nat.eq_of_beq_eq_true hlen
  simpa using this.symm
 refine⟨fn,qY ps.toList (encR ks x') tmps,assign,body,?_,?_⟩
 ·have h1:(ps.zip (⟨encR ks x'⟩:Array Value)).foldl (fun(tmps:Array Value) (x:Tmp×Value)=>tmps.setIfInBounds x.1 x.2) tmps=qY ps.toList (encR ks x') tmps:=by
   rw [<- Array.foldl_toList,Array.toList_zip]
  simp only [Instr.yield,Sem.run_bind,run_getLoop hL,Result.andThen_ok]
  have h2:¬((⟨encR ks x'⟩:Array Value).size≠ps.size):=by simpa using hl2
  simp only [h2,if_false,Sem.run_pure]
  congr 2
 ·refine roundIn_of_wpIn (F:=Fence.wide) trivial ?_
  have hA:n_ nt (FW []) (writes assign) {tmps:=qY ps.toList (encR ks x') tmps,defers:=[]} (oQ ps.toList (encR ks x')++env) {tmps:=qY ps.toList (encR ks x') tmps,defers:=[]}:=by
   refine⟨fun s v hs=> ?_,by simp [CQ,hsz],rfl,fun _ _=>rfl⟩
   rw [get_append] at hs
   cases he:Env.get (oQ ps.toList (encR ks x')) s with
   |some u=>
    rw [he] at hs
    simp only [Option.some.injEq] at hs
    subst hs
    exact EN _ _ _ hnd (fun s hs=>by rw [hsz];exact hlt s hs) s u he
   |none=>
    rw [he] at hs
    have hn:s∉ps.toList:=by
     intro hm
     have:∀(ps:List Nat) (vs:List Value),ps.length=vs.length->s∈ps->Env.get (oQ ps vs) s≠none:=by
      intro ps
      induction ps with
      |nil=>intro vs _ h;cases h
      |cons q ps ih=>
       intro vs hl hm
       cases vs with
       |nil=>simp at hl
       |cons v vs=>
        simp only [oQ,aS]
        by_cases e:q=s
        ·simp [e]
        ·simp only [e,if_false]
         refine ih vs (by simpa using hl) ?_
         cases hm with
         |head=>exact absurd rfl e
         |tail _ h=>exact h
     exact this _ _ (by simpa using hl2.symm) hm he
    show (qY ps.toList (encR ks x') tmps)[s]? =some v
    rw [rZ _ _ _ _ hn]
    exact hag s v hs
  refine ih1 (some l) x _ [] W _ 0 _ (writes assign) _ _ h hA (fun s hs=>hs) ?_
  intro e env1 ds1 W1 a1 ha1 hds1 hk
  have hds1:=hds1 hra
  subst hds1
  cases e with
  |normal=>
   obtain⟨hsame,hk⟩:=hk
   have hL1:W1.heap[l]? =some (.loop {state:= .ready,pending:=p,fn:=fn,tmps:=tmps,params:=ps,assign:=assign,body:=body,defers:=dfr}):=hsame.trans hL
   refine⟨gQ W1 l,run_beginRound hL1 rfl,?_⟩
   have ha1':n_ nt (FW []) (writes body) a1 env1 a1:=ha1.self
   refine ih2 (some l) y env1 [] _ _ 0 _ (writes body) a1 a1 hk ha1' (fun s hs=>hs) ?_
   intro e env2 ds2 W2 a2 ha2 _ hk2
   obtain⟨hL2,j,hj,hR⟩:=hk2
   have hend:=run_endRound (P:=P) hL2 j
   rw [BZ hj] at hend
   have hR':∃b:Bool,Ending.returned (.bool (gu e))= .returned (.bool b)/\R b (bn W2 l (if gu e then .ready else .done) j):=⟨_,rfl,hR⟩
   cases e<;>simp only [pV,Option.some.injEq] at hj<;>first
    |(subst hj;exact⟨_,_,hend,hR'⟩)
    |(cases hj;done)
  |_=>exact hk.elim
theorem CG (hP:jZ P) {f:FuncId} {first cap:Array Value} {l:Nat} {W:World} (hb:dD P f=true) {a:Act} {g:Operand} (hg:a.eval g= .func (.func f) first cap):
  ∃d,(resolve a.eval (rangeCall g l) 0).run P W= .ok d W/\(invoke d.target d.args).run P W= .ok (.enter f ⟨first.toList++(Value.func (.yield l) #[] #[]::cap.toList)⟩) W:=by
 refine⟨{target:= .fn (.func f) cap,args:=first++ #[.func (.yield l) #[] #[]]},?_,?_⟩
 ·simp only [resolve,hg,Deferred.ofValue,Sem.run_pure,List.map_toArray,List.map_cons,List.map_nil];rfl
 ·have e:first++ #[Value.func (.yield l) #[] #[]]++cap=⟨first.toList++(Value.func (.yield l) #[] #[]::cap.toList)⟩:=by apply Array.toList_inj.mp;simp
  simp only [invoke,e]
  exact iL hP hb _ _
theorem zW {id:Nat} {w:World} {K:Exit->World->Prop}:∀(l:List Nat),vJ id (l.map fun id=>(id,K (.exit id))) w->K (.exit id) w:=by
 intro l
 induction l with
 |nil=>intro h;exact h.elim
 |cons i l ih=>
  intro h
  simp only [List.map_cons,vJ] at h
  cases hb:Nat.beq i id with
  |true=>
   rw [hb] at h
   have:=Nat.eq_of_beq_eq_true hb
   subst this
   exact h
  |false=>rw [hb] at h;exact ih h
theorem zJ {K:Exit->World->Prop} {l:List Nat} {p:Option Code} {w:World} (h:Ea (K .normal) (K .ret) (l.map fun id=>(id,K (.exit id))) p w) {F:Fence} {n:Nat} {Q:Exit->Act->World->Prop} {a:Act}
  (hQ:∀e w,K e w->Q e a w):(p=none->Q .normal a w)/\∀c,p=some c->c.wpIn F n P Q a w:=by
 cases p with
 |none=>exact⟨fun _=>hQ _ _ h,fun c hc=>by cases hc⟩
 |some c=>
  refine⟨fun hc=>by(cases hc),fun c' hc=> ?_⟩
  cases hc
  cases c<;>first|exact h.elim|exact wpIn_ret (hQ _ _ h)|exact wpIn_exit (hQ _ _ (zW l h))
theorem CS (hP:jZ P) {nt:Nat} {g:Operand} {ps:Array Tmp} {assign body:Code} (ih1:jH P nt assign) (ih2:jH P nt body):jH P nt (.rangeFunc g ps assign body):=by
 intro r an env ds w K n Q ws a0 a h ha hws hQ
 cases an with
 |rng ks x y=>
  simp only [den] at h
  cases hb:(!bg assign && (Nat.beq ps.toList.length ks.length && (j_ ps.toList && ps.toList.all fun s=>Nat.blt s nt))) with
  |false=>rw [hb] at h;exact h.elim
  |true=>
   rw [hb] at h
   simp only [cond_true] at h
   simp only [Bool.and_eq_true,List.all_eq_true,Nat.blt_eq,Bool.not_eq_true'] at hb
   obtain⟨hra,hlen,hnd,hlt⟩:=hb
   obtain⟨hr0,h⟩:=h
   split at h
   ·rename_i f first cap hv
    obtain⟨hbody,h⟩:=h
    have hg:a.eval g= .func (.func f) first cap:=by
     cases hx:D7 env g with
     |none=>simp [ev,hx,undef] at hv
     |some v=>
      have:=xO ha.agr hx
      simp only [ev,hx,Option.getD_some] at hv
      rw [this,hv]
    refine wpIn_rangeFunc fun fn _=> ?_
    have mk:∀(l:Nat) (mark:List Deferred) (w1:World) (dfr:Nat),(Instr.enterLoop fn a.tmps ps assign body (Fr r).round).run P w= .ok (l,mark) w1->
      (l=if r.isNone then w.heap.size+1 else w.heap.size)->w1.heap.size=l+1->(∀b,b<w.heap.size->w1.heap[b]? =w.heap[b]?)->(w1.os=w.os/\w1.tape=w.tape/\w1.output=w.output)->(r=none->w1.heap[w.heap.size]? =some (.deferred (some [])))->
      LL l fn a.tmps ps assign body dfr .ready none w1->mark++a.defers=FW (cond r.isNone (w.heap.size::ds) ds)->
      ∃(l:Nat) (mark:List Deferred) (w₁:World) (d:Deferred) (w₁':World) (f:FuncId) (args:Array Value) (w₂:World),
       (Instr.enterLoop fn a.tmps ps assign body (Fr r).round).run P w= .ok (l,mark) w₁/\(resolve a.eval (rangeCall g l) 0).run P w₁= .ok d w₁'/\
       (∀f',Target.leads P w₁' d.target d.args=some f'->(Fr r).fn f')/\(invoke d.target d.args).run P w₁'= .ok (.enter f args) w₂/\((Fr r).depth.isSome=true->1<=n)/\
       CallsIn (Fr r) (n - 1) P f args w₂ (rangePost (Fr r) n P l Q {a with defers:=mark++a.defers}):=by
     intro l mark w1 dfr he hl hsz hold hio hmk hLL hds
     obtain⟨d,hres,hinv⟩:=CG hP (l:=l) (W:=w1) hbody hg
     refine⟨l,mark,w1,d,w1,f,_,w1,he,hres,fun _ _=>trivial,hinv,fun hx=>by simp [Fr,Fence.wide] at hx,?_⟩
     have hctx:=h l (LL l fn a.tmps ps assign body dfr) w1 {
      at_:=hl
      size:=hsz
      old:=hold
      io:=hio
      marks:=hmk
      ready:=hLL
      frame:=fun st p W W' hL hs=>hs.trans hL
      set:=fun st p st' p' W hL=>Aj hL st' p'
      busy:=fun p W hL=>EO hL
      isLoop:=fun st p W hL=>⟨_,hL⟩
      yield:=fun x' W p R hL hx=>yw ih1 ih2 hlen hnd hlt hra ha.size ha.agr hL hx}
     have hc:CallsIn Fence.wide (n - 1) P f _ w1 _:=callsIn_wide.2 (lU hctx)
     refine CallsIn.mono (F:=Fr r) hc fun e w2 hx=> ?_
     obtain⟨v,rfl,st,p,hL,hst,hj⟩:=hx
     refine⟨p,_,run_endLoop hL hst,?_⟩
     have hj2:=zJ (P:=P) (F:=Fr r) (n:=n) (Q:=Q) (a:={a with defers:=mark++a.defers}) (K:=fun e w'=>K e env (cond r.isNone (w.heap.size::ds) ds) w') (l:=dJ body) hj fun e w' hk=>
      hQ _ _ _ _ _ ⟨ha.agr,ha.size,hds,ha.same⟩ (fun hx=>by simp [bg] at hx) hk
     clear hj hctx hc
     cases p with
     |none=>exact hj2.1 rfl
     |some c=>exact hj2.2 c rfl
    cases r with
    |none=>
     refine mk (w.heap.size+1) _ _ w.heap.size uX rfl (by simp) (fun b hb=> ?_) ⟨rfl,rfl,rfl⟩ (fun _=> ?_) ?_ (by simp [FW,ha.defers])
     ·have h1:b≠w.heap.size+1:=by omega
      have h2:b≠w.heap.size:=by omega
      simp [World.alloc,-World.alloc_eq,Array.getElem?_push,h1,h2]
     ·simp [World.alloc,-World.alloc_eq,Array.getElem?_push]
     ·have:=World.alloc_heap_new (w.alloc (.deferred (some []))) (.loop {state:= .ready,pending:=none,fn:=fn,tmps:=a.tmps,params:=ps,assign:=assign,body:=body,defers:=w.heap.size})
      rw [World.size_alloc] at this
      exact this
    |some l₀=>
     obtain⟨lp,hlp⟩:=hr0 l₀ rfl
     refine mk w.heap.size _ _ lp.defers (qj hlp) rfl (by simp) (fun b hb=> ?_) ⟨rfl,rfl,rfl⟩ (fun hx=>by cases hx) ?_ (by simp [ha.defers])
     ·have h2:b≠w.heap.size:=by omega
      simp [World.alloc,-World.alloc_eq,Array.getElem?_push,h2]
     ·simp [LL,World.alloc,-World.alloc_eq]
   ·exact h.elim
 |_=>exact h.elim
theorem vO (hP:jZ P) (nt:Nat):∀c,jH P nt c:=by
 intro c
 induction c with
 |skip=>intro r an env ds w K n Q ws a0 a h ha hws hQ;exact wpIn_skip (hQ _ _ _ _ _ ha (fun _=>rfl) h)
 |label l=>intro r an env ds w K n Q ws a0 a h ha hws hQ;exact wpIn_label (hQ _ _ _ _ _ ha (fun _=>rfl) h)
 |ret=>intro r an env ds w K n Q ws a0 a h ha hws hQ;exact wpIn_ret (hQ _ _ _ _ _ ha (fun _=>rfl) h)
 |exit id=>intro r an env ds w K n Q ws a0 a h ha hws hQ;exact wpIn_exit (hQ _ _ _ _ _ ha (fun _=>rfl) h)
 |region id ops draw=>
  intro r an env ds w K n Q ws a0 a h ha hws hQ
  simp only [den] at h
  cases draw with
  |true=>exact uH hP hws (fun env a w ha hk=>hQ _ _ _ _ _ ha (fun _=>rfl) hk) ha h
  |false=>
   refine wpIn_region ?_
   have:=wH (r:=r) (n:=n) (Q:=Q) hP hws (fun env a w ha hk=>hQ _ _ _ _ _ ha (fun _=>rfl) hk) ops.toList 0 env a w (by simp) ha h
   rw [List.range_eq_range']
   simpa using this
 |seq x y ihx ihy=>
  intro r an env ds w K n Q ws a0 a h ha hws hQ
  cases an with
  |seq ax ay=>
   simp only [den] at h
   refine wpIn_seq (ihx r ax env ds w _ n _ ws a0 a h ha (fun s hs=>hws s (by simp [writes,hs])) ?_)
   intro e env' ds' w' a' ha' hds hk
   cases e with
   |normal=>
    refine ihy r ay env' ds' w' K n Q ws a0 a' hk ha' (fun s hs=>hws s (by simp [writes,hs])) ?_
    intro e2 env2 ds2 w2 a2 ha2 hds2 hk2
    refine hQ _ _ _ _ _ ha2 (fun hx=> ?_) hk2
    simp only [bg,Bool.or_eq_false_iff] at hx
    rw [hds2 hx.2,hds hx.1]
   |_=>
    refine hQ _ _ _ _ _ ha' (fun hx=> ?_) hk
    simp only [bg,Bool.or_eq_false_iff] at hx
    exact hds hx.1
  |join st ax ay=>exact zG ihx ihy h ha hws hQ
  |_=>exact h.elim
 |cond c x y ihx ihy=>
  intro r an env ds w K n Q ws a0 a h ha hws hQ
  cases an with
  |cond ax ay=>
   simp only [den] at h
   split at h
   ·rename_i t ht
    refine wpIn_cond (xO ha.agr ht) ?_
    cases t with
    |true=>
     refine ihx r ax env ds w K n Q ws a0 a h ha (fun s hs=>hws s (by simp [writes,hs])) fun e env' ds' w' a' ha' hds hk=>hQ _ _ _ _ _ ha' (fun hx=> ?_) hk
     simp only [bg,Bool.or_eq_false_iff] at hx
     exact hds hx.1
    |false=>
     refine ihy r ay env ds w K n Q ws a0 a h ha (fun s hs=>hws s (by simp [writes,hs])) fun e env' ds' w' a' ha' hds hk=>hQ _ _ _ _ _ ha' (fun hx=> ?_) hk
     simp only [bg,Bool.or_eq_false_iff] at hx
     exact hds hx.2
   ·exact h.elim
  |_=>exact h.elim
 |block id x ihx=>
  intro r an env ds w K n Q ws a0 a h ha hws hQ
  cases an with
  |blk ax=>
   simp only [den] at h
   refine wpIn_block (ihx r ax env ds w _ n _ ws a0 a h ha hws ?_)
   intro e env' ds' w' a' ha' hds hk
   cases e with
   |exit id'=>
    simp only at hk
    simp only [Exit.inBlock]
    by_cases hid:id'=id
    ·subst hid
     have:Nat.beq id' id'=true:=by simp
     rw [this] at hk
     rw [if_pos rfl]
     exact hQ _ _ _ _ _ ha' hds hk
    ·have:Nat.beq id' id=false:=by cases hx:Nat.beq id' id;rfl;exact absurd (Nat.eq_of_beq_eq_true hx) hid
     rw [this] at hk
     rw [if_neg hid]
     exact hQ _ _ _ _ _ ha' hds hk
   |_=>exact hQ _ _ _ _ _ ha' hds hk
  |_=>exact h.elim
 |loop x ihx=>exact Ap ihx
 |rangeFunc g ps assign body ih1 ih2=>exact CS hP ih1 ih2
 |scope x ihx=>
  intro r an env ds w K n Q ws a0 a h ha hws hQ
  simp only [den] at h
  refine mG (ihx r an env ds w _ n _ ws a0 a h ha hws ?_)
  intro e env' ds' w' a' ha' hds hk
  cases e with
  |goto l=>exact hk.elim
  |_=>exact hQ _ _ _ _ _ ha' hds hk
 |goto l=>intro r an env ds w K n Q ws a0 a h ha hws hQ;exact h.elim
 |refuse y=>intro r an env ds w K n Q ws a0 a h ha hws hQ;exact h.elim
end
end Gp
end
section
namespace Gp
open Go
@[reducible] def uI:List Kind->Type
 |[]=>World->Prop
 |k::r=>k.T->uI r
def flat:List Shape->List Kind
 |[]=>[]
 | .one k::r=>k::flat r
 | .agg ks::r=>ks++flat r
def FX:(ks:List Kind)->(rest:List Kind)->List Value->uI (ks++rest)->(uI rest->Prop)->Prop
 |[],_,[],c,φ=>φ c
 |k::ks,rest,v::vs,c,φ=>k.dec v fun x=>FX ks rest vs (c x) φ
 |_,_,_,_,_=>False
def rX:(sh:List Shape)->List Value->uI (flat sh)->World->Prop
 |[],[],c,w=>c w
 | .one k::r,v::vs,c,w=>k.dec v fun x=>rX r vs (c x) w
 | .agg ks::r,v::vs,c,w=>match v with
  | .agg cs=>FX ks (flat r) cs.toList c fun c'=>rX r vs c' w
  |_=>False
 |_,_,_,_=>False
def xP:(ks:List Kind)->(rest:List Kind)->uI (ks++rest)->(List Value->uI rest->Prop)->Prop
 |[],_,c,φ=>φ [] c
 |k::ks,rest,c,φ=>∃x:k.T,xP ks rest (c x) fun vs c'=>φ (k.enc x::vs) c'
def yQ:(sh:List Shape)->uI (flat sh)->(List Value->Prop)->World->Prop
 |[],c,φ,w=>φ []/\c w
 | .one k::r,c,φ,w=>∃x:k.T,yQ r (c x) (fun vs=>φ (k.enc x::vs)) w
 | .agg ks::r,c,φ,w=>xP ks (flat r) c fun vs c'=>yQ r c' (fun us=>φ (.agg ⟨vs⟩::us)) w
theorem Ew:∀(ks rest:List Kind) (vs:List Value) (c:uI (ks++rest)) (φ:uI rest->Prop),FX ks rest vs c φ->
  ∀ψ:List Value->uI rest->Prop,(∀c',φ c'->ψ vs c')->xP ks rest c ψ:=by
 intro ks
 induction ks with
 |nil=>
  intro rest vs c φ h ψ hψ
  cases vs with
  |nil=>exact hψ c h
  |cons v vs=>exact h.elim
 |cons k ks ih=>
  intro rest vs c φ h ψ hψ
  cases vs with
  |nil=>exact h.elim
  |cons v vs=>
   obtain⟨x,hx,h'⟩:=l7 h
   subst hx
   exact⟨x,ih rest vs (c x) φ h' _ hψ⟩
theorem EK:∀(sh:List Shape) (vs:List Value) (c:uI (flat sh)) (w:World),rX sh vs c w->∀φ:List Value->Prop,φ vs->yQ sh c φ w:=by
 intro sh
 induction sh with
 |nil=>
  intro vs c w h φ hφ
  cases vs with
  |nil=>exact⟨hφ,h⟩
  |cons v vs=>exact h.elim
 |cons s sh ih=>
  intro vs c w h φ hφ
  cases s with
  |one k=>
   cases vs with
   |nil=>exact h.elim
   |cons v vs=>
    obtain⟨x,hx,h'⟩:=l7 h
    subst hx
    exact⟨x,ih vs (c x) w h' (fun vs=>φ (k.enc x::vs)) hφ⟩
  |agg ks=>
   cases vs with
   |nil=>exact h.elim
   |cons v vs=>
    cases v with
    |agg cs=>exact Ew ks (flat sh) cs.toList c _ h _ fun c' h'=>ih vs c' w h' (fun us=>φ (.agg ⟨cs.toList⟩::us)) hφ
    |_=>exact h.elim
def jJ:List Nat->World->(World->Prop)->Prop
 |[],w,K=>K w
 |D::ds,w,K=>w.heap[D]? =some (.deferred (some []))/\jJ ds (w.putObj D (.deferred none)) K
def eu (P:Program):List ResultVar->Env->World->(List Value->Prop)->Prop
 |[],_,_,φ=>φ []
 | .tmp t::r,env,w,φ=>match env.get t with
  |some v=>eu P r env w fun vs=>φ (v::vs)
  |none=>False
 | .cell a t::r,env,w,φ=>match env.get a,shapeOf P t,aB P t with
  |some (.pointer (some ad)),some sh,some n=>cond (Nat.beq sh.cells n) (sh.ld w ad fun v=>eu P r env w fun vs=>φ (v::vs)) False
  |_,_,_=>False
def La (P:Program) (rs:List ResultVar) (sh:List Shape) (Post:uI (flat sh)) (e:Exit) (env:Env) (ds:List Nat) (w:World):Prop:=
 match e with
 | .normal=>jJ ds w fun w'=>eu P rs env w' fun vs=>rX sh vs Post w'
 | .ret=>jJ ds w fun w'=>eu P rs env w' fun vs=>rX sh vs Post w'
 |_=>False
def jV:Nat->List Value->Env
 |_,[]=>[]
 |i,v::vs=>(i,v)::jV (i+1) vs
theorem tq:∀(vs:List Value) (i s:Nat) (v:Value),Env.get (jV i vs) s=some v->i<=s/\vs[s - i]? =some v:=by
 intro vs
 induction vs with
 |nil=>intro i s v h;simp [jV,Env.get] at h
 |cons u vs ih=>
  intro i s v h
  simp only [jV,aS] at h
  by_cases e:i=s
  ·subst e;simp at h;simp [h]
  ·rw [if_neg e] at h
   obtain⟨h1,h2⟩:=ih _ _ _ h
   refine⟨by omega,?_⟩
   obtain⟨m,hm⟩:∃m,s - i=m+1:=⟨s - i - 1,by omega⟩
   rw [hm]
   have:s - (i+1)=m:=by omega
   rw [this] at h2
   simpa using h2
section
variable {P:Program}
def resV (tmps:Array Value) (x:ResultVar):Sem Value:=
 match x with
 | .tmp t=>pure (tmps.getD t undef)
 | .cell b t=>do loadVar t (<- asAddr (tmps.getD b undef))
theorem Ak {a:Act} {env:Env} {w:World} (ha:CO env a):∀(rs:List ResultVar) (φ:List Value->Prop),eu P rs env w φ->
  ∃vs,(rs.mapM (resV a.tmps)).run P w= .ok vs w/\φ vs:=by
 intro rs
 induction rs with
 |nil=>exact fun φ h=>⟨[],by simp,h⟩
 |cons x rs ih=>
  intro φ h
  cases x with
  |tmp t=>
   simp only [eu] at h
   cases hg:env.get t with
   |none=>simp only [hg] at h
   |some v=>
    simp only [hg] at h
    obtain⟨vs,hr,hφ⟩:=ih _ h
    have:=ha t v hg
    refine⟨v::vs,?_,hφ⟩
    rw [List.mapM_cons]
    simp only [resV,Sem.run_bind,Sem.run_pure,Result.andThen_ok,Array.getD_eq_getD_getElem?,this,Option.getD_some,hr]
  |cell b t=>
   simp only [eu] at h
   split at h
   ·rename_i ad sh n hg hs hn
    cases hb:Nat.beq sh.cells n with
    |false=>rw [hb] at h;exact h.elim
    |true=>
     rw [hb] at h
     obtain⟨v,hv,h⟩:=qO (P:=P) hs hn (Nat.eq_of_beq_eq_true hb) h
     obtain⟨vs,hr,hφ⟩:=ih _ h
     have:=ha b _ hg
     refine⟨v::vs,?_,hφ⟩
     rw [List.mapM_cons]
     simp only [resV,Sem.run_bind,Sem.run_pure,Result.andThen_ok,Array.getD_eq_getD_getElem?,this,Option.getD_some,asAddr,hv,hr]
   ·exact h.elim
theorem yg {fn:Func} {a:Act} {env:Env} {w:World} (ha:CO env a) {φ:List Value->Prop} (h:eu P fn.results.toList env w φ):
  ∃vs,(results fn a.tmps).run P w= .ok (bJ vs) w/\φ vs:=by
 obtain⟨vs,hr,hφ⟩:=Ak ha _ _ h
 refine⟨vs,?_,hφ⟩
 have e:results fn a.tmps=(do let vs<- fn.results.mapM (resV a.tmps);pure (if h:vs.size=1 then vs[0] else .tuple vs)):=rfl
 rw [e,Array.mapM_eq_mapM_toList]
 simp only [Sem.run_bind,Sem.run_map]
 rw [hr]
 simp only [Result.andThen_ok,Sem.run_pure]
 congr 1
 match vs with
 |[]=>rfl
 |[v]=>rfl
 |v::u::vs=>rfl
theorem pq {fn:Func} {a:Act} {env:Env} (ha:CO env a) {R:Ending->World->Prop} {φ:List Value->World->Prop} (hR:∀vs w,φ vs w->R (.returned (bJ vs)) w):
  ∀(ds:List Nat) (w:World),jJ ds w (fun w'=>eu P fn.results.toList env w' fun vs=>φ vs w')->LeavesInM (Fr none) 0 P fn a.tmps R (FW ds) .returning w:=by
 intro ds
 induction ds with
 |nil=>
  intro w h
  obtain⟨vs,hr,hφ⟩:=yg ha h
  exact⟨_,hr,hR _ _ hφ⟩
 |cons D ds ih=>
  intro w h
  obtain⟨h1,h2⟩:=h
  exact⟨by simp,.inl ⟨D,_,rfl,run_takeDeferred h1,ih _ h2⟩⟩
theorem Ec (hP:jZ P) {f:FuncId} {fn:Func} {c:Code} {nt:Nat} (hf:P.funcs[f]? =some fn) (hb:fn.body=some c) (hnt:fn.ntmps=nt) {rs:List ResultVar} (hrs:fn.results=⟨rs⟩)
  (sh:List Shape) (Post:uI (flat sh)) (an:jO) (args:List Value) (hl:Nat.ble args.length nt=true) (w:World) (h:den P nt c none an (jV 0 args) [] w (La P rs sh Post)):
  Calls P f ⟨args⟩ w fun e w'=>yQ sh Post (fun us=>e= .returned (bJ us)) w':=by
 refine(callsIn_wide (n:=0)).1 ?_
 refine callsIn_of_wp_marks (F:=Fr none) hf hb trivial ?_ rfl
 have hsz:((⟨args⟩:Array Value)++Array.replicate (fn.ntmps - (⟨args⟩:Array Value).size) undef).size=nt:=by
  have:=Nat.le_of_ble_eq_true hl
  simp [hnt];omega
 refine vO hP nt c none an _ [] w _ 0 _ (writes c) _ _ h ⟨fun s v hs=> ?_,hsz,rfl,fun _ _=>rfl⟩ (fun s hs=>hs) ?_
 ·obtain⟨_,h2⟩:=tq _ _ _ _ hs
  have hlt:=(List.getElem?_eq_some_iff.1 h2).1
  simp only [Nat.sub_zero] at h2 hlt
  show ((⟨args⟩:Array Value)++Array.replicate (fn.ntmps - (⟨args⟩:Array Value).size) undef)[s]? =some v
  rw [Array.getElem?_append_left (by simpa using hlt)]
  simpa using h2
 ·intro e env' ds' w' a' ha' _ hk
  have hcl:∀w',jJ ds' w' (fun w'=>eu P rs env' w' fun vs=>rX sh vs Post w')->
    LeavesInM (Fr none) 0 P fn a'.tmps (fun e w'=>yQ sh Post (fun us=>e= .returned (bJ us)) w') a'.defers .returning w':=by
   intro w' hw'
   rw [ha'.defers]
   have hrs':fn.results.toList=rs:=by rw [hrs]
   rw [<- hrs'] at hw'
   exact pq ha'.agr (φ:=fun vs w'=>rX sh vs Post w') (fun vs w hd=>EK sh vs Post w hd (fun us=>Ending.returned (bJ vs)= .returned (bJ us)) rfl) ds' w' hw'
  cases e with
  |normal=>exact hcl w' hk
  |ret=>exact hcl w' hk
  |_=>exact hk.elim
theorem jZ.Ju (h:(P.funcs.toList.all fun fn=> !(fn.name=="runtime.NumGoroutine"))=true) (hm:P.follows .mixedOrders=true):jZ P:=by
 refine⟨fun f fn hf _=> ?_,hm⟩
 rw [List.all_eq_true] at h
 have:=h fn (List.mem_of_getElem? (by simpa using hf))
 simpa using this
end
def bs (l:List UInt8):ByteArray:=⟨⟨l⟩⟩
def Al (w:World) (o:Obj) (K:Addr->World->Prop):Prop:=K ⟨w.heap.size,0,none⟩ (w.alloc o)
end Gp
end
section
namespace Gp
open Go
def Row (w:World) (b:Nat) (l:List Value):Prop:=∃T,w.heap[b]? =some (.cells ⟨l⟩ T (0,0))
structure eP (w w':World) (S:Nat->Prop):Prop where
 size:w.heap.size<=w'.heap.size
 same:∀b,b<w.heap.size->¬S b->w'.heap[b]? =w.heap[b]?
 io:w'.os=w.os/\w'.tape=w.tape/\w'.output=w.output
theorem aV (b o n:Nat):(⟨b,o,none⟩:Addr).add n=⟨b,o+n,none⟩:=by
 unfold Addr.add
 by_cases h:n=0
 ·simp [h]
 ·simp [h]
section
variable {w w' w1 w2:World} {b b' i:Nat} {l l':List Value} {S S':Nat->Prop}
theorem Row.lt (h:Row w b l):b<w.heap.size:=by
 obtain⟨T,h⟩:=h
 exact(Array.getElem?_eq_some_iff.1 h).1
theorem Row.cell (h:Row w b l) (i:Nat):w.cell? ⟨b,i,none⟩=l[i]? :=by
 obtain⟨T,h⟩:=h
 simp [World.cell?,h]
theorem Row.frozen (h:Row w b l) (i:Nat):w.frozen? ⟨b,i,none⟩=false:=by
 obtain⟨T,h⟩:=h
 simp [World.frozen?,h]
theorem eP.refl (w:World) (S:Nat->Prop):eP w w S:=⟨Nat.le_refl _,fun _ _ _=>rfl,rfl,rfl,rfl⟩
theorem eP.trans (h:eP w w1 S) (h':eP w1 w2 S') (hs:∀b,b<w.heap.size->S' b->S b):eP w w2 S:=
 ⟨Nat.le_trans h.size h'.size,fun b hb hn=>(h'.same b (Nat.lt_of_lt_of_le hb h.size) fun x=>hn (hs b hb x)).trans (h.same b hb hn),h'.io.1.trans h.io.1,h'.io.2.1.trans h.io.2.1,h'.io.2.2.trans h.io.2.2⟩
theorem eP.mono (h:eP w w1 S) (hs:∀b,S b->S' b):eP w w1 S':=⟨h.size,fun b hb hn=>h.same b hb fun x=>hn (hs b x),h.io⟩
theorem eP.drew (w:World) (S:Nat->Prop):eP w w.drew S:=⟨Nat.le_refl _,fun _ _ _=>rfl,rfl,rfl,rfl⟩
theorem eP.alloc (w:World) (o:Obj) (S:Nat->Prop):eP w (w.alloc o) S:=
 ⟨by simp,fun b hb _=>by simp [World.alloc,-World.alloc_eq,Array.getElem?_push];omega,rfl,rfl,rfl⟩
theorem eP.set (w:World) (a:Addr) (v:Value) (hs:S a.block):eP w (w.setCell a v) S:=by
 refine⟨by simp,fun b hb hn=> ?_,rfl,rfl,rfl⟩
 have:¬(a.block=b):=fun e=>hn (e ▸ hs)
 simp [World.setCell,Array.getElem?_modify,this]
theorem Row.fr (h:Row w b l) (hf:eP w w' S) (hs:¬S b):Row w' b l:=by
 have hl:=h.lt
 obtain⟨T,h⟩:=h
 exact⟨T,(hf.same b hl hs).trans h⟩
theorem Row.drew (h:Row w b l):Row w.drew b l:=h
theorem Row.new (w:World) (l:List Value) (T:TypeId):Row (w.alloc (.cells ⟨l⟩ T)) w.heap.size l:=⟨T,World.alloc_heap_new w _⟩
theorem Row.set (h:Row w b l) (i:Nat) (v:Value):Row (w.setCell ⟨b,i,none⟩ v) b (l.set i v):=by
 obtain⟨T,h⟩:=h
 refine⟨T,?_⟩
 simp only [World.setCell,Array.getElem?_modify,if_true,h,Option.map_some]
 congr 2
 simp [Array.setIfInBounds]
 intro hx
 rw [List.set_eq_of_length_le hx]
theorem JI {T:TypeId} {K:Addr->World->Prop} (h:∀b w1,Row w1 b l->b=w.heap.size->w1.heap.size=b+1->(∀S,eP w w1 S)->K ⟨b,0,none⟩ w1):Al w (.cells ⟨l⟩ T) K:=
 h _ _ (Row.new w l T) rfl (by simp) (fun S=>eP.alloc w _ S)
theorem F6 {v:Value} {K:World->Prop} (hr:Row w b l) (h1:dF v=true) (hi:i<l.length)
  (h:∀w1,Row w1 b (l.set i v)->(∀S:Nat->Prop,S b->eP w w1 S)->w1.heap.size=w.heap.size->K w1):St w ⟨b,i,none⟩ v K:=
 ⟨h1,by rw [hr.cell];simp [hi],hr.frozen i,h _ (hr.set i v) (fun S hs=>eP.set w _ v hs) (by simp)⟩
theorem Hr {K:World->Prop}:∀(vs:List Value) (w:World) (l:List Value) (o i:Nat),Row w b l->(∀v∈vs,dF v=true)->o+i+vs.length<=l.length->
  (∀w1,Row w1 b (l.take (o+i)++vs++l.drop (o+i+vs.length))->(∀S:Nat->Prop,S b->eP w w1 S)->w1.heap.size=w.heap.size->K w1)->zB vs w ⟨b,o,none⟩ i K:=by
 intro vs
 induction vs with
 |nil=>
  intro w l o i hr _ _ h
  exact h w (by simpa using hr) (fun S _=>eP.refl _ _) rfl
 |cons v vs ih=>
  intro w l o i hr hv hl h
  simp only [List.length_cons] at hl
  show St w ((⟨b,o,none⟩:Addr).add i) v _
  rw [aV]
  refine F6 hr (hv v (List.mem_cons_self ..)) (by omega) fun w1 r1 f1 z1=> ?_
  refine ih w1 _ o (i+1) r1 (fun u hu=>hv u (List.mem_cons_of_mem _ hu)) (by rw [List.length_set];omega) fun w2 r2 f2 z2=> ?_
  refine h w2 ?_ (fun S hs=>(f1 S hs).trans (f2 S hs) fun _ _ e=>e) (by omega)
  have e1:(l.set (o+i) v).take (o+(i+1))=l.take (o+i)++[v]:=by
   rw [<- Nat.add_assoc,List.take_succ_eq_append_getElem (by simp;omega),List.take_set_of_le (by omega)]
   simp
  have e2:(l.set (o+i) v).drop (o+(i+1)+vs.length)=l.drop (o+i+(vs.length+1)):=by
   rw [List.drop_set_of_lt (by omega)]
   congr 1;omega
  rw [e1,e2] at r2
  simpa using r2
theorem JQ {k:Kind} {x:k.T} {K:k.T->Prop} (hr:Row w b l) (hv:l[i]? =some (k.enc x)) (h:K x):Ld k w ⟨b,i,none⟩ K:=⟨x,by rw [hr.cell];exact hv,h⟩
end
theorem oZ {α:Type} (f:α->List Value) (k:Nat) (hf:∀x,(f x).length=k) (xs:List α):(xs.flatMap f).length=xs.length * k:=by
 induction xs with
 |nil=>simp
 |cons x xs ih=>simp [List.flatMap_cons,hf,ih,Nat.add_mul];omega
theorem flat_get {α:Type} (f:α->List Value) (k:Nat) (hf:∀x,(f x).length=k):∀(xs:List α) (i j:Nat),j<k->(xs.flatMap f)[i * k+j]? =(xs[i]?).bind fun x=>(f x)[j]? :=by
 intro xs
 induction xs with
 |nil=>intro i j _;simp
 |cons x xs ih=>
  intro i j hj
  rw [List.flatMap_cons]
  cases i with
  |zero=>rw [List.getElem?_append_left (by rw [hf];omega)];simp
  |succ i=>
   rw [List.getElem?_append_right (by rw [hf,Nat.add_mul];omega),hf]
   rw [show (i+1) * k+j - k=i * k+j by rw [Nat.add_mul];omega,ih i j hj]
   simp
theorem wrap_i64 {n:Int} (h1: -9223372036854775808<=n) (h2:n<=9223372036854775807):IntKind.i64.wrap n=n:=by
 rw [IntKind.wrap_i64];omega
def LX (k:Kind):Option Value->(k.T->Prop)->Prop
 |some v,K=>k.dec v K
 |none,_=>False
theorem AZ (k:IntKind) (n:Int) (K:Int->Prop):Kind.dec (.int k) (.int k n) K=K n:=by cases k<;>rfl
theorem Eh (b:Bool) (K:Bool->Prop):Kind.dec .bool (.bool b) K=K b:=rfl
theorem Ig (b:ByteArray) (K:ByteArray->Prop):Kind.dec .str (.string b) K=K b:=rfl
theorem GY (a:Option Addr) (K:Option Addr->Prop):Kind.dec .ptr (.pointer a) K=K a:=rfl
theorem DL (a:Option Addr) (l c:Nat) (K:ah->Prop):Kind.dec .slice (.slice a l c) K=K ⟨a,l,c⟩:=rfl
theorem G7 (r:Option Nat) (K:Option Nat->Prop):Kind.dec .map (.map r) K=K r:=rfl
theorem BQ (v:Value) (K:Value->Prop):Kind.dec .any v K=K v:=by cases v<;>rfl
theorem o8 (k:Kind) (x:k.T) (K:k.T->Prop):k.dec (k.enc x) K=K x:=by
 cases k with
 |int k=>exact AZ k x K
 |any=>exact BQ x K
 |_=>rfl
theorem KU (k:Kind) (w:World) (a:Addr) (K:k.T->Prop):Ld k w a K↔LX k (w.cell? a) K:=by
 constructor
 ·rintro⟨x,hx,h⟩
  rw [hx]
  show k.dec (k.enc x) K
  rw [o8];exact h
 ·intro h
  cases hc:w.cell? a with
  |none=>rw [hc] at h;exact h.elim
  |some v=>
   rw [hc] at h
   obtain⟨x,hx,h⟩:=l7 h
   exact⟨x,by rw [hc,hx],h⟩
theorem FP (k:Kind) (v:Value) (K:k.T->Prop):LX k (some v) K=k.dec v K:=rfl
theorem CP (a:Addr) (l c size:Nat) (i:Int) (K:Addr->Prop):Aw ⟨some a,l,c⟩ size i K↔(0<=i/\i<(l:Int)/\K (a.add (i.toNat * size))):=by
 constructor
 ·rintro⟨a',h,h0,h1,h2⟩
  cases h
  exact⟨h0,h1,h2⟩
 ·rintro⟨h0,h1,h2⟩
  exact⟨a,rfl,h0,h1,h2⟩
theorem Gs {α:Type} (x:α) (P:α->Prop):(∃a,some x=some a/\P a)↔P x:=by
 constructor
 ·rintro⟨a,h,hp⟩;cases h;exact hp
 ·exact fun h=>⟨x,rfl,h⟩
end Gp
end
section
namespace Gp
open Go Go.ChangeShapes Go.WideShapes
inductive aX
 |bool|int (k:IntKind)|str
 |slice (e:aX) (n:Nat)
 |agg (r:aX)
 |nil|cons (d:aX) (n:Nat) (r:aX)
 |arr (k:Nat) (d:aX) (n:Nat)
def aX.T:aX->Type
 | .bool=>Bool
 | .int _=>Int
 | .str=>ByteArray
 | .slice e _=>ah×List e.T
 | .agg r=>r.T
 | .nil=>Unit
 | .cons d _ r=>d.T×r.T
 | .arr _ d _=>List d.T
def aX.cells:(d:aX)->d.T->List Value
 | .bool,b=>[.bool b]
 | .int k,n=>[.int k n]
 | .str,s=>[.string s]
 | .slice _ _,x=>[.slice x.1.a x.1.len x.1.cap]
 | .agg r,x=>r.cells x
 | .nil,_=>[]
 | .cons d _ r,x=>d.cells x.1++r.cells x.2
 | .arr _ d _,xs=>xs.flatMap d.cells
def rQ {α:Type} (w:World) (s:ah) (n:Nat) (f:α->List Value) (xs:List α):Prop:=
 s.len=xs.length/\s.len<=s.cap/\s.cap<=maxLen/\(xs≠[]->∃b o,s.a=some ⟨b,o,none⟩/\b<w.heap.size/\∀i x,xs[i]? =some x->(f x).length=n/\∀j v,(f x)[j]? =some v->w.cell? ⟨b,o+i * n+j,none⟩=some v)
def LC {α:Type} (k:Nat) (p:α->Prop) (xs:List α):Prop:=xs.length=k/\∀y∈xs,p y
def aX.In (w:World):(d:aX)->d.T->Prop
 | .bool,_=>True
 | .int k,n=>(Lit.int k n).wf=true
 | .str,s=>s.size<=maxLen
 | .slice e n,x=>rQ w x.1 n e.cells x.2/\∀y∈x.2,e.In w y
 | .agg r,x=>r.In w x
 | .nil,_=>True
 | .cons d _ r,x=>d.In w x.1/\r.In w x.2
 | .arr k d _,xs=>LC k (fun y:d.T=>d.In w y) xs
def aX.ok (P:Program):aX->Sum TypeId (Nat×Nat×List Field)->Bool
 | .bool,.inl t=>match P.underlying t with|some .bool=>true|_=>false
 | .int k,.inl t=>match P.underlying t with|some (.int k')=>decide (k'=k)|_=>false
 | .str,.inl t=>match P.underlying t with|some .string=>true|_=>false
 | .slice e n,.inl t=>match P.underlying t with|some (.slice e')=>Nat.beq (P.cellsOf e') n && Nat.blt 0 n && e.ok P (.inl e')|_=>false
 | .agg r,.inl t=>match P.underlying t with|some (.struct fs)=>r.ok P (.inr (0,P.cellsOf t,fs.toList))|_=>false
 | .arr k d n,.inl t=>match P.underlying t with|some (.array k' e')=>Nat.beq k' k && Nat.beq (P.cellsOf e') n && Nat.beq (P.cellsOf t) (k * n) && d.ok P (.inl e')|_=>false
 | .nil,.inr (o,n,[])=>Nat.beq o n
 | .cons d n r,.inr (o,m,f::fs)=>Nat.beq f.offset o && Nat.beq (P.cellsOf f.type) n && d.ok P (.inl f.type) && r.ok P (.inr (o+n,m,fs))
 |_,_=>false
theorem vX {α:Type} {n:Nat} {p:Nat->α->Prop} (h:∀i,i<n->∃x,p i x):∃xs:List α,xs.length=n/\∀i x,xs[i]? =some x->p i x:=by
 induction n with
 |zero=>exact⟨[],rfl,fun i x h=>by simp at h⟩
 |succ n ih=>
  obtain⟨xs,hl,hx⟩:=ih fun i hi=>h i (by omega)
  obtain⟨y,hy⟩:=h n (by omega)
  refine⟨xs++[y],by simp [hl],fun i x hi=> ?_⟩
  by_cases hlt:i<n
  ·rw [List.getElem?_append_left (by omega)] at hi
   exact hx i x hi
  ·have hlen:=(List.getElem?_eq_some_iff.1 hi).1
   simp only [List.length_append,List.length_singleton] at hlen
   have:i=n:=by omega
   subst this
   rw [List.getElem?_append_right (by omega)] at hi
   simp [hl] at hi
   exact hi ▸ hy
theorem Gj {α:Type} (f:α->List Value) (n:Nat):∀(xs:List α) (cs:List Value),cs.length=xs.length * n->(∀i x,xs[i]? =some x->(cs.drop (i * n)).take n=f x)->cs=xs.flatMap f:=by
 intro xs
 induction xs with
 |nil=>intro cs hl _;simpa using hl
 |cons x xs ih=>
  intro cs hl h
  have h0:=h 0 x rfl
  simp at h0
  have:=ih (cs.drop n) (by simp [hl,Nat.add_mul]) fun i y hi=>by
   have:=h (i+1) y (by simpa using hi)
   rwa [Nat.add_mul,Nat.one_mul,Nat.add_comm,<- List.drop_drop] at this
  rw [List.flatMap_cons,<- h0,<- this,List.take_append_drop]
section
variable {H:Type} {enc:TypeId×Value->H} {P:Program} {w:World} {base:Nat} {sp:Nat->Bool} {held:Bool}
theorem beq_iff {a b:Nat}:Nat.beq a b=true↔a=b:=⟨Nat.eq_of_beq_eq_true,fun h=>by subst h;simp⟩
theorem aX.open (d:aX):(∀(t:TypeId),d.ok P (.inl t)=true->∀(fuel:Nat) (cs:List Value) (x:DataW H×List MemPlace),DataW.trod enc P w base sp held fuel t cs=some x->∃v:d.T,cs=d.cells v/\d.In w v)/\
  (∀(o m:Nat) (fs:List Field),d.ok P (.inr (o,m,fs))=true->∀(fuel:Nat) (cs:List Value),cs.length=m->(∀f∈fs,∃x,DataW.trod enc P w base sp held fuel f.type ((cs.drop f.offset).take (P.cellsOf f.type))=some x)->∃v:d.T,cs.drop o=d.cells v/\d.In w v):=by
 induction d with
 |bool=>
  refine⟨fun t ht fuel cs x h=> ?_,fun o m fs h=>by simp [aX.ok] at h⟩
  simp only [aX.ok] at ht
  split at ht
  ·rename_i hu
   obtain⟨b,rfl,_⟩:=DataW.trod_bool hu h
   exact⟨b,rfl,trivial⟩
  ·cases ht
 |int k=>
  refine⟨fun t ht fuel cs x h=> ?_,fun o m fs h=>by simp [aX.ok] at h⟩
  simp only [aX.ok] at ht
  split at ht
  ·rename_i k' hu
   have:=of_decide_eq_true ht
   subst this
   obtain⟨n,rfl,_,hw⟩:=DataW.trod_int hu h
   exact⟨n,rfl,hw⟩
  ·cases ht
 |str=>
  refine⟨fun t ht fuel cs x h=> ?_,fun o m fs h=>by simp [aX.ok] at h⟩
  simp only [aX.ok] at ht
  split at ht
  ·rename_i hu
   obtain⟨b,rfl,_,hw⟩:=DataW.trod_string hu h
   exact⟨b,rfl,hw⟩
  ·cases ht
 |slice e n ih=>
  refine⟨fun t ht fuel cs x h=> ?_,fun o m fs h=>by simp [aX.ok] at h⟩
  simp only [aX.ok] at ht
  split at ht
  case h_2=>cases ht
  rename_i e' hu
  simp only [Bool.and_eq_true,beq_iff,Nat.blt_eq] at ht
  obtain⟨⟨hn,hpos⟩,he⟩:=ht
  rcases Go.Deep.open_slice hu h with ⟨rfl,rfl⟩|⟨a,len,cap,m,g,D,Pl,rfl,hb,hl,hm,hmm,rfl,hx⟩
  ·exact⟨(⟨none,0,0⟩,[]),rfl,⟨rfl,Nat.le_refl _,by simp [maxLen],fun h=>absurd rfl h⟩,fun y hy=>by simp at hy⟩
  ·have hlm:len<=m:=by rw [hmm];split<;>omega
   obtain⟨xs,hxl,hxs⟩:=vX (n:=len) (p:=fun i (v:e.T)=>(e.cells v).length=n/\(∀j,j<n->w.cell? (a.add (i * n+j))=(e.cells v)[j]?)/\e.In w v) fun i hi=>by
    obtain⟨cs',h1,h2⟩:=hx i (by omega)
    obtain⟨_,hlen,hcell⟩:=World.cells?_some h1
    obtain⟨v,rfl,hv⟩:=ih.1 e' he _ _ _ h2
    rw [hn] at hlen hcell
    exact⟨v,hlen,fun j hj=>by rw [<- Go.Deep.add_add];exact hcell j hj,hv⟩
   refine⟨(⟨some a,len,cap⟩,xs),rfl,⟨by simp [hxl],hl,hm,fun hne=> ?_⟩,fun y hy=> ?_⟩
   ·obtain⟨b,o,spot⟩:=a
    have hx0:∃x0,xs[0]? =some x0:=by cases xs with
     |nil=>exact absurd rfl hne
     |cons x _=>exact⟨x,rfl⟩
    obtain⟨x0,hx0⟩:=hx0
    obtain⟨l0,c0,_⟩:=hxs 0 x0 hx0
    have c00:=c0 0 hpos
    rw [List.getElem?_eq_getElem (by omega)] at c00
    have hs:=World.cell?_spot c00
    have hspot:spot=none:=by simpa [Addr.add] using hs
    subst hspot
    refine⟨b,o,rfl,?_,fun i x hi=>⟨(hxs i x hi).1,fun j v hj=> ?_⟩⟩
    ·simp only [Nat.zero_mul,Nat.zero_add] at c00
     rw [aV] at c00
     unfold World.cell? at c00
     cases hb:w.heap[b]? with
     |none=>simp [hb] at c00
     |some o=>exact(Array.getElem?_eq_some_iff.1 hb).1
    ·have:=(hxs i x hi).2.1 j (by rw [<- (hxs i x hi).1];exact(List.getElem?_eq_some_iff.1 hj).1)
     rw [aV,hj] at this
     rw [Nat.add_assoc];exact this
   ·obtain⟨i,hi⟩:=List.getElem?_of_mem hy
    exact(hxs i y hi).2.2
 |agg r ih=>
  refine⟨fun t ht fuel cs x h=> ?_,fun o m fs h=>by simp [aX.ok] at h⟩
  simp only [aX.ok] at ht
  split at ht
  case h_2=>cases ht
  rename_i fs hu
  obtain⟨xs,n,rfl,_,hl,hxl,hf⟩:=DataW.trod_struct hu h
  obtain⟨v,hv,hi⟩:=ih.2 0 _ _ ht n cs hl fun f hf'=>by
   obtain⟨i,hi⟩:=List.getElem?_of_mem hf'
   have hi':fs[i]? =some f:=by simpa using hi
   have:=hf i f hi'
   have hlt:i<xs.length:=by
    rw [hxl]
    exact(Array.getElem?_eq_some_iff.1 hi').1
   rw [List.getElem?_eq_getElem hlt] at this
   exact⟨_,this⟩
  exact⟨v,hv,hi⟩
 |nil=>
  refine⟨fun t h=>by simp [aX.ok] at h,fun o m fs h fuel cs hl hf=> ?_⟩
  cases fs with
  |nil=>
   simp only [aX.ok,beq_iff] at h
   subst h
   exact⟨(),by simp [aX.cells,hl],trivial⟩
  |cons f fs=>simp [aX.ok] at h
 |cons d n r ihd ihr=>
  refine⟨fun t h=>by simp [aX.ok] at h,fun o m fs h fuel cs hl hf=> ?_⟩
  cases fs with
  |nil=>simp [aX.ok] at h
  |cons f fs=>
   simp only [aX.ok,Bool.and_eq_true,beq_iff] at h
   obtain⟨⟨⟨h1,h2⟩,h3⟩,h4⟩:=h
   obtain⟨x,hx⟩:=hf f (List.mem_cons_self ..)
   obtain⟨v,hv,hiv⟩:=ihd.1 _ h3 _ _ _ hx
   obtain⟨u,hu,hiu⟩:=ihr.2 _ _ _ h4 fuel cs hl fun g hg=>hf g (List.mem_cons_of_mem _ hg)
   refine⟨(v,u),?_,hiv,hiu⟩
   rw [h1,h2] at hv
   show cs.drop o=d.cells v++r.cells u
   rw [<- hv,<- hu,<- List.drop_drop,List.take_append_drop]
 |arr k d n ih=>
  refine⟨fun t ht fuel cs x h=> ?_,fun o m fs h=>by simp [aX.ok] at h⟩
  simp only [aX.ok] at ht
  split at ht
  case h_2=>cases ht
  rename_i k' e' hu
  simp only [Bool.and_eq_true,beq_iff] at ht
  obtain⟨⟨⟨hk,hn⟩,hc⟩,he⟩:=ht
  obtain⟨xs,g,rfl,_,hl,hxl,hf⟩:=DataW.trod_array hu h
  obtain⟨vs,hvl,hvs⟩:=vX (n:=k) (p:=fun i (v:d.T)=>(cs.drop (i * n)).take n=d.cells v/\d.In w v) fun i hi=>by
   have:=hf i (by omega)
   rw [List.getElem?_eq_getElem (by omega)] at this
   rw [hn] at this
   exact ih.1 _ he _ _ _ this
  refine⟨vs,?_,hvl,fun y hy=> ?_⟩
  ·exact Gj d.cells n vs cs (by rw [hl,hc,hvl]) fun i x hi=>(hvs i x hi).1
  ·obtain⟨i,hi⟩:=List.getElem?_of_mem hy
   exact(hvs i y hi).2
def aX.value:(d:aX)->d.T->Value
 | .bool,b=> .bool b
 | .int k,n=> .int k n
 | .str,s=> .string s
 | .slice _ _,x=> .slice x.1.a x.1.len x.1.cap
 | .agg r,x=> .agg ⟨r.cells x⟩
 | .nil,_=> .agg #[]
 | .cons d n r,x=> .agg ⟨(aX.cons d n r).cells x⟩
 | .arr k d n,xs=> .agg ⟨(aX.arr k d n).cells xs⟩
theorem aX.arg (d:aX) {base0:Nat} {t:TypeId} {v:Value} {y:DataW H} {ps:List MemPlace} (ht:d.ok P (.inl t)=true) (hval:Value.okWide P w .any base0 t v) (h:DataW.Trod enc P w base sp held t v y ps):∃x:d.T,v=d.value x/\d.In w x:=by
 obtain⟨fuel,h⟩:=h
 obtain⟨x,hc,hi⟩:=d.open.1 t ht fuel _ _ h
 refine⟨x,?_,hi⟩
 unfold Value.okWide at hval
 cases d with
 |bool=>
  simp only [aX.ok] at ht
  split at ht
  ·rename_i hu
   simp only [hu,Cell.okWide] at hval
   cases v<;>simp_all [Cell.ok,Value.cells,aX.cells,aX.value]
  ·cases ht
 |int k=>
  simp only [aX.ok] at ht
  split at ht
  ·rename_i k' hu
   simp only [hu,Cell.okWide] at hval
   cases v<;>simp_all [Cell.ok,Value.cells,aX.cells,aX.value]
  ·cases ht
 |str=>
  simp only [aX.ok] at ht
  split at ht
  ·rename_i hu
   simp only [hu,Cell.okWide] at hval
   cases v<;>simp_all [Cell.ok,Value.cells,aX.cells,aX.value]
  ·cases ht
 |slice e n=>
  simp only [aX.ok] at ht
  split at ht
  ·rename_i k' hu
   simp only [hu,Cell.okWide] at hval
   cases v<;>simp_all [Cell.ok,Value.cells,aX.cells,aX.value]
  ·cases ht
 |agg r=>
  simp only [aX.ok] at ht
  split at ht
  ·rename_i fs hu
   simp only [hu] at hval
   obtain⟨cs,rfl,_⟩:=hval
   show Value.agg cs=Value.agg ⟨r.cells x⟩
   rw [<- show cs.toList=r.cells x from hc]
  ·cases ht
 |arr k e n=>
  simp only [aX.ok] at ht
  split at ht
  ·rename_i k' e' hu
   simp only [hu] at hval
   obtain⟨cs,rfl,_⟩:=hval
   show Value.agg cs=Value.agg ⟨(aX.arr k e n).cells x⟩
   rw [<- show cs.toList=(aX.arr k e n).cells x from hc]
  ·cases ht
 |nil=>simp [aX.ok] at ht
 |cons d n r=>simp [aX.ok] at ht
end
theorem DC {w w':World} {b i:Nat} (hf:∀S,eP w w' S) (hb:b<w.heap.size):w'.cell? ⟨b,i,none⟩=w.cell? ⟨b,i,none⟩:=by
 have:=(hf fun _=>False).same b hb (by simp)
 simp [World.cell?,this]
theorem rQ.fr {α:Type} {w w':World} {s:ah} {n:Nat} {f:α->List Value} {xs:List α} (h:rQ w s n f xs) (hf:∀S,eP w w' S):rQ w' s n f xs:=by
 obtain⟨h1,h2,h3,h4⟩:=h
 refine⟨h1,h2,h3,fun hne=> ?_⟩
 obtain⟨b,o,ha,hb,hc⟩:=h4 hne
 exact⟨b,o,ha,Nat.lt_of_lt_of_le hb (hf fun _=>False).size,fun i x hi=>⟨(hc i x hi).1,fun j v hj=>by rw [DC hf hb];exact(hc i x hi).2 j v hj⟩⟩
theorem aX.In.fr {w w':World} (hf:∀S,eP w w' S):∀(d:aX) (x:d.T),d.In w x->d.In w' x:=by
 intro d
 induction d with
 |bool=>exact fun _ h=>h
 |int k=>exact fun _ h=>h
 |str=>exact fun _ h=>h
 |slice e n ih=>exact fun x h=>⟨h.1.fr hf,fun y hy=>ih y (h.2 y hy)⟩
 |agg r ih=>exact fun x h=>ih x h
 |nil=>exact fun _ h=>h
 |cons d n r ih1 ih2=>exact fun x h=>⟨ih1 _ h.1,ih2 _ h.2⟩
 |arr k d n ih=>exact fun xs h=>⟨h.1,fun y hy=>ih y (h.2 y hy)⟩
theorem EF {W w':World} (h:∀S,eP W w' S):Go.RowKit.Below W.heap.size W w':=
 ⟨(h fun _=>False).io.1,(h fun _=>False).io.2.1,(h fun _=>False).io.2.2,(h fun _=>False).size,fun k hk=>(h fun _=>False).same k hk (by simp)⟩
end Gp
end
section
namespace Gp
open Go
def Buf (w:World) (s:ah) (vs:List Value):Prop:=
 s.len=vs.length/\((s.a=none/\vs=[]/\s.cap=0)\/∃b pad,s.a=some ⟨b,0,none⟩/\s.cap=vs.length+pad.length/\Row w b (vs++pad))
def ah.at (s:ah) (b:Nat):Prop:=∃o,s.a=some ⟨b,o,none⟩
theorem Buf.cells {w:World} {s:ah} {vs:List Value} (h:Buf w s vs):fF w s.a s.len vs:=by
 obtain⟨hl,⟨ha,rfl,_⟩|⟨b,pad,ha,_,hr⟩⟩:=h
 ·rw [ha];rfl
 ·rw [ha]
  refine⟨hl.symm,fun j hj=> ?_⟩
  rw [aV,hr.cell,Nat.zero_add,List.getElem?_append_left hj]
theorem Buf.fr {w w':World} {s:ah} {vs:List Value} {S:Nat->Prop} (h:Buf w s vs) (hf:eP w w' S) (hs:∀b,ah.at s b->¬S b):Buf w' s vs:=by
 obtain⟨hl,⟨ha,h1,h2⟩|⟨b,pad,ha,hc,hr⟩⟩:=h
 ·exact⟨hl,.inl ⟨ha,h1,h2⟩⟩
 ·exact⟨hl,.inr ⟨b,pad,ha,hc,hr.fr hf (hs b ⟨0,ha⟩)⟩⟩
end Gp
end
section
namespace Gp
open Go
abbrev Ext (w w':World):Prop:=∀S:Nat->Prop,eP w w' S
theorem Ext.refl (w:World):Ext w w:=fun S=>eP.refl w S
theorem Ext.trans {w w1 w2:World} (h:Ext w w1) (h':Ext w1 w2):Ext w w2:=fun S=>(h S).trans (h' S) fun _ _ e=>e
theorem Ext.drew (w:World):Ext w w.drew:=fun S=>eP.drew w S
theorem Ext.fr {w w1 w2:World} {S:Nat->Prop} (h:Ext w w1) (h':eP w1 w2 S):eP w w2 S:=(h S).trans h' fun _ _ e=>e
theorem eP.ext {w w1 w2:World} {S:Nat->Prop} (h:eP w w1 S) (h':Ext w1 w2):eP w w2 S:=h.trans (h' S) fun _ _ e=>e
theorem eP.new {w w':World} {S:Nat->Prop} (h:eP w w' S) (hs:∀b,b<w.heap.size->¬S b):Ext w w':=fun _=>⟨h.size,fun b hb _=>h.same b hb (hs b hb),h.io⟩
theorem Ext.new {w w1 w2:World} {S:Nat->Prop} (h:Ext w w1) (h':eP w1 w2 S) (hs:∀b,b<w.heap.size->¬S b):Ext w w2:=(h.fr h').new hs
theorem Ext.size {w w':World} (h:Ext w w'):w.heap.size<=w'.heap.size:=(h fun _=>False).size
theorem Row.ext {w w':World} {b:Nat} {l:List Value} (h:Row w b l) (hf:Ext w w'):Row w' b l:=h.fr (hf fun _=>False) (by simp)
theorem Buf.ext {w w':World} {s:ah} {vs:List Value} (h:Buf w s vs) (hf:Ext w w'):Buf w' s vs:=h.fr (hf fun _=>False) (fun _ _=>by simp)
theorem eP.EM (w:World) (b:Nat) (o:Obj):eP w (w.putObj b o) (·=b):=
 ⟨by simp [World.putObj],fun c _ hn=>by simp [World.putObj,Array.getElem?_setIfInBounds];intro e;exact absurd e.symm hn,rfl,rfl,rfl⟩
theorem Hl {w:World} {T:TypeId} {l:List Value} {K:Addr->World->Prop} (h:∀b w1,Row w1 b l->b=w.heap.size->w1.heap.size=b+1->Ext w w1->K ⟨b,0,none⟩ w1):Al w (.cells ⟨l⟩ T) K:=JI h
theorem FZ {w:World} {b:Nat} {l:List Value} {vs:List Value} {K:World->Prop} (hr:Row w b l) (hv:vs.all dF=true) (hl:vs.length=l.length)
  (h:∀w1,Row w1 b vs->(∀S:Nat->Prop,S b->eP w w1 S)->w1.heap.size=w.heap.size->K w1):zB vs w ⟨b,0,none⟩ 0 K:=by
 refine Hr vs w l 0 0 hr (fun v h=>List.all_eq_true.1 hv v h) (by omega) fun w1 r1 f1 z1=>h w1 ?_ f1 z1
 have:List.drop vs.length l=[]:=by rw [hl];simp
 simpa [this] using r1
theorem G8 (w:World) (a:Addr) (i:Nat) (K:World->Prop):zB [] w a i K=K w:=rfl
theorem block_add (a:Addr) (j:Nat):(a.add j).block=a.block:=by unfold Addr.add;split<;>rfl
theorem cell_lt {w:World} {a:Addr} {v:Value} (h:w.cell? a=some v):a.block<w.heap.size:=by
 unfold World.cell? at h
 cases hh:w.heap[a.block]? with
 |none=>simp [hh] at h
 |some o=>exact(Array.getElem?_eq_some_iff.1 hh).1
theorem BU {w w':World} {a:Addr} {v:Value} {S:Nat->Prop} (h:w.cell? a=some v) (hf:eP w w' S) (hs:¬S a.block):w'.cell? a=some v:=by
 have:=hf.same a.block (cell_lt h) hs
 rw [<- h]
 simp only [World.cell?,this]
theorem eP.bn (W:World) (l:Nat) (st:LoopState) (p:Option Code):eP W (Gp.bn W l st p) (·=l):=
 ⟨by simp [Gp.bn],fun b _ hn=>by simp [Gp.bn,Array.getElem?_modify];omega,rfl,rfl,rfl⟩
theorem eP.gQ (W:World) (l:Nat):eP W (Gp.gQ W l) (·=l):=
 ⟨by simp [Gp.gQ],fun b _ hn=>by simp [Gp.gQ,Array.getElem?_modify];omega,rfl,rfl,rfl⟩
end Gp
end
section
namespace Gp
open Go
def bytesV (l:List UInt8):List Value:=l.map fun b=> .int .u8 b.toNat
theorem eG (l:List UInt8):(bytesV l).length=l.length:=by simp [bytesV]
def xG (w:World) (s:ah) (l:List UInt8):Prop:=s.len=l.length/\fF w s.a s.len (bytesV l)/\s.len<=s.cap
theorem xG.nil {w:World}:xG w ⟨none,0,0⟩ []:=⟨rfl,rfl,Nat.le_refl _⟩
theorem xG.at_ {w:World} {s:ah} {l:List UInt8} (h:xG w s l) {i:Nat} {b:UInt8} (hi:l[i]? =some b):∃a,s.a=some a/\w.cell? (a.add i)=some (.int .u8 b.toNat):=by
 have hlt:=(List.getElem?_eq_some_iff.1 hi).1
 have hc:=h.2.1
 cases hsa:s.a with
 |none=>
  rw [hsa] at hc
  have:(bytesV l).length=0:=by rw [show bytesV l=[] from hc];rfl
  rw [eG] at this;omega
 |some a=>
  rw [hsa] at hc
  refine⟨a,rfl,?_⟩
  rw [hc.2 i (by rw [eG];exact hlt)]
  simp [bytesV,hi]
theorem xG.empty {w:World} {s:ah} {l:List UInt8} (h:xG w s l) (ha:s.a= .none):l=[]:=by
 have:=h.2.1
 rw [ha] at this
 have h2:bytesV l=[]:=this
 simpa [bytesV] using h2
theorem xG.fr {w w':World} {s:ah} {l:List UInt8} {S:Nat->Prop} (h:xG w s l) (hf:eP w w' S) (hs:∀a,s.a=some a->0<l.length->¬S a.block):xG w' s l:=by
 refine⟨h.1,?_,h.2.2⟩
 have hc:=h.2.1
 cases hsa:s.a with
 |none=>rw [hsa] at hc;exact hc
 |some a=>
  rw [hsa] at hc
  refine⟨hc.1,fun j hj=> ?_⟩
  have:=hc.2 j hj
  rw [List.getElem?_eq_getElem hj] at this ⊢
  exact BU this hf (by rw [block_add];exact hs a hsa (by rw [eG] at hj;omega))
theorem xG.lt {w:World} {s:ah} {l:List UInt8} (h:xG w s l) {a:Addr} (ha:s.a=some a) (hl:0<l.length):a.block<w.heap.size:=by
 obtain⟨a',h1,h2⟩:=h.at_ (List.getElem?_eq_getElem hl)
 rw [ha] at h1;cases h1
 have:=cell_lt h2
 rwa [block_add] at this
theorem xG.ext {w w':World} {s:ah} {l:List UInt8} (h:xG w s l) (hf:Ext w w'):xG w' s l:=h.fr (hf fun _=>False) (by simp)
theorem vK (a:Addr) (i j:Nat):(a.add i).add j=a.add (i+j):=by
 unfold Addr.add
 by_cases h0:i=0<;>by_cases h1:j=0<;>simp [h0,h1,Nat.add_assoc]
theorem xG.cut {w:World} {s:ah} {l:List UInt8} {lo hi:Nat} (h:xG w s l) (h1:lo<=hi) (h2:hi<=l.length) (c:Nat) (hc':hi<=c) (m:Nat) (hm:m=lo->s.a= .none\/lo=hi\/lo=0):
  xG w ⟨lH s.a m lo 1,hi - lo,c - lo⟩ ((l.take hi).drop lo):=by
 refine⟨by simp;omega,?_,by simp only;omega⟩
 have hc:=h.2.1
 cases hsa:s.a with
 |none=>
  have:l=[]:=h.empty hsa
  subst this
  simp only [lH]
  split<;>simp [fF,bytesV]
 |some a=>
  rw [hsa] at hc
  by_cases hml:m=lo
  ·rcases hm hml with hx|hx|hx
   ·rw [hsa] at hx;cases hx
   ·subst hx
    simp only [lH,hml,if_true,Nat.sub_self]
    have:List.drop lo (List.take lo l)=[]:=by simp
    rw [this]
    exact⟨rfl,fun j hj=>by simp [bytesV] at hj⟩
   ·subst hx
    simp only [lH,hml,if_true,Nat.sub_zero,List.drop_zero]
    refine⟨by simp [bytesV];omega,fun j hj=> ?_⟩
    simp only [eG,List.length_take] at hj
    rw [hc.2 j (by rw [eG];omega)]
    simp only [bytesV,List.getElem?_map,List.getElem?_take]
    rw [if_pos (by omega)]
  ·simp only [lH,hml,if_false,Option.map_some]
   refine⟨by simp only [eG,List.length_drop,List.length_take];omega,fun j hj=> ?_⟩
   simp only [eG,List.length_take,List.length_drop] at hj
   rw [vK,Nat.mul_one,hc.2 (lo+j) (by rw [eG];omega)]
   simp only [bytesV,List.getElem?_map,List.getElem?_take,List.getElem?_drop]
   rw [if_pos (by omega)]
theorem xG.row {w:World} {b:Nat} {l:List UInt8} (h:Row w b (bytesV l)):Buf w ⟨some ⟨b,0,none⟩,l.length,l.length⟩ (bytesV l):=
 ⟨by simp [bytesV],.inr ⟨b,[],rfl,by simp [bytesV],by simpa using h⟩⟩
theorem Buf.nil {w:World}:Buf w ⟨none,0,0⟩ []:=⟨rfl,.inl ⟨rfl,rfl,rfl⟩⟩
theorem Buf.set {w:World} {s:ah} {vs:List Value} (h:Buf w s vs) {i:Nat} (hi:i<vs.length):∃b,s.a=some ⟨b,0,none⟩/\∀(v:Value) (K:World->Prop),dF v=true->
  (∀w',Buf w' s (vs.set i v)->eP w w' (ah.at s)->w'.heap.size=w.heap.size->K w')->St w ⟨b,i,none⟩ v K:=by
 obtain⟨hl,⟨_,h1,_⟩|⟨b,pad,ha,hc,hr⟩⟩:=h
 ·rw [h1] at hi;simp at hi
 ·refine⟨b,ha,fun v K hv hK=>F6 hr hv (by simp;omega) fun w1 r1 f1 z1=>hK w1 ⟨by simp [hl],.inr ⟨b,pad,ha,by simp [hc],?_⟩⟩ (f1 _ ⟨0,ha⟩) z1⟩
  rw [List.set_append_left _ _ hi] at r1
  exact r1
theorem Buf.lt {w:World} {s:ah} {vs:List Value} (h:Buf w s vs) {b:Nat} (hb:ah.at s b):b<w.heap.size:=by
 obtain⟨o,hb⟩:=hb
 obtain⟨_,⟨ha,_,_⟩|⟨c,pad,ha,_,hr⟩⟩:=h
 ·rw [ha] at hb;cases hb
 ·rw [ha] at hb;cases hb;exact hr.lt
end Gp
end
section
namespace Gp
open Go
structure pF {α:Type} (n:Nat) (f:α->List Value) (w:World) (s:ah) (xs:List α):Prop where
 len:s.len=xs.length
 mem:(s.a=none/\xs=[]/\s.cap=0)\/∃b pad,s.a=some ⟨b,0,none⟩/\s.cap * n=xs.length * n+pad.length/\Row w b (xs.flatMap f++pad)
structure Bv {α:Type} (n:Nat) (f:α->List Value) (w:World) (s:ah) (xs:List α):Prop where
 len:s.len=xs.length
 cells:fF w s.a (s.len * n) (xs.flatMap f)
 cap:s.len<=s.cap
section
variable {α:Type} {n:Nat} {f:α->List Value} {w w':World} {s:ah} {xs:List α}
theorem pF.nil:pF n f w ⟨none,0,0⟩ []:=⟨rfl,.inl ⟨rfl,rfl,rfl⟩⟩
theorem pF.lt (h:pF n f w s xs) {b:Nat} (hb:ah.at s b):b<w.heap.size:=by
 obtain⟨o,hb⟩:=hb
 obtain⟨_,⟨ha,_,_⟩|⟨c,pad,ha,_,hr⟩⟩:=h
 ·rw [ha] at hb;cases hb
 ·rw [ha] at hb;cases hb;exact hr.lt
theorem pF.fr {S:Nat->Prop} (h:pF n f w s xs) (hf:eP w w' S) (hs:∀b,ah.at s b->¬S b):pF n f w' s xs:=by
 obtain⟨hl,⟨ha,h1,h2⟩|⟨b,pad,ha,hc,hr⟩⟩:=h
 ·exact⟨hl,.inl ⟨ha,h1,h2⟩⟩
 ·exact⟨hl,.inr ⟨b,pad,ha,hc,hr.fr hf (hs b ⟨0,ha⟩)⟩⟩
theorem pF.ext (h:pF n f w s xs) (hf:Ext w w'):pF n f w' s xs:=h.fr (hf fun _=>False) (fun _ _=>by simp)
theorem pF.sl (hn:∀x,(f x).length=n) (h0:0<n) (h:pF n f w s xs):Bv n f w s xs:=by
 obtain⟨hl,⟨ha,rfl,hc⟩|⟨b,pad,ha,hc,hr⟩⟩:=h
 ·exact⟨hl,by rw [ha];rfl,by rw [hl];simp⟩
 ·refine⟨hl,?_,?_⟩
  ·rw [ha]
   refine⟨by rw [oZ f n hn,hl],fun j hj=> ?_⟩
   rw [aV,hr.cell,Nat.zero_add,List.getElem?_append_left hj]
  ·rw [hl]
   exact Nat.le_of_mul_le_mul_right (by omega:xs.length * n<=s.cap * n) h0
theorem Bv.nil:Bv n f w ⟨none,0,0⟩ []:=⟨rfl,rfl,Nat.le_refl _⟩
theorem Bv.at_ (hn:∀x,(f x).length=n) (h0:0<n) (h:Bv n f w s xs) {i:Nat} {x:α} (hi:xs[i]? =some x):∃a,s.a=some a/\∀j v,(f x)[j]? =some v->w.cell? (a.add (i * n+j))=some v:=by
 have hlt:=(List.getElem?_eq_some_iff.1 hi).1
 have hc:=h.cells
 have hfl:=oZ f n hn xs
 have hm:(i+1) * n<=xs.length * n:=Nat.mul_le_mul_right _ hlt
 rw [Nat.add_mul] at hm
 cases hsa:s.a with
 |none=>
  rw [hsa] at hc
  have h0:xs.flatMap f=[]:=hc
  rw [h0] at hfl
  simp only [List.length_nil] at hfl
  omega
 |some a=>
  rw [hsa] at hc
  refine⟨a,rfl,fun j v hj=> ?_⟩
  have hjn:j<n:=by have:=(List.getElem?_eq_some_iff.1 hj).1;rw [hn] at this;exact this
  rw [hc.2 _ (by omega),flat_get f n hn xs i j hjn,hi]
  exact hj
theorem Bv.fr {S:Nat->Prop} (h:Bv n f w s xs) (hf:eP w w' S) (hs:∀a,s.a=some a->0<xs.length->¬S a.block):Bv n f w' s xs:=by
 refine⟨h.len,?_,h.cap⟩
 have hc:=h.cells
 cases hsa:s.a with
 |none=>rw [hsa] at hc;exact hc
 |some a=>
  rw [hsa] at hc
  refine⟨hc.1,fun j hj=> ?_⟩
  have:=hc.2 j hj
  rw [List.getElem?_eq_getElem hj] at this ⊢
  refine BU this hf (by
   rw [block_add]
   refine hs a hsa ?_
   cases xs with
   |nil=>simp at hj
   |cons=>simp)
theorem Bv.ext (h:Bv n f w s xs) (hf:Ext w w'):Bv n f w' s xs:=h.fr (hf fun _=>False) (by simp)
theorem pF.row {b:Nat} (h:Row w b (xs.flatMap f)):pF n f w ⟨some ⟨b,0,none⟩,xs.length,xs.length⟩ xs:=
 ⟨rfl,.inr ⟨b,[],rfl,by simp,by simpa using h⟩⟩
theorem Bv.cut (hn:∀x,(f x).length=n) (h:Bv n f w s xs) {lo hi:Nat} (h1:lo<=hi) (h2:hi<=xs.length) (m:Nat) (hm:m=lo->lo=hi):
  Bv n f w ⟨lH s.a m lo n,hi - lo,s.cap - lo⟩ ((xs.take hi).drop lo):=by
 have hcap:=h.cap
 have hlen:=h.len
 refine⟨by simp;omega,?_,by simp only;omega⟩
 have hc:=h.cells
 cases hsa:s.a with
 |none=>
  rw [hsa] at hc
  have h0:xs.flatMap f=[]:=hc
  have:((xs.take hi).drop lo).flatMap f=[]:=by
   rw [List.flatMap_eq_nil_iff] at h0 ⊢
   exact fun x hx=>h0 x (List.mem_of_mem_take (List.mem_of_mem_drop hx))
  simp only [lH]
  split<;>simpa [fF] using this
 |some a=>
  rw [hsa] at hc
  by_cases hml:m=lo
  ·have:=hm hml
   subst this
   simp only [lH,hml,if_true,Nat.sub_self,Nat.zero_mul]
   have:List.drop lo (List.take lo xs)=[]:=by simp
   rw [this]
   exact⟨rfl,fun j hj=>by simp at hj⟩
  ·simp only [lH,hml,if_false,Option.map_some]
   have hfl:(((xs.take hi).drop lo).flatMap f).length=(hi - lo) * n:=by
    rw [oZ f n hn];simp;congr 1;omega
   refine⟨hfl,fun j hj=> ?_⟩
   rw [hfl] at hj
   have e:lo * n+j<(xs.flatMap f).length:=by
    rw [oZ f n hn]
    have h3:hi * n<=xs.length * n:=Nat.mul_le_mul_right _ h2
    have h4:(hi - lo) * n=hi * n - lo * n:=Nat.sub_mul _ _ _
    have h5:lo * n<=hi * n:=Nat.mul_le_mul_right _ h1
    omega
   have ea:(a.add (lo * n)).add j=a.add (lo * n+j):=vK _ _ _
   rw [ea,hc.2 _ e]
   have hn0:0<n:=by
    cases n with
    |zero=>simp at hj
    |succ n=>omega
   have hj':j=j / n * n+j % n:=by rw [Nat.mul_comm];exact(Nat.div_add_mod j n).symm
   have hjm:=Nat.mod_lt j hn0
   have hjd:j / n<hi - lo:=(Nat.div_lt_iff_lt_mul hn0).2 hj
   rw [hj',<- Nat.add_assoc,<- Nat.add_mul,flat_get f n hn _ _ _ hjm,flat_get f n hn _ _ _ hjm]
   rw [List.getElem?_drop,List.getElem?_take,if_pos (by omega)]
end
end Gp
end
section
namespace Gp
open Go
def tK {α:Type} (enc:α->Value) (w:World) (r:Nat) (xs:List α):Prop:=
 ∃es clock,w.heap[r]? =some (.map es clock)/\es.toList.map (fun e=>(e.key,e.val))=xs.map fun x=>(enc x,.bool true)
section
variable {α:Type} {enc:α->Value} {w w':World} {r:Nat} {xs:List α} {P:Program} {kt:TypeId}
theorem tK.fr {S:Nat->Prop} (h:tK enc w r xs) (hf:eP w w' S) (hs:¬S r):tK enc w' r xs:=by
 obtain⟨es,c,h1,h2⟩:=h
 exact⟨es,c,by rw [hf.same r (Array.getElem?_eq_some_iff.1 h1).1 hs];exact h1,h2⟩
theorem tK.ext (h:tK enc w r xs) (hf:Ext w w'):tK enc w' r xs:=h.fr (hf fun _=>False) (by simp)
theorem tK.lt (h:tK enc w r xs):r<w.heap.size:=by
 obtain⟨es,c,h1,h2⟩:=h
 exact(Array.getElem?_eq_some_iff.1 h1).1
theorem tK.new (w:World) (enc:α->Value):tK enc (w.alloc (.map #[] 0)) w.heap.size []:=⟨#[],0,World.alloc_heap_new w _,rfl⟩
end
end Gp
end
section
namespace Gp
open Go
def qX {α β:Type} (enc:α->Value) (ev:β->Value) (w:World) (r:Nat) (l:List (α×β)):Prop:=
 ∃es clock,w.heap[r]? =some (.map es clock)/\es.toList.map (fun e=>(e.key,e.val))=(l.map fun x=>(enc x.1,ev x.2))/\(es.toList.map (·.born)).Nodup/\∀e∈es.toList,e.born<clock
section
variable {α β:Type} {enc:α->Value} {ev:β->Value} {w w':World} {r:Nat} {l:List (α×β)} {P:Program} {kt:TypeId}
theorem qX.fr {S:Nat->Prop} (h:qX enc ev w r l) (hf:eP w w' S) (hs:¬S r):qX enc ev w' r l:=by
 obtain⟨es,c,h1,h2,h3⟩:=h
 exact⟨es,c,by rw [hf.same r (Array.getElem?_eq_some_iff.1 h1).1 hs];exact h1,h2,h3⟩
theorem qX.ext (h:qX enc ev w r l) (hf:Ext w w'):qX enc ev w' r l:=h.fr (hf fun _=>False) (by simp)
theorem qX.lt (h:qX enc ev w r l):r<w.heap.size:=by
 obtain⟨es,c,h1,h2⟩:=h
 exact(Array.getElem?_eq_some_iff.1 h1).1
theorem qX.new (w:World) (enc:α->Value) (ev:β->Value):qX enc ev (w.alloc (.map #[] 0)) w.heap.size []:=⟨#[],0,World.alloc_heap_new w _,rfl,by simp,by simp⟩
end
end Gp
end
section
namespace Gp
open Go
def Gh {α β:Type} (enc:α->Value) (ev:β->Value) (w:World) (q r:Nat) (l todo:List (α×β)):Prop:=
 ∃seen es clock,w.heap[q]? =some (.mapIter (some r) clock seen clock)/\w.heap[r]? =some (.map es clock)/\
  es.toList.map (fun e=>(e.key,e.val))=(l.map fun x=>(enc x.1,ev x.2))/\(es.toList.map (·.born)).Nodup/\(∀e∈es.toList,e.born<clock)/\
  (leftOf es seen).toList.map (fun e=>(e.key,e.val))=todo.map fun x=>(enc x.1,ev x.2)
section
variable {α β:Type} {enc:α->Value} {ev:β->Value} {w w':World} {q r:Nat} {l todo:List (α×β)} {P:Program} {kt:TypeId}
theorem Gh.map (h:Gh enc ev w q r l todo):qX enc ev w r l:=by
 obtain⟨seen,es,c,_,h2,h3,h4,h5,_⟩:=h
 exact⟨es,c,h2,h3,h4,h5⟩
theorem Gh.fr {S:Nat->Prop} (h:Gh enc ev w q r l todo) (hf:eP w w' S) (h1:¬S q) (h2:¬S r):Gh enc ev w' q r l todo:=by
 obtain⟨seen,es,c,g1,g2,g⟩:=h
 exact⟨seen,es,c,by rw [hf.same q (Array.getElem?_eq_some_iff.1 g1).1 h1];exact g1,by rw [hf.same r (Array.getElem?_eq_some_iff.1 g2).1 h2];exact g2,g⟩
theorem Gh.ext (h:Gh enc ev w q r l todo) (hf:Ext w w'):Gh enc ev w' q r l todo:=h.fr (hf fun _=>False) (by simp) (by simp)
end
end Gp
namespace Gp
open Go
def Iu (w:World) (q r:Nat):Nat:=
 match w.heap[q]?,w.heap[r]? with
 |some (.mapIter _ _ seen _),some (.map es _)=>(leftOf es seen).size
 |_,_=>0
theorem Gh.left {α β:Type} {enc:α->Value} {ev:β->Value} {w:World} {q r:Nat} {l todo:List (α×β)} (h:Gh enc ev w q r l todo):Iu w q r=todo.length:=by
 obtain⟨seen,es,c,g1,g2,_,_,_,g6⟩:=h
 unfold Iu
 rw [g1,g2]
 have:=congrArg List.length g6
 simpa using this
end Gp
end
section
namespace Go.Proofs.YtnifdmfflblbbaaGreatDoor
set_option maxRecDepth 100000
theorem DV {P:Program} {c:OpenClaim} (hs:c.start= .entering) (h:P.funcs.any Func.goes=false):false=c.goesBy P:=by
 unfold OpenClaim.goesBy Program.goesAt Program.goesFrom
 rw [hs]
 have hg:∀f,P.goes f=false:=by
  intro f
  unfold Program.goes
  rw [h,Bool.and_false,Bool.or_false,List.any_eq_false]
  intro g _
  cases e:P.funcs[g]? with
  |none=>simp
  |some fn=>
   have:=Array.any_eq_false'.1 h fn (Array.mem_of_getElem? e)
   simpa using this
 cases P.funcNamed c.func with
 |none=>rfl
 |some f=>simp [hg]
theorem Fp:Tryz.prog.funcs.any Func.goes=false:=by kernel_rfl
end Go.Proofs.YtnifdmfflblbbaaGreatDoor
end
