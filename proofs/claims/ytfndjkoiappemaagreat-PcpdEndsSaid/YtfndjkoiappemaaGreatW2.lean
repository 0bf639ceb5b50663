import Derived.Test.YtfndjkoiappemaaGreatW1
import Derived.Scope
import Derived.ProofKit
import Derived.OpenShut
import Derived.ChangeOld
import Derived.Below
import Derived.Deep.Slices
section
namespace Gp
open Go
def writes:Code->List Nat
 | .region _ ops _=>JG ops.toList
 | .seq a b=>writes a++writes b
 | .cond _ a b=>writes a++writes b
 | .block _ a=>writes a
 | .loop a=>writes a
 | .scope a=>writes a
 |_=>[]
def kT:Code->Bool
 | .seq a b=>kT a||kT b
 | .cond _ a b=>kT a||kT b
 | .block _ a=>kT a
 | .loop a=>kT a
 | .scope a=>kT a
 | .rangeFunc _ _ _ _=>true
 |_=>false
@[reducible] def Px:List (Nat×Kind)->Type
 |[]=>Unit
 |(_,k)::r=>k.T×Px r
def encS:(st:List (Nat×Kind))->Px st->Env
 |[],_=>[]
 |(s,k)::r,x=>(s,k.enc x.1)::encS r x.2
def getS:(st:List (Nat×Kind))->Env->(Px st->Prop)->Prop
 |[],_,φ=>φ ()
 |(s,k)::r,env,φ=>match env.get s with
  |some v=>k.dec v fun x=>getS r env fun y=>φ (x,y)
  |none=>False
def without (ws:List Nat):Env->Env
 |[]=>[]
 |(s,v)::r=>cond (Dy s ws) (without ws r) ((s,v)::without ws r)
def iw {S:Type} (body:S->World->(S->World->Prop)->Prop) (s:S) (w:World):Prop:=
 ∃I:Nat->S->World->Prop,(∃n,I n s w)/\∀n s w,I n s w->body s w fun s' w'=>∃m,m<n/\I m s' w'
@[reducible] def YO:List Kind->Type
 |[]=>Unit
 |k::r=>k.T×YO r
def Qg:(ks:List Kind)->YO ks->List Value
 |[],_=>[]
 |k::r,x=>k.enc x.1::Qg r x.2
def PI:List Nat->List Value->Env
 |[],_=>[]
 |_::_,[]=>[]
 |s::r,v::vs=>(s,v)::PI r vs
@[reducible] def ShT:Shape->Type
 | .one k=>k.T
 | .agg ks=>YO ks
def Zh:(s:Shape)->ShT s->Value
 | .one k,x=>k.enc x
 | .agg ks,x=> .agg ⟨Qg ks x⟩
@[reducible] def DC:List Shape->Type
 |[]=>Unit
 |s::r=>ShT s×DC r
def encR:(ks:List Shape)->DC ks->List Value
 |[],_=>[]
 |s::r,x=>Zh s x.1::encR r x.2
inductive JSh where
 |sh (s:Shape)
 |addr
 |TT (ks:List Kind)
@[reducible] def JT:JSh->Type
 | .sh s=>ShT s
 | .addr=>Addr
 | .TT ks=>YO ks
def Xp:(s:JSh)->JT s->Value
 | .sh s,x=>Zh s x
 | .addr,a=> .pointer (some a)
 | .TT ks,x=> .tuple ⟨Qg ks x⟩
def Zu:(ks:List Kind)->List Value->(YO ks->Prop)->Prop
 |[],[],φ=>φ ()
 |k::r,v::vs,φ=>k.dec v fun x=>Zu r vs fun y=>φ (x,y)
 |_,_,_=>False
def adL:(s:JSh)->Value->(JT s->Prop)->Prop
 | .sh (.one k),v,φ=>k.dec v φ
 | .sh (.agg ks),.agg cs,φ=>Zu ks cs.toList φ
 | .addr,.pointer (some a),φ=>φ a
 | .TT ks,.tuple cs,φ=>Zu ks cs.toList φ
 |_,_,_=>False
@[reducible] def Yi:List (Nat×JSh)->Type
 |[]=>Unit
 |(_,s)::r=>JT s×Yi r
def Y3:(st:List (Nat×JSh))->Yi st->Env
 |[],_=>[]
 |(t,s)::r,x=>(t,Xp s x.1)::Y3 r x.2
def Zx:(st:List (Nat×JSh))->Env->(Yi st->Prop)->Prop
 |[],_,φ=>φ ()
 |(t,s)::r,env,φ=>match env.get t with
  |some v=>adL s v fun x=>Zx r env fun y=>φ (x,y)
  |none=>False
def QJ {S:Type} (body:S->Prop) (k:(S->Prop)->Prop):Prop:=k body
theorem QJ.of {S:Type} {body:S->Prop} {k:(S->Prop)->Prop} (h:∀J:S->Prop,(∀s,body s->J s)->k J):QJ body k:=h body fun _ h=>h
inductive WE where
 |leaf
 |seq (a b:WE)
 |join (st:List (Nat×JSh)) (a b:WE)
 |cond (a b:WE)
 |blk (a:WE)
 |loop (st:List (Nat×Kind)) (a:WE)
 |rng (ks:List Shape) (a b:WE)
def iD (w:World) (l:Nat) (st:LoopState) (p:Option Code):World:=
 {w with heap:=w.heap.modify l fun| .loop lp=> .loop {lp with state:=st,pending:=p}|o=>o}
def fB (w:World) (l:Nat):World:=
 {w with heap:=w.heap.modify l fun| .loop lp=> .loop {lp with state:= .busy}|o=>o}
def zJ:Exit->Bool
 | .normal=>true
 |_=>false
def zk:Exit->Option (Option Code)
 | .normal=>some none
 | .ret=>some (some .ret)
 | .exit id=>some (some (.exit id))
 |_=>none
structure acG (P:Program) (r:Option Nat) (w:World) (ks:List Shape) (bodyS:Nat->DC ks->World->(Exit->World->Prop)->Prop)
  (l:Nat) (L:LoopState->Option Code->World->Prop) (w1:World):Prop where
 at_:l=if r.isNone then w.heap.size+1 else w.heap.size
 size:w1.heap.size=l+1
 old:∀b,b<w.heap.size->w1.heap[b]? =w.heap[b]?
 io:w1.os=w.os/\w1.tape=w.tape/\w1.output=w.output
 marks:r=none->w1.heap[w.heap.size]? =some (.deferred (some []))
 ready:L .ready none w1
 frame:∀st p W W',L st p W->W'.heap[l]? =W.heap[l]? ->L st p W'
 set:∀st p st' p' W,L st p W->L st' p' (iD W l st' p')
 busy:∀p W,L .ready p W->L .busy p (fB W l)
 isLoop:∀st p W,L st p W->∃lp,W.heap[l]? =some (.loop lp)
 yield:∀(x:DC ks) (W:World) (p:Option Code) (R:Bool->World->Prop),L .ready p W->
  bodyS l x W (fun e W'=>L .busy p W'/\∃j,zk e=some j/\R (zJ e) (iD W' l (if zJ e then .ready else .done) j))->JY P l (encR ks x) W R
def xg:Code->List Nat
 | .exit id=>[id]
 | .seq a b=>xg a++xg b
 | .cond _ a b=>xg a++xg b
 | .block _ a=>xg a
 | .loop a=>xg a
 | .scope a=>xg a
 | .rangeFunc _ _ _ b=>xg b
 |_=>[]
def Oc (id:Nat):List (Nat×(World->Prop))->World->Prop
 |[],_=>False
 |(i,K)::r,w=>cond (Nat.beq i id) (K w) (Oc id r w)
def ZO (Kn Kr:World->Prop) (Kx:List (Nat×(World->Prop))) (p:Option Code) (w:World):Prop:=
 match p with
 |none=>Kn w
 |some .ret=>Kr w
 |some (.exit id)=>Oc id Kx w
 |_=>False
def EC (P:Program) (r:Option Nat) (ks:List Shape) (vf:Value) (w:World) (bodyS:Nat->DC ks->World->(Exit->World->Prop)->Prop)
  (Kn Kr:World->Prop) (Kx:List (Nat×(World->Prop))):Prop:=
 (∀l₀,r=some l₀->∃lp,w.heap[l₀]? =some (.loop lp))/\
 match vf with
 | .func (.func f) first cap=>qp P f=true/\∀l L w1,acG P r w ks bodyS l L w1->
   IV P [] f (first.toList++(Value.func (.yield l) #[] #[]::cap.toList)) w1 fun _ w2=>∃st p,L st p w2/\st≠.busy/\ZO Kn Kr Kx p (iD w2 l .exhausted p)
 |_=>False
def den (P:Program) (nt:Nat):Code->Option Nat->WE->Env->List Nat->World->(Exit->Env->List Nat->World->Prop)->Prop
 | .skip,_,_,env,ds,w,K=>K .normal env ds w
 | .label _,_,_,env,ds,w,K=>K .normal env ds w
 | .ret,_,_,env,ds,w,K=>K .ret env ds w
 | .exit id,_,_,env,ds,w,K=>K (.exit id) env ds w
 | .region _ ops draw,_,_,env,ds,w,K=>cond draw (Po P nt ops.toList env w fun env' w'=>K .normal env' ds w') (VQ P nt ops.toList 0 ops.toList env w fun env' w'=>K .normal env' ds w')
 | .seq a b,r,an,env,ds,w,K=>match an with
  | .seq x y=>den P nt a r x env ds w fun e env' ds' w'=>match e with
   | .normal=>den P nt b r y env' ds' w' K
   |e=>K e env' ds' w'
  | .join st x y=>cond (kT a)
   (QJ (S:=Yi st×List Nat×World) (fun s=>den P nt b r y (Y3 st s.1++without (writes a) env) s.2.1 s.2.2 K) fun J=>den P nt a r x env ds w fun e env' ds' w'=>match e with
    | .normal=>Zx st env' fun s'=>J (s',ds',w')
    |e=>K e env' ds' w')
   (QJ (S:=Yi st×World) (fun s=>den P nt b r y (Y3 st s.1++without (writes a) env) ds s.2 K) fun J=>den P nt a r x env ds w fun e env' ds' w'=>match e with
    | .normal=>Zx st env' fun s'=>J (s',w')
    |e=>K e env' ds' w')
  |_=>False
 | .cond c a b,r,an,env,ds,w,K=>match an with
  | .cond x y=>match ZU env c with
   |some (.bool t)=>cond t (den P nt a r x env ds w K) (den P nt b r y env ds w K)
   |_=>False
  |_=>False
 | .block id a,r,an,env,ds,w,K=>match an with
  | .blk x=>den P nt a r x env ds w fun e env' ds' w'=>match e with
   | .exit id'=>cond (Nat.beq id' id) (K .normal env' ds' w') (K (.exit id') env' ds' w')
   |e=>K e env' ds' w'
  |_=>False
 | .scope a,r,an,env,ds,w,K=>den P nt a r an env ds w fun e env' ds' w'=>match e with
  | .goto _=>False
  |e=>K e env' ds' w'
 | .loop a,r,an,env,ds,w,K=>match an with
  | .loop st x=>cond (kT a)
   (getS st env fun s0=>iw (S:=Px st×List Nat) (fun s w next=>den P nt a r x (encS st s.1++without (writes a) env) s.2 w fun e env' ds' w'=>match e with
    | .normal=>getS st env' fun s'=>next (s',ds') w'
    |e=>K e env' ds' w') (s0,ds) w)
   (getS st env fun s0=>iw (S:=Px st) (fun s w next=>den P nt a r x (encS st s++without (writes a) env) ds w fun e env' ds' w'=>match e with
    | .normal=>getS st env' fun s'=>next s' w'
    |e=>K e env' ds' w') s0 w)
  |_=>False
 | .rangeFunc g ps assign body,r,an,env,ds,w,K=>match an with
  | .rng ks x y=>cond (!kT assign && (Nat.beq ps.toList.length ks.length && (Et ps.toList && ps.toList.all fun s=>Nat.blt s nt))) (EC P r ks (ev env g) w
   (fun l x' W Kb=>den P nt assign (some l) x (PI ps.toList (encR ks x')++env) [] W fun e env1 _ W1=>match e with
    | .normal=>W1.heap[l]? =W.heap[l]? /\den P nt body (some l) y env1 [] (fB W1 l) fun e _ _ W2=>Kb e W2
    |_=>False)
   (fun w'=>K .normal env (cond r.isNone (w.heap.size::ds) ds) w') (fun w'=>K .ret env (cond r.isNone (w.heap.size::ds) ds) w')
   ((xg body).map fun id=>(id,fun w'=>K (.exit id) env (cond r.isNone (w.heap.size::ds) ds) w'))) False
  |_=>False
 |_,_,_,_,_,_,_=>False
end Gp
end
section
namespace Gp
open Go
def mkD (ds:List Nat):List Deferred:=ds.map fun D=>{target:= .collected D,args:= #[]}
theorem FW {k:Kind} {v:Value} {φ:k.T->Prop} (h:k.dec v φ):∃x,v=k.enc x/\φ x:=by
 cases k<;>cases v<;>first
  |exact h.elim
  |exact⟨_,rfl,h⟩
  |skip
 case int.int k k' n=>
  simp only [Kind.dec] at h
  cases hb:IC k k' with
  |false=>rw [hb] at h;exact h.elim
  |true=>
   rw [hb] at h
   have:=Jt hb
   subst this
   exact⟨n,rfl,h⟩
theorem get_append (A B:Env) (s:Nat):Env.get (A++B) s=match Env.get A s with|some v=>some v|none=>Env.get B s:=by
 induction A with
 |nil=>rfl
 |cons x A ih=>
  obtain⟨t,v⟩:=x
  rw [List.cons_append,og,og]
  by_cases h:t=s
  ·simp [h]
  ·simp [h,ih]
theorem En (ws:List Nat) (env:Env) (s:Nat):Env.get (without ws env) s=if s∈ws then none else Env.get env s:=by
 induction env with
 |nil=>simp [without,Env.get]
 |cons x env ih=>
  obtain⟨t,v⟩:=x
  simp only [without]
  cases hb:Dy t ws with
  |true=>
   have ht:=qK.1 hb
   simp only [cond_true,ih,og]
   by_cases h:t=s
   ·subst h;simp [ht]
   ·simp [h]
  |false=>
   have ht:t∉ws:=fun hm=>by rw [qK.2 hm] at hb;cases hb
   simp only [cond_false,og,ih]
   by_cases h:t=s
   ·subst h;simp [ht]
   ·simp [h]
theorem Fz:∀(st:List (Nat×Kind)) (env:Env) (φ:Px st->Prop),getS st env φ->∃x,φ x/\∀t v,Env.get (encS st x) t=some v->env.get t=some v:=by
 intro st
 induction st with
 |nil=>exact fun env φ h=>⟨(),h,fun t v hv=>by simp [encS,Env.get] at hv⟩
 |cons p st ih=>
  obtain⟨s,k⟩:=p
  intro env φ h
  simp only [getS] at h
  cases hg:env.get s with
  |none=>simp only [hg] at h
  |some v=>
   simp only [hg] at h
   obtain⟨x,hx,h⟩:=FW h
   obtain⟨y,hy,h2⟩:=ih env _ h
   refine⟨(x,y),hy,fun t u hu=> ?_⟩
   simp only [encS,og] at hu
   by_cases e:s=t
   ·subst e;simp at hu;rw [<- hu,hg,hx]
   ·rw [if_neg e] at hu;exact h2 t u hu
theorem QH:∀(ks:List Kind) (vs:List Value) (φ:YO ks->Prop),Zu ks vs φ->∃x,vs=Qg ks x/\φ x:=by
 intro ks
 induction ks with
 |nil=>exact fun vs φ h=>match vs,h with|[],h=>⟨(),rfl,h⟩
 |cons k ks ih=>
  intro vs φ h
  cases vs with
  |nil=>exact h.elim
  |cons v vs=>
   simp only [Zu] at h
   obtain⟨x,hx,h⟩:=FW h
   obtain⟨y,hy,h⟩:=ih _ _ h
   exact⟨(x,y),by rw [Qg,hx,hy],h⟩
theorem Yy {s:JSh} {v:Value} {φ:JT s->Prop} (h:adL s v φ):∃x,v=Xp s x/\φ x:=by
 cases s with
 |sh s=>cases s with
  |one k=>exact FW h
  |agg ks=>cases v<;>first
   |exact h.elim
   |(obtain⟨x,hx,h⟩:=QH _ _ _ h
     refine⟨x,?_,h⟩
     simp only [Xp,Zh,<- hx])
 |addr=>cases v<;>first
   |exact h.elim
   |(rename_i q;cases q with
     |none=>exact h.elim
     |some a=>exact⟨a,rfl,h⟩)
 |TT ks=>cases v<;>first
   |exact h.elim
   |(obtain⟨x,hx,h⟩:=QH _ _ _ h
     refine⟨x,?_,h⟩
     simp only [Xp,<- hx])
theorem Qu:∀(st:List (Nat×JSh)) (env:Env) (φ:Yi st->Prop),Zx st env φ->∃x,φ x/\∀t v,Env.get (Y3 st x) t=some v->env.get t=some v:=by
 intro st
 induction st with
 |nil=>exact fun env φ h=>⟨(),h,fun t v hv=>by simp [Y3,Env.get] at hv⟩
 |cons p st ih=>
  obtain⟨s,k⟩:=p
  intro env φ h
  simp only [Zx] at h
  cases hg:env.get s with
  |none=>simp only [hg] at h
  |some v=>
   simp only [hg] at h
   obtain⟨x,hx,h⟩:=Yy h
   obtain⟨y,hy,h2⟩:=ih env _ h
   refine⟨(x,y),hy,fun t u hu=> ?_⟩
   simp only [Y3,og] at hu
   by_cases e:s=t
   ·subst e;simp at hu;rw [<- hu,hg,hx]
   ·rw [if_neg e] at hu;exact h2 t u hu
theorem least (p:Nat->Prop) (h:∃n,p n):∃n,p n/\∀m,p m->n<=m:=by
 obtain⟨n,hn⟩:=h
 induction n using Nat.strongRecOn with
 |_ n ih=>
  by_cases hx:∃m,m<n/\p m
  ·obtain⟨m,hm,hp⟩:=hx
   exact ih m hm hp
  ·exact⟨n,hn,fun m hm=>Nat.le_of_not_lt fun hlt=>hx ⟨m,hlt,hm⟩⟩
theorem wpIn_loop_ghost {F:Fence} {n:Nat} {P:Program} {c:Code} {Q:Exit->Act->World->Prop} {a:Act} {w:World} (I:Nat->Act->World->Prop) (h₀:∃m,I m a w)
  (round:∀m a w,I m a w->c.wpIn F n P (Exit.then (fun a' w'=>∃m',m'<m/\I m' a' w') Q) a w):(Code.loop c).wpIn F n P Q a w:=by
 have hl:∀a w,(∃m,I m a w)->∃m,I m a w/\∀k,I k a w->m<=k:=fun a w h=>least (fun m=>I m a w) h
 refine wpIn_loop (fun a w=>∃m,I m a w) (fun a w=> @dite Nat (∃m,I m a w) (Classical.propDecidable _) (fun h=>Classical.choose (hl a w h)) (fun _=>0)) h₀ ?_
 intro a w h
 obtain⟨hI,hmin⟩:=Classical.choose_spec (hl a w h)
 refine wpIn_mono (round _ a w hI) fun e a' w' hq=> ?_
 cases e<;>first|exact hq|skip
 obtain⟨m',hlt,hI'⟩:=hq
 refine⟨⟨m',hI'⟩,?_⟩
 have h':∃m,I m a' w':=⟨m',hI'⟩
 obtain⟨_,hmin'⟩:=Classical.choose_spec (hl a' w' h')
 simp only [dif_pos h,dif_pos h']
 have:=hmin' m' hI'
 omega
section
variable {P:Program} {F:Fence} {n:Nat} {b:Frame} {a:Act} {k:List Item} {cs:List Frame} {w:World} {Q:Exit->Act->World->Prop}
theorem uU {c:Code}:step P (lone (b.atR a (.code (.scope c)::k)) cs w)= .next (lone (b.atR a (.code c:: .inScope c::k)) cs w):=
 step_lone_go (by simp [stepG,stepG.exec,Frame.atR])
theorem Qa {c:Code}:step P (lone (b.atR a (.inScope c::k)) cs w)= .next (lone (b.atR a k) cs w):=
 step_lone_go (by simp [stepG,stepG.exec,Frame.atR])
theorem GN {c:Code} (h:c.wpIn F n P (Exit.noGoto Q) a w):(Code.scope c).wpIn F n P Q a w:=by
 intro b k cs hro hb hr
 have h0:(lone (b.atR a (.code (.scope c)::k)) cs w).fenced P F:=fenced_calm hb hr rfl
 obtain⟨e,a₁,w₁,hq,harr⟩:=h b (.inScope c::k) cs hro hb hr
 cases e with
 |normal=>exact⟨.normal,a₁,w₁,hq,.head h0 uU (StepsIn.trans harr (.one (fenced_calm hb hr rfl) Qa))⟩
 |exit id=>
  have hx:exitTo id (.inScope c::k)=exitTo id k:=by simp [exitTo]
  exact⟨.exit id,a₁,w₁,hq,fun k' hk=> .head h0 uU (harr.1 k' (by rw [hx];exact hk)),
   fun hr' hk=>let ⟨k₁,h1,h2⟩:=harr.2 hr' (by rw [hx];exact hk);⟨k₁,h1,.head h0 uU h2⟩⟩
 |goto l=>exact hq.elim
 |ret=>exact⟨_,a₁,w₁,hq,.of_steps (.one h0 uU) harr⟩
 |panic ch=>exact⟨_,a₁,w₁,hq,.of_steps (.one h0 uU) harr⟩
 |outgrown=>exact⟨_,a₁,w₁,hq,.of_steps (.one h0 uU) harr⟩
end
theorem Vb {env:Env} {a:Act} (ha:Yl env a) {c:Operand} {v:Value} (h:ZU env c=some v):a.eval c=v:=by
 have:=adP ha (x:=c) (by rw [h];rfl)
 rw [<- this,ev,h];rfl
section
variable {P:Program}
theorem LW (w:World) (l:Nat) (f:Obj->Obj) (b:Nat):(w.heap.modify l f)[b]? =if l=b then (w.heap[b]?).map f else w.heap[b]? :=by
 rw [Array.getElem?_modify]
theorem WB {w:World} {l:Nat} {lp:Loop} (h:w.heap[l]? =some (.loop lp)) (st:LoopState) (p:Option Code):(iD w l st p).heap[l]? =some (.loop {lp with state:=st,pending:=p}):=by
 simp only [iD,LW,if_true,h,Option.map_some]
theorem Z7 {w:World} {l:Nat} {lp:Loop} (h:w.heap[l]? =some (.loop lp)):(fB w l).heap[l]? =some (.loop {lp with state:= .busy}):=by
 simp only [fB,LW,if_true,h,Option.map_some]
theorem AL {w:World} {l:Nat} {o:Obj} (h:w.heap[l]? =some o) (f:Obj->Obj):w.heap.setIfInBounds l (f o)=w.heap.modify l f:=by
 apply Array.ext_getElem?
 intro i
 have hl:=(Array.getElem?_eq_some_iff.1 h).1
 rw [Array.getElem?_setIfInBounds,Array.getElem?_modify]
 by_cases e:l=i
 ·subst e
  have h2:w.heap[l]=o:=by have:=Array.getElem?_eq_getElem hl;rw [h] at this;exact(Option.some.inj this).symm
  simp [hl,h2]
 ·simp [e]
theorem run_getLoop {w:World} {l:Nat} {lp:Loop} (h:w.heap[l]? =some (.loop lp)):(Instr.getLoop l).run P w= .ok lp w:=by
 simp [Instr.getLoop,getObj,Sem.run,h]
theorem Ia {w:World} {l:Nat} {lp:Loop} {o:Obj} (h:w.heap[l]? =some (.loop lp)):(setObj l o).run P w= .ok () {w with heap:=w.heap.setIfInBounds l o}:=by
 simp [setObj,Sem.run,h]
theorem run_beginRound {w:World} {l:Nat} {lp:Loop} (h:w.heap[l]? =some (.loop lp)) (hr:lp.state= .ready):(Instr.beginRound l).run P w= .ok () (fB w l):=by
 simp only [Instr.beginRound,Sem.run_bind,run_getLoop h,Result.andThen_ok,Ia h,hr,Sem.run_pure]
 simp only [fB]
 rw [<- AL h]
theorem run_endRound {w:World} {l:Nat} {lp:Loop} (h:w.heap[l]? =some (.loop lp)) (j:Option Code):
  (Instr.endRound l j).run P w= .ok (.bool j.isNone) (iD w l (if j.isNone then .ready else .done) j):=by
 simp only [Instr.endRound,Sem.run_bind,run_getLoop h,Result.andThen_ok,Ia h,Sem.run_pure]
 simp only [iD]
 rw [<- AL h]
theorem run_endLoop {w:World} {l:Nat} {lp:Loop} (h:w.heap[l]? =some (.loop lp)) (hb:lp.state≠.busy):
  (Instr.endLoop l).run P w= .ok lp.pending (iD w l .exhausted lp.pending):=by
 have hb':¬(lp.state= .busy):=hb
 simp [Instr.endLoop,run_getLoop h,Ia h,hb']
 simp only [iD]
 rw [<- AL h]
abbrev MC (ps:List Nat) (vs:List Value) (tmps:Array Value):Array Value:=(ps.zip vs).foldl (fun(tmps:Array Value) (p:Nat×Value)=>tmps.setIfInBounds p.1 p.2) tmps
theorem YH:∀(ps:List Nat) (vs:List Value) (tmps:Array Value),(MC ps vs tmps).size=tmps.size:=by
 intro ps
 induction ps with
 |nil=>intro vs tmps;rfl
 |cons p ps ih=>
  intro vs tmps
  cases vs with
  |nil=>rfl
  |cons v vs=>simp only [MC,List.zip_cons_cons,List.foldl_cons] at ih ⊢;rw [ih];simp
theorem NC:∀(ps:List Nat) (vs:List Value) (tmps:Array Value) (s:Nat),s∉ps->(MC ps vs tmps)[s]? =tmps[s]? :=by
 intro ps
 induction ps with
 |nil=>intro vs tmps s _;rfl
 |cons p ps ih=>
  intro vs tmps s h
  cases vs with
  |nil=>rfl
  |cons v vs=>
   simp only [MC,List.zip_cons_cons,List.foldl_cons] at ih ⊢
   rw [ih vs _ s (fun x=>h (by simp [x]))]
   have:¬(p=s):=fun x=>h (by simp [x])
   simp [this]
theorem Ze:∀(ps:List Nat) (vs:List Value) (tmps:Array Value),Et ps=true->(∀s∈ps,s<tmps.size)->
  ∀s v,Env.get (PI ps vs) s=some v->(MC ps vs tmps)[s]? =some v:=by
 intro ps
 induction ps with
 |nil=>intro vs tmps _ _ s v h;simp [PI,Env.get] at h
 |cons p ps ih=>
  intro vs tmps hnd hlt s v h
  cases vs with
  |nil=>simp [PI,Env.get] at h
  |cons u vs=>
   simp only [Et,Bool.and_eq_true,Bool.not_eq_true'] at hnd
   simp only [PI,og] at h
   have e:MC (p::ps) (u::vs) tmps=MC ps vs (tmps.setIfInBounds p u):=rfl
   rw [e]
   by_cases hs:p=s
   ·subst hs
    rw [if_pos rfl] at h
    have hn:p∉ps:=fun x=>by rw [qK.2 x] at hnd;simp at hnd
    rw [NC _ _ _ _ hn]
    have:p<tmps.size:=hlt p (by simp)
    simp [this,<- h]
   ·rw [if_neg hs] at h
    exact ih vs _ hnd.2 (fun s hs=>by simpa using hlt s (by simp [hs])) s v h
end
end Gp
end
section
namespace Gp
open Go
section
variable {P:Program}
theorem IK.self {nt:Nat} {dfr:List Deferred} {ws ws':List Nat} {a0 a:Act} {env:Env} (h:IK nt dfr ws a0 env a):IK nt dfr ws' a env a:=⟨h.agr,h.size,h.defers,fun _ _=>rfl⟩
theorem IK.trans {nt:Nat} {d1 d2:List Deferred} {ws ws':List Nat} {a0 a a':Act} {env env':Env} (h:IK nt d1 ws a0 env a) (h':IK nt d2 ws' a env' a') (hs:∀s∈ws',s∈ws):IK nt d2 ws a0 env' a':=
 ⟨h'.agr,h'.size,h'.defers,fun s hn=>(h'.same s fun x=>hn (hs s x)).trans (h.same s hn)⟩
theorem IK.env {nt:Nat} {dfr:List Deferred} {ws:List Nat} {a0 a:Act} {env env':Env} (h:IK nt dfr ws a0 env a) (he:∀s v,env'.get s=some v->a.tmps[s]? =some v):IK nt dfr ws a0 env' a:=
 ⟨he,h.size,h.defers,h.same⟩
def LL (l:Nat) (fn:FuncId) (tmps:Array Value) (ps:Array Tmp) (assign body:Code) (dfr:Nat) (st:LoopState) (p:Option Code) (W:World):Prop:=
 W.heap[l]? =some (.loop {state:=st,pending:=p,fn:=fn,tmps:=tmps,params:=ps,assign:=assign,body:=body,defers:=dfr})
def AU (P:Program) (nt:Nat) (c:Code):Prop:=
 ∀(r:Option Nat) (an:WE) (env:Env) (ds:List Nat) (w:World) (K:Exit->Env->List Nat->World->Prop) (n:Nat) (Q:Exit->Act->World->Prop) (ws:List Nat) (a0 a:Act),
  den P nt c r an env ds w K->IK nt (mkD ds) ws a0 env a->(∀s∈writes c,s∈ws)->
  (∀e env' ds' w' a',IK nt (mkD ds') ws a0 env' a'->(kT c=false->ds'=ds)->K e env' ds' w'->Q e a' w')->c.wpIn (Fr r) n P Q a w
theorem Yf:∀(st:List (Nat×Kind)) (x y:Px st) (t:Nat),Env.get (encS st x) t=none->Env.get (encS st y) t=none:=by
 intro st
 induction st with
 |nil=>exact fun x y t h=>h
 |cons p st ih=>
  obtain⟨s,k⟩:=p
  intro x y t h
  simp only [encS,og] at h ⊢
  by_cases e:s=t
  ·simp [e] at h
  ·simp only [e,if_false] at h ⊢;exact ih _ _ _ h
theorem UC {nt:Nat} {dfr dfr':List Deferred} {ws ws':List Nat} {st:List (Nat×Kind)} {x y:Px st} {env env':Env} {a0 a a':Act} (h:IK nt dfr ws a0 (encS st y++without ws' env) a)
  (h':IK nt dfr' ws' a env' a') (hx:∀t v,Env.get (encS st x) t=some v->env'.get t=some v):∀s v,Env.get (encS st x++without ws' env) s=some v->a'.tmps[s]? =some v:=by
 intro s v hs
 rw [get_append] at hs
 cases he:Env.get (encS st x) s with
 |some u=>rw [he] at hs;simp at hs;subst hs;exact h'.agr s u (hx s u he)
 |none=>
  rw [he] at hs
  simp only at hs
  have hw:s∉ws':=by
   intro hw
   rw [En] at hs
   simp [hw] at hs
  rw [h'.same s hw]
  refine h.agr s v ?_
  rw [get_append,Yf st x y s he]
  exact hs
theorem QV {st:List (Nat×Kind)} {x:Px st} {env:Env} {a:Act} (ws':List Nat) (h:Yl env a)
  (hx:∀t v,Env.get (encS st x) t=some v->env.get t=some v):∀s v,Env.get (encS st x++without ws' env) s=some v->a.tmps[s]? =some v:=by
 intro s v hs
 rw [get_append] at hs
 cases he:Env.get (encS st x) s with
 |some u=>rw [he] at hs;simp at hs;subst hs;exact h s u (hx s u he)
 |none=>
  rw [he] at hs
  simp only [En] at hs
  by_cases hw:s∈ws'
  ·simp [hw] at hs
  ·simp only [hw,if_false] at hs
   exact h s v hs
theorem Uk {nt:Nat} {dfr:List Deferred} {ws':List Nat} {B env env':Env} {a a':Act} (ha:Yl env a)
  (h':IK nt dfr ws' a env' a') (hx:∀t v,Env.get B t=some v->env'.get t=some v):∀s v,Env.get (B++without ws' env) s=some v->a'.tmps[s]? =some v:=by
 intro s v hs
 rw [get_append] at hs
 cases he:Env.get B s with
 |some u=>rw [he] at hs;simp at hs;subst hs;exact h'.agr s u (hx s u he)
 |none=>
  rw [he] at hs
  simp only [En] at hs
  by_cases hw:s∈ws'
  ·simp [hw] at hs
  ·simp only [hw,if_false] at hs
   rw [h'.same s hw]
   exact ha s v hs
theorem V7 {nt:Nat} {x y:Code} (ihx:AU P nt x) (ihy:AU P nt y) {st:List (Nat×JSh)} {ax ay:WE} {r:Option Nat} {env:Env} {ds:List Nat} {w:World} {K:Exit->Env->List Nat->World->Prop}
  {n:Nat} {Q:Exit->Act->World->Prop} {ws:List Nat} {a0 a:Act} (h:den P nt (.seq x y) r (.join st ax ay) env ds w K) (ha:IK nt (mkD ds) ws a0 env a) (hws:∀s∈writes (.seq x y),s∈ws)
  (hQ:∀e env' ds' w' a',IK nt (mkD ds') ws a0 env' a'->(kT (.seq x y)=false->ds'=ds)->K e env' ds' w'->Q e a' w'):(Code.seq x y).wpIn (Fr r) n P Q a w:=by
 have hwx:∀s∈writes x,s∈ws:=fun s hs=>hws s (by simp [writes,hs])
 have hwy:∀s∈writes y,s∈ws:=fun s hs=>hws s (by simp [writes,hs])
 simp only [den] at h
 cases hr:kT x with
 |false=>
  rw [hr] at h
  simp only [cond_false,QJ] at h
  refine wpIn_seq (ihx r ax env ds w _ n _ (writes x) a a h ha.self (fun s hs=>hs) ?_)
  intro e env' ds' w' a' ha' hds hk
  have hds:=hds hr
  subst hds
  cases e with
  |normal=>
   obtain⟨s',hb,hs'⟩:=Qu _ _ _ hk
   refine ihy r ay _ ds' w' K n Q ws a0 a' hb ((ha.trans ha' hwx).env (Uk ha.agr ha' hs')) hwy ?_
   intro e2 env2 ds2 w2 a2 ha2 hds2 hk2
   refine hQ _ _ _ _ _ ha2 (fun hx=> ?_) hk2
   simp only [kT,Bool.or_eq_false_iff] at hx
   exact hds2 hx.2
  |_=>exact hQ _ _ _ _ _ (ha.trans ha' hwx) (fun _=>rfl) hk
 |true=>
  rw [hr] at h
  simp only [cond_true,QJ] at h
  refine wpIn_seq (ihx r ax env ds w _ n _ (writes x) a a h ha.self (fun s hs=>hs) ?_)
  intro e env' ds' w' a' ha' _ hk
  cases e with
  |normal=>
   obtain⟨s',hb,hs'⟩:=Qu _ _ _ hk
   refine ihy r ay _ ds' w' K n Q ws a0 a' hb ((ha.trans ha' hwx).env (Uk ha.agr ha' hs')) hwy ?_
   intro e2 env2 ds2 w2 a2 ha2 hds2 hk2
   refine hQ _ _ _ _ _ ha2 (fun hx=> ?_) hk2
   simp [kT,hr] at hx
  |_=>exact hQ _ _ _ _ _ (ha.trans ha' hwx) (fun hx=>by simp [kT,hr] at hx) hk
theorem V3 {nt:Nat} {c:Code} (ih:AU P nt c):AU P nt (.loop c):=by
 intro r an env ds w K n Q ws a0 a h ha hws hQ
 cases an with
 |loop st x=>
  simp only [den] at h
  cases hr:kT c with
  |false=>
   rw [hr] at h
   simp only [cond_false] at h
   obtain⟨s0,⟨I,h0,hstep⟩,hs0⟩:=Fz _ _ _ h
   refine wpIn_loop_ghost (fun m a' w'=>∃s:Px st,I m s w'/\IK nt (mkD ds) ws a0 (encS st s++without (writes c) env) a') ?_ ?_
   ·obtain⟨m,hm⟩:=h0
    exact⟨m,s0,hm,ha.env (QV _ ha.agr hs0)⟩
   ·rintro m a1 w1 ⟨s,hI,ha1⟩
    refine ih r x _ ds w1 _ n _ (writes c) a1 a1 (hstep m s w1 hI) ha1.self (fun s hs=>hs) ?_
    intro e env' ds' w' a' ha' hds hk
    have hds:=hds hr
    subst hds
    cases e with
    |normal=>
     obtain⟨s',⟨m',hlt,hI'⟩,hs'⟩:=Fz _ _ _ hk
     exact⟨m',hlt,s',hI',(ha1.trans ha' hws).env (UC ha1 ha' hs')⟩
    |_=>exact hQ _ _ _ _ _ (ha1.trans ha' hws) (fun _=>rfl) hk
  |true=>
   rw [hr] at h
   simp only [cond_true] at h
   obtain⟨s0,⟨I,h0,hstep⟩,hs0⟩:=Fz _ _ _ h
   refine wpIn_loop_ghost (fun m a' w'=>∃s:Px st×List Nat,I m s w'/\IK nt (mkD s.2) ws a0 (encS st s.1++without (writes c) env) a') ?_ ?_
   ·obtain⟨m,hm⟩:=h0
    exact⟨m,(s0,ds),hm,ha.env (QV _ ha.agr hs0)⟩
   ·rintro m a1 w1 ⟨s,hI,ha1⟩
    refine ih r x _ s.2 w1 _ n _ (writes c) a1 a1 (hstep m s w1 hI) ha1.self (fun s hs=>hs) ?_
    intro e env' ds' w' a' ha' _ hk
    cases e with
    |normal=>
     obtain⟨s',⟨m',hlt,hI'⟩,hs'⟩:=Fz _ _ _ hk
     exact⟨m',hlt,(s',ds'),hI',(ha1.trans ha' hws).env (UC ha1 ha' hs')⟩
    |_=>exact hQ _ _ _ _ _ (ha1.trans ha' hws) (fun hx=>by simp [kT,hr] at hx) hk
 |_=>exact h.elim
theorem Qn {fn:FuncId} {tmps:Array Value} {ps:Array Tmp} {assign body:Code} {w:World}:
  (Instr.enterLoop fn tmps ps assign body none).run P w=
   .ok (w.heap.size+1,[{target:= .collected w.heap.size,args:= #[]}])
    ((w.alloc (.deferred (some []))).alloc (.loop {state:= .ready,pending:=none,fn:=fn,tmps:=tmps,params:=ps,assign:=assign,body:=body,defers:=w.heap.size})):=by
 simp [Instr.enterLoop]
theorem KZ {fn:FuncId} {tmps:Array Value} {ps:Array Tmp} {assign body:Code} {w:World} {l₀:Nat} {lp:Loop} (h:w.heap[l₀]? =some (.loop lp)):
  (Instr.enterLoop fn tmps ps assign body (some l₀)).run P w=
   .ok (w.heap.size,[]) (w.alloc (.loop {state:= .ready,pending:=none,fn:=fn,tmps:=tmps,params:=ps,assign:=assign,body:=body,defers:=lp.defers})):=by
 simp [Instr.enterLoop,run_getLoop h]
theorem YB {e:Exit} {j:Option Code} (h:zk e=some j):j.isNone=zJ e:=by
 cases e<;>simp [zk] at h<;>subst h<;>rfl
theorem TY {nt:Nat} {assign body:Code} (ih1:AU P nt assign) (ih2:AU P nt body) {l:Nat} {fn:FuncId} {tmps:Array Value} {ps:Array Tmp} {dfr:Nat} {ks:List Shape} {x y:WE} {env:Env}
  (hlen:Nat.beq ps.toList.length ks.length=true) (hnd:Et ps.toList=true) (hlt:∀s∈ps.toList,s<nt) (hra:kT assign=false) (hsz:tmps.size=nt) (hag:∀s v,env.get s=some v->tmps[s]? =some v)
  {x':DC ks} {W:World} {p:Option Code} {R:Bool->World->Prop} (hL:LL l fn tmps ps assign body dfr .ready p W)
  (h:den P nt assign (some l) x (PI ps.toList (encR ks x')++env) [] W fun e env1 _ W1=>match e with
    | .normal=>W1.heap[l]? =W.heap[l]? /\den P nt body (some l) y env1 [] (fB W1 l) fun e _ _ W2=>
      (LL l fn tmps ps assign body dfr .busy p W2/\∃j,zk e=some j/\R (zJ e) (iD W2 l (if zJ e then .ready else .done) j))
    |_=>False):JY P l (encR ks x') W R:=by
 have hkl:∀(ks:List Shape) (x:DC ks),(encR ks x).length=ks.length:=by
  intro ks
  induction ks with
  |nil=>intro x;rfl
  |cons k ks ih=>intro x;simp [encR,ih]
 have hl2:(encR ks x').length=ps.size:=by
  rw [hkl]
  have:=Nat.eq_of_beq_eq_true hlen
  simpa using this.symm
 refine⟨fn,MC ps.toList (encR ks x') tmps,assign,body,?_,?_⟩
 ·have h1:(ps.zip (⟨encR ks x'⟩:Array Value)).foldl (fun(tmps:Array Value) (x:Tmp×Value)=>tmps.setIfInBounds x.1 x.2) tmps=MC ps.toList (encR ks x') tmps:=by
   rw [<- Array.foldl_toList,Array.toList_zip]
  simp only [Instr.yield,Sem.run_bind,run_getLoop hL,Result.andThen_ok]
  have h2:¬((⟨encR ks x'⟩:Array Value).size≠ps.size):=by simpa using hl2
  simp only [h2,if_false,Sem.run_pure]
  congr 2
 ·refine roundIn_of_wpIn (F:=Fence.wide) trivial ?_
  have hA:IK nt (mkD []) (writes assign) {tmps:=MC ps.toList (encR ks x') tmps,defers:=[]} (PI ps.toList (encR ks x')++env) {tmps:=MC ps.toList (encR ks x') tmps,defers:=[]}:=by
   refine⟨fun s v hs=> ?_,by simp [YH,hsz],rfl,fun _ _=>rfl⟩
   rw [get_append] at hs
   cases he:Env.get (PI ps.toList (encR ks x')) s with
   |some u=>
    rw [he] at hs
    simp only [Option.some.injEq] at hs
    subst hs
    exact Ze _ _ _ hnd (fun s hs=>by rw [hsz];exact hlt s hs) s u he
   |none=>
    rw [he] at hs
    have hn:s∉ps.toList:=by
     intro hm
     have:∀(ps:List Nat) (vs:List Value),ps.length=vs.length->s∈ps->Env.get (PI ps vs) s≠none:=by
      intro ps
      induction ps with
      |nil=>intro vs _ h;cases h
      |cons q ps ih=>
       intro vs hl hm
       cases vs with
       |nil=>simp at hl
       |cons v vs=>
        simp only [PI,og]
        by_cases e:q=s
        ·simp [e]
        ·simp only [e,if_false]
         refine ih vs (by simpa using hl) ?_
         cases hm with
         |head=>exact absurd rfl e
         |tail _ h=>exact h
     exact this _ _ (by simpa using hl2.symm) hm he
    show (MC ps.toList (encR ks x') tmps)[s]? =some v
    rw [NC _ _ _ _ hn]
    exact hag s v hs
  refine ih1 (some l) x _ [] W _ 0 _ (writes assign) _ _ h hA (fun s hs=>hs) ?_
  intro e env1 ds1 W1 a1 ha1 hds1 hk
  have hds1:=hds1 hra
  subst hds1
  cases e with
  |normal=>
   obtain⟨hsame,hk⟩:=hk
   have hL1:W1.heap[l]? =some (.loop {state:= .ready,pending:=p,fn:=fn,tmps:=tmps,params:=ps,assign:=assign,body:=body,defers:=dfr}):=hsame.trans hL
   refine⟨fB W1 l,run_beginRound hL1 rfl,?_⟩
   have ha1':IK nt (mkD []) (writes body) a1 env1 a1:=ha1.self
   refine ih2 (some l) y env1 [] _ _ 0 _ (writes body) a1 a1 hk ha1' (fun s hs=>hs) ?_
   intro e env2 ds2 W2 a2 ha2 _ hk2
   obtain⟨hL2,j,hj,hR⟩:=hk2
   have hend:=run_endRound (P:=P) hL2 j
   rw [YB hj] at hend
   have hR':∃b:Bool,Ending.returned (.bool (zJ e))= .returned (.bool b)/\R b (iD W2 l (if zJ e then .ready else .done) j):=⟨_,rfl,hR⟩
   cases e<;>simp only [zk,Option.some.injEq] at hj<;>first
    |(subst hj;exact⟨_,_,hend,hR'⟩)
    |(cases hj;done)
  |_=>exact hk.elim
theorem X_ (hP:QI P) {f:FuncId} {first cap:Array Value} {l:Nat} {W:World} (hb:qp P f=true) {a:Act} {g:Operand} (hg:a.eval g= .func (.func f) first cap):
  ∃d,(resolve a.eval (rangeCall g l) 0).run P W= .ok d W/\(invoke d.target d.args).run P W= .ok (.enter f ⟨first.toList++(Value.func (.yield l) #[] #[]::cap.toList)⟩) W:=by
 refine⟨{target:= .fn (.func f) cap,args:=first++ #[.func (.yield l) #[] #[]]},?_,?_⟩
 ·simp only [resolve,hg,Deferred.ofValue,Sem.run_pure,List.map_toArray,List.map_cons,List.map_nil];rfl
 ·have e:first++ #[Value.func (.yield l) #[] #[]]++cap=⟨first.toList++(Value.func (.yield l) #[] #[]::cap.toList)⟩:=by apply Array.toList_inj.mp;simp
  simp only [invoke,e]
  exact yM hP hb _ _
theorem V8 {id:Nat} {w:World} {K:Exit->World->Prop}:∀(l:List Nat),Oc id (l.map fun id=>(id,K (.exit id))) w->K (.exit id) w:=by
 intro l
 induction l with
 |nil=>intro h;exact h.elim
 |cons i l ih=>
  intro h
  simp only [List.map_cons,Oc] at h
  cases hb:Nat.beq i id with
  |true=>
   rw [hb] at h
   have:=Nat.eq_of_beq_eq_true hb
   subst this
   exact h
  |false=>rw [hb] at h;exact ih h
theorem Ws {K:Exit->World->Prop} {l:List Nat} {p:Option Code} {w:World} (h:ZO (K .normal) (K .ret) (l.map fun id=>(id,K (.exit id))) p w) {F:Fence} {n:Nat} {Q:Exit->Act->World->Prop} {a:Act}
  (hQ:∀e w,K e w->Q e a w):(p=none->Q .normal a w)/\∀c,p=some c->c.wpIn F n P Q a w:=by
 cases p with
 |none=>exact⟨fun _=>hQ _ _ h,fun c hc=>by cases hc⟩
 |some c=>
  refine⟨fun hc=>by(cases hc),fun c' hc=> ?_⟩
  cases hc
  cases c<;>first|exact h.elim|exact wpIn_ret (hQ _ _ h)|exact wpIn_exit (hQ _ _ (V8 l h))
theorem YI (hP:QI P) {nt:Nat} {g:Operand} {ps:Array Tmp} {assign body:Code} (ih1:AU P nt assign) (ih2:AU P nt body):AU P nt (.rangeFunc g ps assign body):=by
 intro r an env ds w K n Q ws a0 a h ha hws hQ
 cases an with
 |rng ks x y=>
  simp only [den] at h
  cases hb:(!kT assign && (Nat.beq ps.toList.length ks.length && (Et ps.toList && ps.toList.all fun s=>Nat.blt s nt))) with
  |false=>rw [hb] at h;exact h.elim
  |true=>
   rw [hb] at h
   simp only [cond_true] at h
   simp only [Bool.and_eq_true,List.all_eq_true,Nat.blt_eq,Bool.not_eq_true'] at hb
   obtain⟨hra,hlen,hnd,hlt⟩:=hb
   obtain⟨hr0,h⟩:=h
   split at h
   ·rename_i f first cap hv
    obtain⟨hbody,h⟩:=h
    have hg:a.eval g= .func (.func f) first cap:=by
     cases hx:ZU env g with
     |none=>simp [ev,hx,undef] at hv
     |some v=>
      have:=Vb ha.agr hx
      simp only [ev,hx,Option.getD_some] at hv
      rw [this,hv]
    refine wpIn_rangeFunc fun fn _=> ?_
    have mk:∀(l:Nat) (mark:List Deferred) (w1:World) (dfr:Nat),(Instr.enterLoop fn a.tmps ps assign body (Fr r).round).run P w= .ok (l,mark) w1->
      (l=if r.isNone then w.heap.size+1 else w.heap.size)->w1.heap.size=l+1->(∀b,b<w.heap.size->w1.heap[b]? =w.heap[b]?)->(w1.os=w.os/\w1.tape=w.tape/\w1.output=w.output)->(r=none->w1.heap[w.heap.size]? =some (.deferred (some [])))->
      LL l fn a.tmps ps assign body dfr .ready none w1->mark++a.defers=mkD (cond r.isNone (w.heap.size::ds) ds)->
      ∃(l:Nat) (mark:List Deferred) (w₁:World) (d:Deferred) (w₁':World) (f:FuncId) (args:Array Value) (w₂:World),
       (Instr.enterLoop fn a.tmps ps assign body (Fr r).round).run P w= .ok (l,mark) w₁/\(resolve a.eval (rangeCall g l) 0).run P w₁= .ok d w₁'/\
       (∀f',Target.leads P w₁' d.target d.args=some f'->(Fr r).fn f')/\(invoke d.target d.args).run P w₁'= .ok (.enter f args) w₂/\((Fr r).depth.isSome=true->1<=n)/\
       CallsIn (Fr r) (n - 1) P f args w₂ (rangePost (Fr r) n P l Q {a with defers:=mark++a.defers}):=by
     intro l mark w1 dfr he hl hsz hold hio hmk hLL hds
     obtain⟨d,hres,hinv⟩:=X_ hP (l:=l) (W:=w1) hbody hg
     refine⟨l,mark,w1,d,w1,f,_,w1,he,hres,fun _ _=>trivial,hinv,fun hx=>by simp [Fr,Fence.wide] at hx,?_⟩
     have hctx:=h l (LL l fn a.tmps ps assign body dfr) w1 {
      at_:=hl
      size:=hsz
      old:=hold
      io:=hio
      marks:=hmk
      ready:=hLL
      frame:=fun st p W W' hL hs=>hs.trans hL
      set:=fun st p st' p' W hL=>WB hL st' p'
      busy:=fun p W hL=>Z7 hL
      isLoop:=fun st p W hL=>⟨_,hL⟩
      yield:=fun x' W p R hL hx=>TY ih1 ih2 hlen hnd hlt hra ha.size ha.agr hL hx}
     have hc:CallsIn Fence.wide (n - 1) P f _ w1 _:=callsIn_wide.2 (FV hctx)
     refine CallsIn.mono (F:=Fr r) hc fun e w2 hx=> ?_
     obtain⟨v,rfl,st,p,hL,hst,hj⟩:=hx
     refine⟨p,_,run_endLoop hL hst,?_⟩
     have hj2:=Ws (P:=P) (F:=Fr r) (n:=n) (Q:=Q) (a:={a with defers:=mark++a.defers}) (K:=fun e w'=>K e env (cond r.isNone (w.heap.size::ds) ds) w') (l:=xg body) hj fun e w' hk=>
      hQ _ _ _ _ _ ⟨ha.agr,ha.size,hds,ha.same⟩ (fun hx=>by simp [kT] at hx) hk
     clear hj hctx hc
     cases p with
     |none=>exact hj2.1 rfl
     |some c=>exact hj2.2 c rfl
    cases r with
    |none=>
     refine mk (w.heap.size+1) _ _ w.heap.size Qn rfl (by simp) (fun b hb=> ?_) ⟨rfl,rfl,rfl⟩ (fun _=> ?_) ?_ (by simp [mkD,ha.defers])
     ·have h1:b≠w.heap.size+1:=by omega
      have h2:b≠w.heap.size:=by omega
      simp [World.alloc,-World.alloc_eq,Array.getElem?_push,h1,h2]
     ·simp [World.alloc,-World.alloc_eq,Array.getElem?_push]
     ·have:=World.alloc_heap_new (w.alloc (.deferred (some []))) (.loop {state:= .ready,pending:=none,fn:=fn,tmps:=a.tmps,params:=ps,assign:=assign,body:=body,defers:=w.heap.size})
      rw [World.size_alloc] at this
      exact this
    |some l₀=>
     obtain⟨lp,hlp⟩:=hr0 l₀ rfl
     refine mk w.heap.size _ _ lp.defers (KZ hlp) rfl (by simp) (fun b hb=> ?_) ⟨rfl,rfl,rfl⟩ (fun hx=>by cases hx) ?_ (by simp [ha.defers])
     ·have h2:b≠w.heap.size:=by omega
      simp [World.alloc,-World.alloc_eq,Array.getElem?_push,h2]
     ·simp [LL,World.alloc,-World.alloc_eq]
   ·exact h.elim
 |_=>exact h.elim
theorem Yx (hP:QI P) (nt:Nat):∀c,AU P nt c:=by
 intro c
 induction c with
 |skip=>intro r an env ds w K n Q ws a0 a h ha hws hQ;exact wpIn_skip (hQ _ _ _ _ _ ha (fun _=>rfl) h)
 |label l=>intro r an env ds w K n Q ws a0 a h ha hws hQ;exact wpIn_label (hQ _ _ _ _ _ ha (fun _=>rfl) h)
 |ret=>intro r an env ds w K n Q ws a0 a h ha hws hQ;exact wpIn_ret (hQ _ _ _ _ _ ha (fun _=>rfl) h)
 |exit id=>intro r an env ds w K n Q ws a0 a h ha hws hQ;exact wpIn_exit (hQ _ _ _ _ _ ha (fun _=>rfl) h)
 |region id ops draw=>
  intro r an env ds w K n Q ws a0 a h ha hws hQ
  simp only [den] at h
  cases draw with
  |true=>exact Ot hP hws (fun env a w ha hk=>hQ _ _ _ _ _ ha (fun _=>rfl) hk) ha h
  |false=>
   refine wpIn_region ?_
   have:=Q7 (r:=r) (n:=n) (Q:=Q) hP hws (fun env a w ha hk=>hQ _ _ _ _ _ ha (fun _=>rfl) hk) ops.toList 0 env a w (by simp) ha h
   rw [List.range_eq_range']
   simpa using this
 |seq x y ihx ihy=>
  intro r an env ds w K n Q ws a0 a h ha hws hQ
  cases an with
  |seq ax ay=>
   simp only [den] at h
   refine wpIn_seq (ihx r ax env ds w _ n _ ws a0 a h ha (fun s hs=>hws s (by simp [writes,hs])) ?_)
   intro e env' ds' w' a' ha' hds hk
   cases e with
   |normal=>
    refine ihy r ay env' ds' w' K n Q ws a0 a' hk ha' (fun s hs=>hws s (by simp [writes,hs])) ?_
    intro e2 env2 ds2 w2 a2 ha2 hds2 hk2
    refine hQ _ _ _ _ _ ha2 (fun hx=> ?_) hk2
    simp only [kT,Bool.or_eq_false_iff] at hx
    rw [hds2 hx.2,hds hx.1]
   |_=>
    refine hQ _ _ _ _ _ ha' (fun hx=> ?_) hk
    simp only [kT,Bool.or_eq_false_iff] at hx
    exact hds hx.1
  |join st ax ay=>exact V7 ihx ihy h ha hws hQ
  |_=>exact h.elim
 |cond c x y ihx ihy=>
  intro r an env ds w K n Q ws a0 a h ha hws hQ
  cases an with
  |cond ax ay=>
   simp only [den] at h
   split at h
   ·rename_i t ht
    refine wpIn_cond (Vb ha.agr ht) ?_
    cases t with
    |true=>
     refine ihx r ax env ds w K n Q ws a0 a h ha (fun s hs=>hws s (by simp [writes,hs])) fun e env' ds' w' a' ha' hds hk=>hQ _ _ _ _ _ ha' (fun hx=> ?_) hk
     simp only [kT,Bool.or_eq_false_iff] at hx
     exact hds hx.1
    |false=>
     refine ihy r ay env ds w K n Q ws a0 a h ha (fun s hs=>hws s (by simp [writes,hs])) fun e env' ds' w' a' ha' hds hk=>hQ _ _ _ _ _ ha' (fun hx=> ?_) hk
     simp only [kT,Bool.or_eq_false_iff] at hx
     exact hds hx.2
   ·exact h.elim
  |_=>exact h.elim
 |block id x ihx=>
  intro r an env ds w K n Q ws a0 a h ha hws hQ
  cases an with
  |blk ax=>
   simp only [den] at h
   refine wpIn_block (ihx r ax env ds w _ n _ ws a0 a h ha hws ?_)
   intro e env' ds' w' a' ha' hds hk
   cases e with
   |exit id'=>
    simp only at hk
    simp only [Exit.inBlock]
    by_cases hid:id'=id
    ·subst hid
     have:Nat.beq id' id'=true:=by simp
     rw [this] at hk
     rw [if_pos rfl]
     exact hQ _ _ _ _ _ ha' hds hk
    ·have:Nat.beq id' id=false:=by cases hx:Nat.beq id' id;rfl;exact absurd (Nat.eq_of_beq_eq_true hx) hid
     rw [this] at hk
     rw [if_neg hid]
     exact hQ _ _ _ _ _ ha' hds hk
   |_=>exact hQ _ _ _ _ _ ha' hds hk
  |_=>exact h.elim
 |loop x ihx=>exact V3 ihx
 |rangeFunc g ps assign body ih1 ih2=>exact YI hP ih1 ih2
 |scope x ihx=>
  intro r an env ds w K n Q ws a0 a h ha hws hQ
  simp only [den] at h
  refine GN (ihx r an env ds w _ n _ ws a0 a h ha hws ?_)
  intro e env' ds' w' a' ha' hds hk
  cases e with
  |goto l=>exact hk.elim
  |_=>exact hQ _ _ _ _ _ ha' hds hk
 |goto l=>intro r an env ds w K n Q ws a0 a h ha hws hQ;exact h.elim
 |refuse y=>intro r an env ds w K n Q ws a0 a h ha hws hQ;exact h.elim
end
end Gp
end
section
namespace Gp
open Go
@[reducible] def PO:List Kind->Type
 |[]=>World->Prop
 |k::r=>k.T->PO r
def flat:List Shape->List Kind
 |[]=>[]
 | .one k::r=>k::flat r
 | .agg ks::r=>ks++flat r
def aaU:(ks:List Kind)->(rest:List Kind)->List Value->PO (ks++rest)->(PO rest->Prop)->Prop
 |[],_,[],c,φ=>φ c
 |k::ks,rest,v::vs,c,φ=>k.dec v fun x=>aaU ks rest vs (c x) φ
 |_,_,_,_,_=>False
def Nr:(sh:List Shape)->List Value->PO (flat sh)->World->Prop
 |[],[],c,w=>c w
 | .one k::r,v::vs,c,w=>k.dec v fun x=>Nr r vs (c x) w
 | .agg ks::r,v::vs,c,w=>match v with
  | .agg cs=>aaU ks (flat r) cs.toList c fun c'=>Nr r vs c' w
  |_=>False
 |_,_,_,_=>False
def Un:(ks:List Kind)->(rest:List Kind)->PO (ks++rest)->(List Value->PO rest->Prop)->Prop
 |[],_,c,φ=>φ [] c
 |k::ks,rest,c,φ=>∃x:k.T,Un ks rest (c x) fun vs c'=>φ (k.enc x::vs) c'
def Ul:(sh:List Shape)->PO (flat sh)->(List Value->Prop)->World->Prop
 |[],c,φ,w=>φ []/\c w
 | .one k::r,c,φ,w=>∃x:k.T,Ul r (c x) (fun vs=>φ (k.enc x::vs)) w
 | .agg ks::r,c,φ,w=>Un ks (flat r) c fun vs c'=>Ul r c' (fun us=>φ (.agg ⟨vs⟩::us)) w
theorem aaT:∀(ks rest:List Kind) (vs:List Value) (c:PO (ks++rest)) (φ:PO rest->Prop),aaU ks rest vs c φ->
  ∀ψ:List Value->PO rest->Prop,(∀c',φ c'->ψ vs c')->Un ks rest c ψ:=by
 intro ks
 induction ks with
 |nil=>
  intro rest vs c φ h ψ hψ
  cases vs with
  |nil=>exact hψ c h
  |cons v vs=>exact h.elim
 |cons k ks ih=>
  intro rest vs c φ h ψ hψ
  cases vs with
  |nil=>exact h.elim
  |cons v vs=>
   obtain⟨x,hx,h'⟩:=FW h
   subst hx
   exact⟨x,ih rest vs (c x) φ h' _ hψ⟩
theorem Zc:∀(sh:List Shape) (vs:List Value) (c:PO (flat sh)) (w:World),Nr sh vs c w->∀φ:List Value->Prop,φ vs->Ul sh c φ w:=by
 intro sh
 induction sh with
 |nil=>
  intro vs c w h φ hφ
  cases vs with
  |nil=>exact⟨hφ,h⟩
  |cons v vs=>exact h.elim
 |cons s sh ih=>
  intro vs c w h φ hφ
  cases s with
  |one k=>
   cases vs with
   |nil=>exact h.elim
   |cons v vs=>
    obtain⟨x,hx,h'⟩:=FW h
    subst hx
    exact⟨x,ih vs (c x) w h' (fun vs=>φ (k.enc x::vs)) hφ⟩
  |agg ks=>
   cases vs with
   |nil=>exact h.elim
   |cons v vs=>
    cases v with
    |agg cs=>exact aaT ks (flat sh) cs.toList c _ h _ fun c' h'=>ih vs c' w h' (fun us=>φ (.agg ⟨cs.toList⟩::us)) hφ
    |_=>exact h.elim
def Ir:List Nat->World->(World->Prop)->Prop
 |[],w,K=>K w
 |D::ds,w,K=>w.heap[D]? =some (.deferred (some []))/\Ir ds (w.putObj D (.deferred none)) K
def AY (P:Program):List ResultVar->Env->World->(List Value->Prop)->Prop
 |[],_,_,φ=>φ []
 | .tmp t::r,env,w,φ=>match env.get t with
  |some v=>AY P r env w fun vs=>φ (v::vs)
  |none=>False
 | .cell a t::r,env,w,φ=>match env.get a,shapeOf P t,iR P t with
  |some (.pointer (some ad)),some sh,some n=>cond (Nat.beq sh.cells n) (sh.ld w ad fun v=>AY P r env w fun vs=>φ (v::vs)) False
  |_,_,_=>False
def ad4 (P:Program) (rs:List ResultVar) (sh:List Shape) (Post:PO (flat sh)) (e:Exit) (env:Env) (ds:List Nat) (w:World):Prop:=
 match e with
 | .normal=>Ir ds w fun w'=>AY P rs env w' fun vs=>Nr sh vs Post w'
 | .ret=>Ir ds w fun w'=>AY P rs env w' fun vs=>Nr sh vs Post w'
 |_=>False
def Kw:Nat->List Value->Env
 |_,[]=>[]
 |i,v::vs=>(i,v)::Kw (i+1) vs
theorem WZ:∀(vs:List Value) (i s:Nat) (v:Value),Env.get (Kw i vs) s=some v->i<=s/\vs[s - i]? =some v:=by
 intro vs
 induction vs with
 |nil=>intro i s v h;simp [Kw,Env.get] at h
 |cons u vs ih=>
  intro i s v h
  simp only [Kw,og] at h
  by_cases e:i=s
  ·subst e;simp at h;simp [h]
  ·rw [if_neg e] at h
   obtain⟨h1,h2⟩:=ih _ _ _ h
   refine⟨by omega,?_⟩
   obtain⟨m,hm⟩:∃m,s - i=m+1:=⟨s - i - 1,by omega⟩
   rw [hm]
   have:s - (i+1)=m:=by omega
   rw [this] at h2
   simpa using h2
section
variable {P:Program}
def resV (tmps:Array Value) (x:ResultVar):Sem Value:=
 match x with
 | .tmp t=>pure (tmps.getD t undef)
 | .cell b t=>do loadVar t (<- asAddr (tmps.getD b undef))
theorem V5 {a:Act} {env:Env} {w:World} (ha:Yl env a):∀(rs:List ResultVar) (φ:List Value->Prop),AY P rs env w φ->
  ∃vs,(rs.mapM (resV a.tmps)).run P w= .ok vs w/\φ vs:=by
 intro rs
 induction rs with
 |nil=>exact fun φ h=>⟨[],by simp,h⟩
 |cons x rs ih=>
  intro φ h
  cases x with
  |tmp t=>
   simp only [AY] at h
   cases hg:env.get t with
   |none=>simp only [hg] at h
   |some v=>
    simp only [hg] at h
    obtain⟨vs,hr,hφ⟩:=ih _ h
    have:=ha t v hg
    refine⟨v::vs,?_,hφ⟩
    rw [List.mapM_cons]
    simp only [resV,Sem.run_bind,Sem.run_pure,Result.andThen_ok,Array.getD_eq_getD_getElem?,this,Option.getD_some,hr]
  |cell b t=>
   simp only [AY] at h
   split at h
   ·rename_i ad sh n hg hs hn
    cases hb:Nat.beq sh.cells n with
    |false=>rw [hb] at h;exact h.elim
    |true=>
     rw [hb] at h
     obtain⟨v,hv,h⟩:=LY (P:=P) hs hn (Nat.eq_of_beq_eq_true hb) h
     obtain⟨vs,hr,hφ⟩:=ih _ h
     have:=ha b _ hg
     refine⟨v::vs,?_,hφ⟩
     rw [List.mapM_cons]
     simp only [resV,Sem.run_bind,Sem.run_pure,Result.andThen_ok,Array.getD_eq_getD_getElem?,this,Option.getD_some,asAddr,hv,hr]
   ·exact h.elim
theorem Ub {fn:Func} {a:Act} {env:Env} {w:World} (ha:Yl env a) {φ:List Value->Prop} (h:AY P fn.results.toList env w φ):
  ∃vs,(results fn a.tmps).run P w= .ok (TT vs) w/\φ vs:=by
 obtain⟨vs,hr,hφ⟩:=V5 ha _ _ h
 refine⟨vs,?_,hφ⟩
 have e:results fn a.tmps=(do let vs<- fn.results.mapM (resV a.tmps);pure (if h:vs.size=1 then vs[0] else .tuple vs)):=rfl
 rw [e,Array.mapM_eq_mapM_toList]
 simp only [Sem.run_bind,Sem.run_map]
 rw [hr]
 simp only [Result.andThen_ok,Sem.run_pure]
 congr 1
 match vs with
 |[]=>rfl
 |[v]=>rfl
 |v::u::vs=>rfl
theorem RJ {fn:Func} {a:Act} {env:Env} (ha:Yl env a) {R:Ending->World->Prop} {φ:List Value->World->Prop} (hR:∀vs w,φ vs w->R (.returned (TT vs)) w):
  ∀(ds:List Nat) (w:World),Ir ds w (fun w'=>AY P fn.results.toList env w' fun vs=>φ vs w')->LeavesInM (Fr none) 0 P fn a.tmps R (mkD ds) .returning w:=by
 intro ds
 induction ds with
 |nil=>
  intro w h
  obtain⟨vs,hr,hφ⟩:=Ub ha h
  exact⟨_,hr,hR _ _ hφ⟩
 |cons D ds ih=>
  intro w h
  obtain⟨h1,h2⟩:=h
  exact⟨by simp,.inl ⟨D,_,rfl,run_takeDeferred h1,ih _ h2⟩⟩
theorem aal (hP:QI P) {f:FuncId} {fn:Func} {c:Code} {nt:Nat} (hf:P.funcs[f]? =some fn) (hb:fn.body=some c) (hnt:fn.ntmps=nt) {rs:List ResultVar} (hrs:fn.results=⟨rs⟩)
  (sh:List Shape) (Post:PO (flat sh)) (an:WE) (args:List Value) (hl:Nat.ble args.length nt=true) (w:World) (h:den P nt c none an (Kw 0 args) [] w (ad4 P rs sh Post)):
  Calls P f ⟨args⟩ w fun e w'=>Ul sh Post (fun us=>e= .returned (TT us)) w':=by
 refine(callsIn_wide (n:=0)).1 ?_
 refine callsIn_of_wp_marks (F:=Fr none) hf hb trivial ?_ rfl
 have hsz:((⟨args⟩:Array Value)++Array.replicate (fn.ntmps - (⟨args⟩:Array Value).size) undef).size=nt:=by
  have:=Nat.le_of_ble_eq_true hl
  simp [hnt];omega
 refine Yx hP nt c none an _ [] w _ 0 _ (writes c) _ _ h ⟨fun s v hs=> ?_,hsz,rfl,fun _ _=>rfl⟩ (fun s hs=>hs) ?_
 ·obtain⟨_,h2⟩:=WZ _ _ _ _ hs
  have hlt:=(List.getElem?_eq_some_iff.1 h2).1
  simp only [Nat.sub_zero] at h2 hlt
  show ((⟨args⟩:Array Value)++Array.replicate (fn.ntmps - (⟨args⟩:Array Value).size) undef)[s]? =some v
  rw [Array.getElem?_append_left (by simpa using hlt)]
  simpa using h2
 ·intro e env' ds' w' a' ha' _ hk
  have hcl:∀w',Ir ds' w' (fun w'=>AY P rs env' w' fun vs=>Nr sh vs Post w')->
    LeavesInM (Fr none) 0 P fn a'.tmps (fun e w'=>Ul sh Post (fun us=>e= .returned (TT us)) w') a'.defers .returning w':=by
   intro w' hw'
   rw [ha'.defers]
   have hrs':fn.results.toList=rs:=by rw [hrs]
   rw [<- hrs'] at hw'
   exact RJ ha'.agr (φ:=fun vs w'=>Nr sh vs Post w') (fun vs w hd=>Zc sh vs Post w hd (fun us=>Ending.returned (TT vs)= .returned (TT us)) rfl) ds' w' hw'
  cases e with
  |normal=>exact hcl w' hk
  |ret=>exact hcl w' hk
  |_=>exact hk.elim
theorem QI.ac1 (h:(P.funcs.toList.all fun fn=> !(fn.name=="runtime.NumGoroutine"))=true) (hm:P.follows .mixedOrders=true):QI P:=by
 refine⟨fun f fn hf _=> ?_,hm⟩
 rw [List.all_eq_true] at h
 have:=h fn (List.mem_of_getElem? (by simpa using hf))
 simpa using this
end
def bs (l:List UInt8):ByteArray:=⟨⟨l⟩⟩
def Al (w:World) (o:Obj) (K:Addr->World->Prop):Prop:=K ⟨w.heap.size,0,none⟩ (w.alloc o)
end Gp
end
section
namespace Gp
open Go
def Row (w:World) (b:Nat) (l:List Value):Prop:=∃T,w.heap[b]? =some (.cells ⟨l⟩ T (0,0))
structure fD (w w':World) (S:Nat->Prop):Prop where
 size:w.heap.size<=w'.heap.size
 same:∀b,b<w.heap.size->¬S b->w'.heap[b]? =w.heap[b]?
 io:w'.os=w.os/\w'.tape=w.tape/\w'.output=w.output
theorem kC (b o n:Nat):(⟨b,o,none⟩:Addr).add n=⟨b,o+n,none⟩:=by
 unfold Addr.add
 by_cases h:n=0
 ·simp [h]
 ·simp [h]
section
variable {w w' w1 w2:World} {b b' i:Nat} {l l':List Value} {S S':Nat->Prop}
theorem Row.lt (h:Row w b l):b<w.heap.size:=by
 obtain⟨T,h⟩:=h
 exact(Array.getElem?_eq_some_iff.1 h).1
theorem Row.cell (h:Row w b l) (i:Nat):w.cell? ⟨b,i,none⟩=l[i]? :=by
 obtain⟨T,h⟩:=h
 simp [World.cell?,h]
theorem Row.frozen (h:Row w b l) (i:Nat):w.frozen? ⟨b,i,none⟩=false:=by
 obtain⟨T,h⟩:=h
 simp [World.frozen?,h]
theorem fD.refl (w:World) (S:Nat->Prop):fD w w S:=⟨Nat.le_refl _,fun _ _ _=>rfl,rfl,rfl,rfl⟩
theorem fD.trans (h:fD w w1 S) (h':fD w1 w2 S') (hs:∀b,b<w.heap.size->S' b->S b):fD w w2 S:=
 ⟨Nat.le_trans h.size h'.size,fun b hb hn=>(h'.same b (Nat.lt_of_lt_of_le hb h.size) fun x=>hn (hs b hb x)).trans (h.same b hb hn),h'.io.1.trans h.io.1,h'.io.2.1.trans h.io.2.1,h'.io.2.2.trans h.io.2.2⟩
theorem fD.mono (h:fD w w1 S) (hs:∀b,S b->S' b):fD w w1 S':=⟨h.size,fun b hb hn=>h.same b hb fun x=>hn (hs b x),h.io⟩
theorem fD.drew (w:World) (S:Nat->Prop):fD w w.drew S:=⟨Nat.le_refl _,fun _ _ _=>rfl,rfl,rfl,rfl⟩
theorem fD.alloc (w:World) (o:Obj) (S:Nat->Prop):fD w (w.alloc o) S:=
 ⟨by simp,fun b hb _=>by simp [World.alloc,-World.alloc_eq,Array.getElem?_push];omega,rfl,rfl,rfl⟩
theorem fD.set (w:World) (a:Addr) (v:Value) (hs:S a.block):fD w (w.setCell a v) S:=by
 refine⟨by simp,fun b hb hn=> ?_,rfl,rfl,rfl⟩
 have:¬(a.block=b):=fun e=>hn (e ▸ hs)
 simp [World.setCell,Array.getElem?_modify,this]
theorem Row.fr (h:Row w b l) (hf:fD w w' S) (hs:¬S b):Row w' b l:=by
 have hl:=h.lt
 obtain⟨T,h⟩:=h
 exact⟨T,(hf.same b hl hs).trans h⟩
theorem Row.drew (h:Row w b l):Row w.drew b l:=h
theorem Row.new (w:World) (l:List Value) (T:TypeId):Row (w.alloc (.cells ⟨l⟩ T)) w.heap.size l:=⟨T,World.alloc_heap_new w _⟩
theorem Row.set (h:Row w b l) (i:Nat) (v:Value):Row (w.setCell ⟨b,i,none⟩ v) b (l.set i v):=by
 obtain⟨T,h⟩:=h
 refine⟨T,?_⟩
 simp only [World.setCell,Array.getElem?_modify,if_true,h,Option.map_some]
 congr 2
 simp [Array.setIfInBounds]
 intro hx
 rw [List.set_eq_of_length_le hx]
theorem tH {T:TypeId} {K:Addr->World->Prop} (h:∀b w1,Row w1 b l->b=w.heap.size->w1.heap.size=b+1->(∀S,fD w w1 S)->K ⟨b,0,none⟩ w1):Al w (.cells ⟨l⟩ T) K:=
 h _ _ (Row.new w l T) rfl (by simp) (fun S=>fD.alloc w _ S)
theorem E5 {e size bytes:Nat} {z:List Value} {n c:Int} {K:b_->World->Prop} (h0:0<=n) (h1:n<=c) (h2:c<=2^62) (h3:(bytes:Int) * c<=2^48)
  (h:∀b w1,Row w1 b (fH z c.toNat)->b=w.heap.size->w1.heap.size=b+1->(∀S,fD w w1 S)->K ⟨some ⟨b,0,none⟩,n.toNat,c.toNat⟩ w1):TW e size bytes z n c w K:=
 ⟨h0,h1,h2,h3,h _ _ (Row.new w _ e) rfl (by simp) (fun S=>fD.alloc w _ S)⟩
theorem gu {v:Value} {K:World->Prop} (hr:Row w b l) (h1:gY v=true) (hi:i<l.length)
  (h:∀w1,Row w1 b (l.set i v)->(∀S:Nat->Prop,S b->fD w w1 S)->w1.heap.size=w.heap.size->K w1):St w ⟨b,i,none⟩ v K:=
 ⟨h1,by rw [hr.cell];simp [hi],hr.frozen i,h _ (hr.set i v) (fun S hs=>fD.set w _ v hs) (by simp)⟩
theorem Ja {K:World->Prop}:∀(vs:List Value) (w:World) (l:List Value) (o i:Nat),Row w b l->(∀v∈vs,gY v=true)->o+i+vs.length<=l.length->
  (∀w1,Row w1 b (l.take (o+i)++vs++l.drop (o+i+vs.length))->(∀S:Nat->Prop,S b->fD w w1 S)->w1.heap.size=w.heap.size->K w1)->lS vs w ⟨b,o,none⟩ i K:=by
 intro vs
 induction vs with
 |nil=>
  intro w l o i hr _ _ h
  exact h w (by simpa using hr) (fun S _=>fD.refl _ _) rfl
 |cons v vs ih=>
  intro w l o i hr hv hl h
  simp only [List.length_cons] at hl
  show St w ((⟨b,o,none⟩:Addr).add i) v _
  rw [kC]
  refine gu hr (hv v (List.mem_cons_self ..)) (by omega) fun w1 r1 f1 z1=> ?_
  refine ih w1 _ o (i+1) r1 (fun u hu=>hv u (List.mem_cons_of_mem _ hu)) (by rw [List.length_set];omega) fun w2 r2 f2 z2=> ?_
  refine h w2 ?_ (fun S hs=>(f1 S hs).trans (f2 S hs) fun _ _ e=>e) (by omega)
  have e1:(l.set (o+i) v).take (o+(i+1))=l.take (o+i)++[v]:=by
   rw [<- Nat.add_assoc,List.take_succ_eq_append_getElem (by simp;omega),List.take_set_of_le (by omega)]
   simp
  have e2:(l.set (o+i) v).drop (o+(i+1)+vs.length)=l.drop (o+i+(vs.length+1)):=by
   rw [List.drop_set_of_lt (by omega)]
   congr 1;omega
  rw [e1,e2] at r2
  simpa using r2
theorem fM {k:Kind} {x:k.T} {K:k.T->Prop} (hr:Row w b l) (hv:l[i]? =some (k.enc x)) (h:K x):Ld k w ⟨b,i,none⟩ K:=⟨x,by rw [hr.cell];exact hv,h⟩
theorem uz {s:b_} {size:Nat} {i:Int} {o:Nat} {K:Addr->Prop} (hs:s.a=some ⟨b,o,none⟩) (h0:0<=i) (h1:i<(s.len:Int)) (h:K ⟨b,o+i.toNat * size,none⟩):g_ s size i K:=
 ⟨_,hs,h0,h1,by rw [kC];exact h⟩
theorem fE {S:Type} {body:S->World->(S->World->Prop)->Prop} {s:S} (I:S->World->Prop) (μ:S->World->Nat) (h0:I s w)
  (step:∀s w,I s w->∀next:S->World->Prop,(∀s' w',I s' w'->μ s' w'<μ s w->next s' w')->body s w next):iw body s w:=
 ⟨fun n s w=>I s w/\n=μ s w,⟨_,h0,rfl⟩,fun n s w hI=>step s w hI.1 _ fun s' w' hI' hlt=>⟨_,by rw [hI.2];exact hlt,hI',rfl⟩⟩
end
theorem iH {α:Type} (f:α->List Value) (k:Nat) (hf:∀x,(f x).length=k) (xs:List α):(xs.flatMap f).length=xs.length * k:=by
 induction xs with
 |nil=>simp
 |cons x xs ih=>simp [List.flatMap_cons,hf,ih,Nat.add_mul];omega
theorem flat_get {α:Type} (f:α->List Value) (k:Nat) (hf:∀x,(f x).length=k):∀(xs:List α) (i j:Nat),j<k->(xs.flatMap f)[i * k+j]? =(xs[i]?).bind fun x=>(f x)[j]? :=by
 intro xs
 induction xs with
 |nil=>intro i j _;simp
 |cons x xs ih=>
  intro i j hj
  rw [List.flatMap_cons]
  cases i with
  |zero=>rw [List.getElem?_append_left (by rw [hf];omega)];simp
  |succ i=>
   rw [List.getElem?_append_right (by rw [hf,Nat.add_mul];omega),hf]
   rw [show (i+1) * k+j - k=i * k+j by rw [Nat.add_mul];omega,ih i j hj]
   simp
theorem Bq {α:Type} (f:α->List Value) (k:Nat) (hf:∀x,(f x).length=k):∀(xs:List α) (i j:Nat) (x y:α) (v:Value),j<k->xs[i]? =some x->(f x).set j v=f y->
  (xs.flatMap f).set (i * k+j) v=(xs.set i y).flatMap f:=by
 intro xs
 induction xs with
 |nil=>intro i j x y v _ h;simp at h
 |cons z xs ih=>
  intro i j x y v hj hx hy
  cases i with
  |zero=>
   simp at hx
   subst hx
   simp only [List.flatMap_cons,List.set_cons_zero,Nat.zero_mul,Nat.zero_add]
   rw [List.set_append_left _ _ (by rw [hf];exact hj),hy]
  |succ i=>
   simp only [List.flatMap_cons,List.set_cons_succ]
   rw [List.set_append_right _ _ (by rw [hf,Nat.add_mul];omega),hf]
   rw [show (i+1) * k+j - k=i * k+j by rw [Nat.add_mul];omega]
   rw [ih i j x y v hj (by simpa using hx) hy]
theorem wrap_i64 {n:Int} (h1: -9223372036854775808<=n) (h2:n<=9223372036854775807):IntKind.i64.wrap n=n:=by
 rw [IntKind.wrap_i64];omega
def LdV (k:Kind):Option Value->(k.T->Prop)->Prop
 |some v,K=>k.dec v K
 |none,_=>False
theorem fC (k:IntKind) (n:Int) (K:Int->Prop):Kind.dec (.int k) (.int k n) K=K n:=by cases k<;>rfl
theorem uf (b:Bool) (K:Bool->Prop):Kind.dec .bool (.bool b) K=K b:=rfl
theorem Na (b:ByteArray) (K:ByteArray->Prop):Kind.dec .str (.string b) K=K b:=rfl
theorem ru (a:Option Addr) (K:Option Addr->Prop):Kind.dec .ptr (.pointer a) K=K a:=rfl
theorem fG (a:Option Addr) (l c:Nat) (K:b_->Prop):Kind.dec .slice (.slice a l c) K=K ⟨a,l,c⟩:=rfl
theorem Ri (r:Option Nat) (K:Option Nat->Prop):Kind.dec .map (.map r) K=K r:=rfl
theorem S_ (v:Value) (K:Value->Prop):Kind.dec .any v K=K v:=by cases v<;>rfl
theorem OI (k:Kind) (x:k.T) (K:k.T->Prop):k.dec (k.enc x) K=K x:=by
 cases k with
 |int k=>exact fC k x K
 |any=>exact S_ x K
 |_=>rfl
theorem XK (k:Kind) (w:World) (a:Addr) (K:k.T->Prop):Ld k w a K↔LdV k (w.cell? a) K:=by
 constructor
 ·rintro⟨x,hx,h⟩
  rw [hx]
  show k.dec (k.enc x) K
  rw [OI];exact h
 ·intro h
  cases hc:w.cell? a with
  |none=>rw [hc] at h;exact h.elim
  |some v=>
   rw [hc] at h
   obtain⟨x,hx,h⟩:=FW h
   exact⟨x,by rw [hc,hx],h⟩
theorem fA (k:Kind) (v:Value) (K:k.T->Prop):LdV k (some v) K=k.dec v K:=rfl
theorem BR (a:Addr) (l c size:Nat) (i:Int) (K:Addr->Prop):g_ ⟨some a,l,c⟩ size i K↔(0<=i/\i<(l:Int)/\K (a.add (i.toNat * size))):=by
 constructor
 ·rintro⟨a',h,h0,h1,h2⟩
  cases h
  exact⟨h0,h1,h2⟩
 ·rintro⟨h0,h1,h2⟩
  exact⟨a,rfl,h0,h1,h2⟩
theorem vU {α:Type} (x:α) (P:α->Prop):(∃a,some x=some a/\P a)↔P x:=by
 constructor
 ·rintro⟨a,h,hp⟩;cases h;exact hp
 ·exact fun h=>⟨x,rfl,h⟩
end Gp
end
section
namespace Gp
open Go Go.ChangeShapes Go.WideShapes
inductive iP
 |bool|int (k:IntKind)|str
 |slice (e:iP) (n:Nat)
 |agg (r:iP)
 |nil|cons (d:iP) (n:Nat) (r:iP)
 |arr (k:Nat) (d:iP) (n:Nat)
def iP.T:iP->Type
 | .bool=>Bool
 | .int _=>Int
 | .str=>ByteArray
 | .slice e _=>b_×List e.T
 | .agg r=>r.T
 | .nil=>Unit
 | .cons d _ r=>d.T×r.T
 | .arr _ d _=>List d.T
def iP.cells:(d:iP)->d.T->List Value
 | .bool,b=>[.bool b]
 | .int k,n=>[.int k n]
 | .str,s=>[.string s]
 | .slice _ _,x=>[.slice x.1.a x.1.len x.1.cap]
 | .agg r,x=>r.cells x
 | .nil,_=>[]
 | .cons d _ r,x=>d.cells x.1++r.cells x.2
 | .arr _ d _,xs=>xs.flatMap d.cells
def Nb {α:Type} (w:World) (s:b_) (n:Nat) (f:α->List Value) (xs:List α):Prop:=
 s.len=xs.length/\s.len<=s.cap/\s.cap<=maxLen/\(xs≠[]->∃b o,s.a=some ⟨b,o,none⟩/\b<w.heap.size/\∀i x,xs[i]? =some x->(f x).length=n/\∀j v,(f x)[j]? =some v->w.cell? ⟨b,o+i * n+j,none⟩=some v)
def adu {α:Type} (k:Nat) (p:α->Prop) (xs:List α):Prop:=xs.length=k/\∀y∈xs,p y
def iP.In (w:World):(d:iP)->d.T->Prop
 | .bool,_=>True
 | .int k,n=>(Lit.int k n).wf=true
 | .str,s=>s.size<=maxLen
 | .slice e n,x=>Nb w x.1 n e.cells x.2/\∀y∈x.2,e.In w y
 | .agg r,x=>r.In w x
 | .nil,_=>True
 | .cons d _ r,x=>d.In w x.1/\r.In w x.2
 | .arr k d _,xs=>adu k (fun y:d.T=>d.In w y) xs
def iP.ok (P:Program):iP->Sum TypeId (Nat×Nat×List Field)->Bool
 | .bool,.inl t=>match P.underlying t with|some .bool=>true|_=>false
 | .int k,.inl t=>match P.underlying t with|some (.int k')=>decide (k'=k)|_=>false
 | .str,.inl t=>match P.underlying t with|some .string=>true|_=>false
 | .slice e n,.inl t=>match P.underlying t with|some (.slice e')=>Nat.beq (P.cellsOf e') n && Nat.blt 0 n && e.ok P (.inl e')|_=>false
 | .agg r,.inl t=>match P.underlying t with|some (.struct fs)=>r.ok P (.inr (0,P.cellsOf t,fs.toList))|_=>false
 | .arr k d n,.inl t=>match P.underlying t with|some (.array k' e')=>Nat.beq k' k && Nat.beq (P.cellsOf e') n && Nat.beq (P.cellsOf t) (k * n) && d.ok P (.inl e')|_=>false
 | .nil,.inr (o,n,[])=>Nat.beq o n
 | .cons d n r,.inr (o,m,f::fs)=>Nat.beq f.offset o && Nat.beq (P.cellsOf f.type) n && d.ok P (.inl f.type) && r.ok P (.inr (o+n,m,fs))
 |_,_=>false
theorem QM {α:Type} {n:Nat} {p:Nat->α->Prop} (h:∀i,i<n->∃x,p i x):∃xs:List α,xs.length=n/\∀i x,xs[i]? =some x->p i x:=by
 induction n with
 |zero=>exact⟨[],rfl,fun i x h=>by simp at h⟩
 |succ n ih=>
  obtain⟨xs,hl,hx⟩:=ih fun i hi=>h i (by omega)
  obtain⟨y,hy⟩:=h n (by omega)
  refine⟨xs++[y],by simp [hl],fun i x hi=> ?_⟩
  by_cases hlt:i<n
  ·rw [List.getElem?_append_left (by omega)] at hi
   exact hx i x hi
  ·have hlen:=(List.getElem?_eq_some_iff.1 hi).1
   simp only [List.length_append,List.length_singleton] at hlen
   have:i=n:=by omega
   subst this
   rw [List.getElem?_append_right (by omega)] at hi
   simp [hl] at hi
   exact hi ▸ hy
theorem abW {α:Type} (f:α->List Value) (n:Nat):∀(xs:List α) (cs:List Value),cs.length=xs.length * n->(∀i x,xs[i]? =some x->(cs.drop (i * n)).take n=f x)->cs=xs.flatMap f:=by
 intro xs
 induction xs with
 |nil=>intro cs hl _;simpa using hl
 |cons x xs ih=>
  intro cs hl h
  have h0:=h 0 x rfl
  simp at h0
  have:=ih (cs.drop n) (by simp [hl,Nat.add_mul]) fun i y hi=>by
   have:=h (i+1) y (by simpa using hi)
   rwa [Nat.add_mul,Nat.one_mul,Nat.add_comm,<- List.drop_drop] at this
  rw [List.flatMap_cons,<- h0,<- this,List.take_append_drop]
section
variable {H:Type} {enc:TypeId×Value->H} {P:Program} {w:World} {base:Nat} {sp:Nat->Bool} {held:Bool}
theorem beq_iff {a b:Nat}:Nat.beq a b=true↔a=b:=⟨Nat.eq_of_beq_eq_true,fun h=>by subst h;simp⟩
theorem iP.open (d:iP):(∀(t:TypeId),d.ok P (.inl t)=true->∀(fuel:Nat) (cs:List Value) (x:DataW H×List MemPlace),DataW.trod enc P w base sp held fuel t cs=some x->∃v:d.T,cs=d.cells v/\d.In w v)/\
  (∀(o m:Nat) (fs:List Field),d.ok P (.inr (o,m,fs))=true->∀(fuel:Nat) (cs:List Value),cs.length=m->(∀f∈fs,∃x,DataW.trod enc P w base sp held fuel f.type ((cs.drop f.offset).take (P.cellsOf f.type))=some x)->∃v:d.T,cs.drop o=d.cells v/\d.In w v):=by
 induction d with
 |bool=>
  refine⟨fun t ht fuel cs x h=> ?_,fun o m fs h=>by simp [iP.ok] at h⟩
  simp only [iP.ok] at ht
  split at ht
  ·rename_i hu
   obtain⟨b,rfl,_⟩:=DataW.trod_bool hu h
   exact⟨b,rfl,trivial⟩
  ·cases ht
 |int k=>
  refine⟨fun t ht fuel cs x h=> ?_,fun o m fs h=>by simp [iP.ok] at h⟩
  simp only [iP.ok] at ht
  split at ht
  ·rename_i k' hu
   have:=of_decide_eq_true ht
   subst this
   obtain⟨n,rfl,_,hw⟩:=DataW.trod_int hu h
   exact⟨n,rfl,hw⟩
  ·cases ht
 |str=>
  refine⟨fun t ht fuel cs x h=> ?_,fun o m fs h=>by simp [iP.ok] at h⟩
  simp only [iP.ok] at ht
  split at ht
  ·rename_i hu
   obtain⟨b,rfl,_,hw⟩:=DataW.trod_string hu h
   exact⟨b,rfl,hw⟩
  ·cases ht
 |slice e n ih=>
  refine⟨fun t ht fuel cs x h=> ?_,fun o m fs h=>by simp [iP.ok] at h⟩
  simp only [iP.ok] at ht
  split at ht
  case h_2=>cases ht
  rename_i e' hu
  simp only [Bool.and_eq_true,beq_iff,Nat.blt_eq] at ht
  obtain⟨⟨hn,hpos⟩,he⟩:=ht
  rcases Go.Deep.open_slice hu h with ⟨rfl,rfl⟩|⟨a,len,cap,m,g,D,Pl,rfl,hb,hl,hm,hmm,rfl,hx⟩
  ·exact⟨(⟨none,0,0⟩,[]),rfl,⟨rfl,Nat.le_refl _,by simp [maxLen],fun h=>absurd rfl h⟩,fun y hy=>by simp at hy⟩
  ·have hlm:len<=m:=by rw [hmm];split<;>omega
   obtain⟨xs,hxl,hxs⟩:=QM (n:=len) (p:=fun i (v:e.T)=>(e.cells v).length=n/\(∀j,j<n->w.cell? (a.add (i * n+j))=(e.cells v)[j]?)/\e.In w v) fun i hi=>by
    obtain⟨cs',h1,h2⟩:=hx i (by omega)
    obtain⟨_,hlen,hcell⟩:=World.cells?_some h1
    obtain⟨v,rfl,hv⟩:=ih.1 e' he _ _ _ h2
    rw [hn] at hlen hcell
    exact⟨v,hlen,fun j hj=>by rw [<- Go.Deep.add_add];exact hcell j hj,hv⟩
   refine⟨(⟨some a,len,cap⟩,xs),rfl,⟨by simp [hxl],hl,hm,fun hne=> ?_⟩,fun y hy=> ?_⟩
   ·obtain⟨b,o,spot⟩:=a
    have hx0:∃x0,xs[0]? =some x0:=by cases xs with
     |nil=>exact absurd rfl hne
     |cons x _=>exact⟨x,rfl⟩
    obtain⟨x0,hx0⟩:=hx0
    obtain⟨l0,c0,_⟩:=hxs 0 x0 hx0
    have c00:=c0 0 hpos
    rw [List.getElem?_eq_getElem (by omega)] at c00
    have hs:=World.cell?_spot c00
    have hspot:spot=none:=by simpa [Addr.add] using hs
    subst hspot
    refine⟨b,o,rfl,?_,fun i x hi=>⟨(hxs i x hi).1,fun j v hj=> ?_⟩⟩
    ·simp only [Nat.zero_mul,Nat.zero_add] at c00
     rw [kC] at c00
     unfold World.cell? at c00
     cases hb:w.heap[b]? with
     |none=>simp [hb] at c00
     |some o=>exact(Array.getElem?_eq_some_iff.1 hb).1
    ·have:=(hxs i x hi).2.1 j (by rw [<- (hxs i x hi).1];exact(List.getElem?_eq_some_iff.1 hj).1)
     rw [kC,hj] at this
     rw [Nat.add_assoc];exact this
   ·obtain⟨i,hi⟩:=List.getElem?_of_mem hy
    exact(hxs i y hi).2.2
 |agg r ih=>
  refine⟨fun t ht fuel cs x h=> ?_,fun o m fs h=>by simp [iP.ok] at h⟩
  simp only [iP.ok] at ht
  split at ht
  case h_2=>cases ht
  rename_i fs hu
  obtain⟨xs,n,rfl,_,hl,hxl,hf⟩:=DataW.trod_struct hu h
  obtain⟨v,hv,hi⟩:=ih.2 0 _ _ ht n cs hl fun f hf'=>by
   obtain⟨i,hi⟩:=List.getElem?_of_mem hf'
   have hi':fs[i]? =some f:=by simpa using hi
   have:=hf i f hi'
   have hlt:i<xs.length:=by
    rw [hxl]
    exact(Array.getElem?_eq_some_iff.1 hi').1
   rw [List.getElem?_eq_getElem hlt] at this
   exact⟨_,this⟩
  exact⟨v,hv,hi⟩
 |nil=>
  refine⟨fun t h=>by simp [iP.ok] at h,fun o m fs h fuel cs hl hf=> ?_⟩
  cases fs with
  |nil=>
   simp only [iP.ok,beq_iff] at h
   subst h
   exact⟨(),by simp [iP.cells,hl],trivial⟩
  |cons f fs=>simp [iP.ok] at h
 |cons d n r ihd ihr=>
  refine⟨fun t h=>by simp [iP.ok] at h,fun o m fs h fuel cs hl hf=> ?_⟩
  cases fs with
  |nil=>simp [iP.ok] at h
  |cons f fs=>
   simp only [iP.ok,Bool.and_eq_true,beq_iff] at h
   obtain⟨⟨⟨h1,h2⟩,h3⟩,h4⟩:=h
   obtain⟨x,hx⟩:=hf f (List.mem_cons_self ..)
   obtain⟨v,hv,hiv⟩:=ihd.1 _ h3 _ _ _ hx
   obtain⟨u,hu,hiu⟩:=ihr.2 _ _ _ h4 fuel cs hl fun g hg=>hf g (List.mem_cons_of_mem _ hg)
   refine⟨(v,u),?_,hiv,hiu⟩
   rw [h1,h2] at hv
   show cs.drop o=d.cells v++r.cells u
   rw [<- hv,<- hu,<- List.drop_drop,List.take_append_drop]
 |arr k d n ih=>
  refine⟨fun t ht fuel cs x h=> ?_,fun o m fs h=>by simp [iP.ok] at h⟩
  simp only [iP.ok] at ht
  split at ht
  case h_2=>cases ht
  rename_i k' e' hu
  simp only [Bool.and_eq_true,beq_iff] at ht
  obtain⟨⟨⟨hk,hn⟩,hc⟩,he⟩:=ht
  obtain⟨xs,g,rfl,_,hl,hxl,hf⟩:=DataW.trod_array hu h
  obtain⟨vs,hvl,hvs⟩:=QM (n:=k) (p:=fun i (v:d.T)=>(cs.drop (i * n)).take n=d.cells v/\d.In w v) fun i hi=>by
   have:=hf i (by omega)
   rw [List.getElem?_eq_getElem (by omega)] at this
   rw [hn] at this
   exact ih.1 _ he _ _ _ this
  refine⟨vs,?_,hvl,fun y hy=> ?_⟩
  ·exact abW d.cells n vs cs (by rw [hl,hc,hvl]) fun i x hi=>(hvs i x hi).1
  ·obtain⟨i,hi⟩:=List.getElem?_of_mem hy
   exact(hvs i y hi).2
def iP.value:(d:iP)->d.T->Value
 | .bool,b=> .bool b
 | .int k,n=> .int k n
 | .str,s=> .string s
 | .slice _ _,x=> .slice x.1.a x.1.len x.1.cap
 | .agg r,x=> .agg ⟨r.cells x⟩
 | .nil,_=> .agg #[]
 | .cons d n r,x=> .agg ⟨(iP.cons d n r).cells x⟩
 | .arr k d n,xs=> .agg ⟨(iP.arr k d n).cells xs⟩
theorem iP.arg (d:iP) {base0:Nat} {t:TypeId} {v:Value} {y:DataW H} {ps:List MemPlace} (ht:d.ok P (.inl t)=true) (hval:Value.okWide P w .any base0 t v) (h:DataW.Trod enc P w base sp held t v y ps):∃x:d.T,v=d.value x/\d.In w x:=by
 obtain⟨fuel,h⟩:=h
 obtain⟨x,hc,hi⟩:=d.open.1 t ht fuel _ _ h
 refine⟨x,?_,hi⟩
 unfold Value.okWide at hval
 cases d with
 |bool=>
  simp only [iP.ok] at ht
  split at ht
  ·rename_i hu
   simp only [hu,Cell.okWide] at hval
   cases v<;>simp_all [Cell.ok,Value.cells,iP.cells,iP.value]
  ·cases ht
 |int k=>
  simp only [iP.ok] at ht
  split at ht
  ·rename_i k' hu
   simp only [hu,Cell.okWide] at hval
   cases v<;>simp_all [Cell.ok,Value.cells,iP.cells,iP.value]
  ·cases ht
 |str=>
  simp only [iP.ok] at ht
  split at ht
  ·rename_i hu
   simp only [hu,Cell.okWide] at hval
   cases v<;>simp_all [Cell.ok,Value.cells,iP.cells,iP.value]
  ·cases ht
 |slice e n=>
  simp only [iP.ok] at ht
  split at ht
  ·rename_i k' hu
   simp only [hu,Cell.okWide] at hval
   cases v<;>simp_all [Cell.ok,Value.cells,iP.cells,iP.value]
  ·cases ht
 |agg r=>
  simp only [iP.ok] at ht
  split at ht
  ·rename_i fs hu
   simp only [hu] at hval
   obtain⟨cs,rfl,_⟩:=hval
   show Value.agg cs=Value.agg ⟨r.cells x⟩
   rw [<- show cs.toList=r.cells x from hc]
  ·cases ht
 |arr k e n=>
  simp only [iP.ok] at ht
  split at ht
  ·rename_i k' e' hu
   simp only [hu] at hval
   obtain⟨cs,rfl,_⟩:=hval
   show Value.agg cs=Value.agg ⟨(iP.arr k e n).cells x⟩
   rw [<- show cs.toList=(iP.arr k e n).cells x from hc]
  ·cases ht
 |nil=>simp [iP.ok] at ht
 |cons d n r=>simp [iP.ok] at ht
end
theorem Ya {w w':World} {b i:Nat} (hf:∀S,fD w w' S) (hb:b<w.heap.size):w'.cell? ⟨b,i,none⟩=w.cell? ⟨b,i,none⟩:=by
 have:=(hf fun _=>False).same b hb (by simp)
 simp [World.cell?,this]
theorem Nb.fr {α:Type} {w w':World} {s:b_} {n:Nat} {f:α->List Value} {xs:List α} (h:Nb w s n f xs) (hf:∀S,fD w w' S):Nb w' s n f xs:=by
 obtain⟨h1,h2,h3,h4⟩:=h
 refine⟨h1,h2,h3,fun hne=> ?_⟩
 obtain⟨b,o,ha,hb,hc⟩:=h4 hne
 exact⟨b,o,ha,Nat.lt_of_lt_of_le hb (hf fun _=>False).size,fun i x hi=>⟨(hc i x hi).1,fun j v hj=>by rw [Ya hf hb];exact(hc i x hi).2 j v hj⟩⟩
theorem iP.In.fr {w w':World} (hf:∀S,fD w w' S):∀(d:iP) (x:d.T),d.In w x->d.In w' x:=by
 intro d
 induction d with
 |bool=>exact fun _ h=>h
 |int k=>exact fun _ h=>h
 |str=>exact fun _ h=>h
 |slice e n ih=>exact fun x h=>⟨h.1.fr hf,fun y hy=>ih y (h.2 y hy)⟩
 |agg r ih=>exact fun x h=>ih x h
 |nil=>exact fun _ h=>h
 |cons d n r ih1 ih2=>exact fun x h=>⟨ih1 _ h.1,ih2 _ h.2⟩
 |arr k d n ih=>exact fun xs h=>⟨h.1,fun y hy=>ih y (h.2 y hy)⟩
theorem aav {W w':World} (h:∀S,fD W w' S):Go.RowKit.Below W.heap.size W w':=
 ⟨(h fun _=>False).io.1,(h fun _=>False).io.2.1,(h fun _=>False).io.2.2,(h fun _=>False).size,fun k hk=>(h fun _=>False).same k hk (by simp)⟩
end Gp
end
section
namespace Gp
open Go
def Buf (w:World) (s:b_) (vs:List Value):Prop:=
 s.len=vs.length/\((s.a=none/\vs=[]/\s.cap=0)\/∃b pad,s.a=some ⟨b,0,none⟩/\s.cap=vs.length+pad.length/\Row w b (vs++pad))
def b_.at (s:b_) (b:Nat):Prop:=∃o,s.a=some ⟨b,o,none⟩
theorem Buf.cells {w:World} {s:b_} {vs:List Value} (h:Buf w s vs):sV w s.a s.len vs:=by
 obtain⟨hl,⟨ha,rfl,_⟩|⟨b,pad,ha,_,hr⟩⟩:=h
 ·rw [ha];rfl
 ·rw [ha]
  refine⟨hl.symm,fun j hj=> ?_⟩
  rw [kC,hr.cell,Nat.zero_add,List.getElem?_append_left hj]
theorem Buf.fr {w w':World} {s:b_} {vs:List Value} {S:Nat->Prop} (h:Buf w s vs) (hf:fD w w' S) (hs:∀b,b_.at s b->¬S b):Buf w' s vs:=by
 obtain⟨hl,⟨ha,h1,h2⟩|⟨b,pad,ha,hc,hr⟩⟩:=h
 ·exact⟨hl,.inl ⟨ha,h1,h2⟩⟩
 ·exact⟨hl,.inr ⟨b,pad,ha,hc,hr.fr hf (hs b ⟨0,ha⟩)⟩⟩
theorem yH {b:Nat}:∀(vs:List Value) (w:World) (l:List Value) (o i:Nat),Row w b l->o+i+vs.length<=l.length->
  Row (setCells w ⟨b,o,none⟩ vs i) b (l.take (o+i)++vs++l.drop (o+i+vs.length))/\∀S:Nat->Prop,S b->fD w (setCells w ⟨b,o,none⟩ vs i) S:=by
 intro vs
 induction vs with
 |nil=>intro w l o i hr _;exact⟨by simpa [setCells] using hr,fun S _=>fD.refl _ _⟩
 |cons v vs ih=>
  intro w l o i hr hl
  simp only [List.length_cons] at hl
  have r1:=hr.set (o+i) v
  obtain⟨r2,f2⟩:=ih (w.setCell ⟨b,o+i,none⟩ v) _ o (i+1) r1 (by rw [List.length_set];omega)
  have e1:(l.set (o+i) v).take (o+(i+1))=l.take (o+i)++[v]:=by
   rw [<- Nat.add_assoc,List.take_succ_eq_append_getElem (by simp;omega),List.take_set_of_le (by omega)]
   simp
  have e2:(l.set (o+i) v).drop (o+(i+1)+vs.length)=l.drop (o+i+(vs.length+1)):=by
   rw [List.drop_set_of_lt (by omega)]
   congr 1;omega
  rw [e1,e2] at r2
  show Row (setCells (w.setCell ((⟨b,o,none⟩:Addr).add i) v) ⟨b,o,none⟩ vs (i+1)) b _/\∀S:Nat->Prop,S b->fD w (setCells (w.setCell ((⟨b,o,none⟩:Addr).add i) v) ⟨b,o,none⟩ vs (i+1)) S
  rw [kC]
  exact⟨by simpa using r2,fun S hs=>(fD.set w ⟨b,o+i,none⟩ v hs).trans (f2 S hs) fun _ _ e=>e⟩
theorem YJ {e:TypeId} {z:Value} {s:b_} {vs xs:List Value} {w:World} {K:b_->World->Prop} (h:Buf w s vs) (h1:∀v∈xs,gY v=true) (hl:vs.length+xs.length<=2^46)
  (hK:∀s' w',Buf w' s' (vs++xs)->(fD w w' (b_.at s))->(∀b,b_.at s' b->b_.at s b\/w.heap.size<=b)->(s'.a=none->vs++xs=[]/\s.a=none)->K s' w'):QT e 1 1 [z] s xs.length xs w K:=by
 obtain⟨hlen,hc⟩:=id h
 by_cases hcap:s.len+xs.length<=s.cap
 ·rcases hc with ⟨ha,rfl,hc⟩|⟨b,pad,ha,hc,hr⟩
  ·simp at hlen
   have:xs=[]:=by cases xs with
    |nil=>rfl
    |cons _ _=>simp at hcap;omega
   subst this
   refine .inl ⟨hcap,fun a ha'=>(by rw [ha] at ha';cases ha'),h1,?_⟩
   rw [ha]
   exact hK _ _ ⟨by simp [hlen],.inl ⟨rfl,rfl,hc⟩⟩ (fD.refl _ _) (fun b ⟨o,hb⟩=>by cases hb) fun _=>⟨rfl,ha⟩
  ·obtain⟨r2,f2⟩:=yH xs w (vs++pad) s.len 0 hr (by simp;omega)
   refine .inl ⟨hcap,fun a ha'=> ?_,h1,?_⟩
   ·rw [ha] at ha';cases ha'
    intro j hj
    rw [kC,kC,hr.cell,hr.frozen]
    simp
    omega
   ·rw [ha]
    simp only [kC,Nat.zero_add,Nat.mul_one]
    have e1:(vs++pad).take (s.len+0)=vs:=by rw [Nat.add_zero,hlen];simp
    have e2:((vs++pad).drop (s.len+0+xs.length)).length+xs.length=pad.length:=by simp;omega
    rw [e1] at r2
    exact hK _ _ ⟨by simp [hlen],.inr ⟨b,_,rfl,by simp only [List.length_append];omega,r2⟩⟩ (f2 _ ⟨0,ha⟩) (fun c ⟨o,hc'⟩=> .inl (by cases hc';exact⟨0,ha⟩)) (fun hx=>by cases hx)
 ·refine .inr ⟨by omega,by omega,by omega,vs,?_,fun c h1' h2'=> ?_⟩
  ·rw [Nat.mul_one];exact h.cells
  ·refine hK _ _ ⟨by simp [hlen],.inr ⟨w.heap.size,fH [z] (c - (s.len+xs.length)),rfl,?_,by simpa using Row.new w.drew _ e⟩⟩ ((fD.drew w _).trans (fD.alloc w.drew _ _) fun _ _ e=>e) (fun b ⟨o,hb⟩=> .inr (by cases hb;exact Nat.le_refl _)) (fun hx=>by cases hx)
   have:∀n,(fH [z] n).length=n:=fun n=>by
    induction n with
    |zero=>rfl
    |succ n ih=>simp [fH,ih]
   rw [this];simp only [List.length_append];omega
end Gp
end
section
namespace Gp
open Go
abbrev Ext (w w':World):Prop:=∀S:Nat->Prop,fD w w' S
theorem Ext.refl (w:World):Ext w w:=fun S=>fD.refl w S
theorem Ext.trans {w w1 w2:World} (h:Ext w w1) (h':Ext w1 w2):Ext w w2:=fun S=>(h S).trans (h' S) fun _ _ e=>e
theorem Ext.drew (w:World):Ext w w.drew:=fun S=>fD.drew w S
theorem Ext.fr {w w1 w2:World} {S:Nat->Prop} (h:Ext w w1) (h':fD w1 w2 S):fD w w2 S:=(h S).trans h' fun _ _ e=>e
theorem fD.ext {w w1 w2:World} {S:Nat->Prop} (h:fD w w1 S) (h':Ext w1 w2):fD w w2 S:=h.trans (h' S) fun _ _ e=>e
theorem fD.new {w w':World} {S:Nat->Prop} (h:fD w w' S) (hs:∀b,b<w.heap.size->¬S b):Ext w w':=fun _=>⟨h.size,fun b hb _=>h.same b hb (hs b hb),h.io⟩
theorem Ext.new {w w1 w2:World} {S:Nat->Prop} (h:Ext w w1) (h':fD w1 w2 S) (hs:∀b,b<w.heap.size->¬S b):Ext w w2:=(h.fr h').new hs
theorem Ext.size {w w':World} (h:Ext w w'):w.heap.size<=w'.heap.size:=(h fun _=>False).size
theorem Row.ext {w w':World} {b:Nat} {l:List Value} (h:Row w b l) (hf:Ext w w'):Row w' b l:=h.fr (hf fun _=>False) (by simp)
theorem Buf.ext {w w':World} {s:b_} {vs:List Value} (h:Buf w s vs) (hf:Ext w w'):Buf w' s vs:=h.fr (hf fun _=>False) (fun _ _=>by simp)
theorem fD.jC (w:World) (b:Nat) (o:Obj):fD w (w.putObj b o) (·=b):=
 ⟨by simp [World.putObj],fun c _ hn=>by simp [World.putObj,Array.getElem?_setIfInBounds];intro e;exact absurd e.symm hn,rfl,rfl,rfl⟩
theorem fK {w:World} {T:TypeId} {l:List Value} {K:Addr->World->Prop} (h:∀b w1,Row w1 b l->b=w.heap.size->w1.heap.size=b+1->Ext w w1->K ⟨b,0,none⟩ w1):Al w (.cells ⟨l⟩ T) K:=tH h
theorem fP {w:World} {b:Nat} {l:List Value} {vs:List Value} {K:World->Prop} (hr:Row w b l) (hv:vs.all gY=true) (hl:vs.length=l.length)
  (h:∀w1,Row w1 b vs->(∀S:Nat->Prop,S b->fD w w1 S)->w1.heap.size=w.heap.size->K w1):lS vs w ⟨b,0,none⟩ 0 K:=by
 refine Ja vs w l 0 0 hr (fun v h=>List.all_eq_true.1 hv v h) (by omega) fun w1 r1 f1 z1=>h w1 ?_ f1 z1
 have:List.drop vs.length l=[]:=by rw [hl];simp
 simpa [this] using r1
theorem Q9 (w:World) (a:Addr) (i:Nat) (K:World->Prop):lS [] w a i K=K w:=rfl
theorem Cc {w:World} {T:TypeId} {z vs:List Value} {K:Addr->World->Prop} (hv:vs.all gY=true) (hl:vs.length=z.length)
  (h:∀b w1,Row w1 b vs->b=w.heap.size->w1.heap.size=b+1->Ext w w1->K ⟨b,0,none⟩ w1):Al w (.cells ⟨z⟩ T) fun a w1=>lS vs w1 a 0 fun w2=>K a w2:=by
 refine fK fun b w1 r1 e1 z1 f1=>fP r1 hv hl fun w2 r2 f2 z2=>h b w2 r2 e1 (by omega) (f1.new (f2 (·=b) rfl) fun x hx e=>by omega)
theorem block_add (a:Addr) (j:Nat):(a.add j).block=a.block:=by unfold Addr.add;split<;>rfl
theorem cell_lt {w:World} {a:Addr} {v:Value} (h:w.cell? a=some v):a.block<w.heap.size:=by
 unfold World.cell? at h
 cases hh:w.heap[a.block]? with
 |none=>simp [hh] at h
 |some o=>exact(Array.getElem?_eq_some_iff.1 hh).1
theorem Az {w w':World} {a:Addr} {v:Value} {S:Nat->Prop} (h:w.cell? a=some v) (hf:fD w w' S) (hs:¬S a.block):w'.cell? a=some v:=by
 have:=hf.same a.block (cell_lt h) hs
 rw [<- h]
 simp only [World.cell?,this]
theorem BG {w w':World} {a:Addr} {v:Value} (h:w.cell? a=some v) (hf:Ext w w'):w'.cell? a=some v:=Az h (hf fun _=>False) (by simp)
theorem fD.iD (W:World) (l:Nat) (st:LoopState) (p:Option Code):fD W (Gp.iD W l st p) (·=l):=
 ⟨by simp [Gp.iD],fun b _ hn=>by simp [Gp.iD,Array.getElem?_modify];omega,rfl,rfl,rfl⟩
theorem fD.fB (W:World) (l:Nat):fD W (Gp.fB W l) (·=l):=
 ⟨by simp [Gp.fB],fun b _ hn=>by simp [Gp.fB,Array.getElem?_modify];omega,rfl,rfl,rfl⟩
def n_ (P:Program) (ks:List Shape) (v:Value) (C:World->Prop) (xs:List (DC ks)):Prop:=
 match v with
 | .func (.func f) first cap=>qp P f=true/\∀(l:Nat) (Q:Nat->World->Prop) (D:World->Prop),
   (∀i W,Q i W->C W)->(∀i W W',Q i W->Ext W W'->Q i W')->(∀W W',D W->Ext W W'->D W')->
   (∀i x W (K:Bool->World->Prop),xs[i]? =some x->Q i W->(∀W',Q (i+1) W'->K true W')->(∀W',D W'->K false W')->JY P l (encR ks x) W K)->
   ∀w,Q 0 w->IV P [] f (first.toList++(Value.func (.yield l) #[] #[]::cap.toList)) w fun _ w'=>Q xs.length w'\/D w'
 |_=>False
theorem oK {P:Program} {l:Nat} {sh:List Shape} {args:List Value} {w:World} {K:Value->World->Prop} (h:JY P l args w fun b w'=>K (.bool b) w'):jI P sh (.func (.yield l) #[] #[]) args w K:=h
def lg (r:Option Nat) (w:World):Nat:=if r.isNone then w.heap.size+1 else w.heap.size
def Mark (r:Option Nat) (w W:World):Prop:=r=none->W.heap[w.heap.size]? =some (.deferred (some []))
theorem xA {P:Program} {r:Option Nat} {ks:List Shape} {v:Value} {C:World->Prop} {xs:List (DC ks)} {w:World} {body:Nat->DC ks->World->(Exit->World->Prop)->Prop} {Kn Kr:World->Prop} {Kx:List (Nat×(World->Prop))}
  (hv:n_ P ks v C xs) (I:Nat->World->Prop) (J:Exit->World->Prop) (hr:∀l₀,r=some l₀->∃lp,w.heap[l₀]? =some (.loop lp))
  (h0:∀w1,Ext w w1->w1.heap.size=lg r w+1->I 0 w1)
  (hC:∀i W,I i W->C W)
  (stI:∀i W W',I i W->fD W W' (·=lg r w)->I i W')
  (stJ:∀e W W',J e W->fD W W' (·=lg r w)->J e W')
  (jmp:∀e W,J e W->e= .ret\/∃id,e= .exit id)
  (step:∀i x W Kb,xs[i]? =some x->I i W->lg r w<W.heap.size->(∀W' S,fD (fB W (lg r w)) W' S->(∀b,w.heap.size<=b->b<=lg r w->¬S b)->I (i+1) W'->Kb .normal W')->
   (∀e W' S,fD (fB W (lg r w)) W' S->(∀b,w.heap.size<=b->b<=lg r w->¬S b)->J e W'->Kb e W')->body (lg r w) x W Kb)
  (fn:∀W,I xs.length W->Mark r w W->Kn W) (fr:∀W,J .ret W->Mark r w W->Kr W) (fx:∀id W,J (.exit id) W->Mark r w W->Oc id Kx W):
  EC P r ks v w body Kn Kr Kx:=by
 unfold EC
 refine⟨hr,?_⟩
 unfold n_ at hv
 split at hv
 ·rename_i f first cap
  obtain⟨hb,hv⟩:=hv
  refine⟨hb,fun l L w1 ctx=> ?_⟩
  have hl:l=lg r w:=ctx.at_
  subst hl
  have hwl:w.heap.size<=lg r w:=by unfold lg;split<;>omega
  have mext:∀W W',Mark r w W->lg r w<W.heap.size->Ext W W'->Mark r w W':=fun W W' hm hlt he hn=>by
   rw [(he fun _=>False).same _ (by omega) (by simp)];exact hm hn
  have mset:∀W st p,Mark r w W->Mark r w (iD W (lg r w) st p):=fun W st p hm hn=>by
   have:¬(lg r w=w.heap.size):=by unfold lg;rw [hn];simp
   rw [show (iD W (lg r w) st p).heap[w.heap.size]? =W.heap[w.heap.size]? by simp [iD,Array.getElem?_modify,this]]
   exact hm hn
  have mbody:∀W W' S,Mark r w W->lg r w<W.heap.size->fD (fB W (lg r w)) W' S->(∀b,w.heap.size<=b->b<=lg r w->¬S b)->Mark r w W':=fun W W' S hm hlt hf hs hn=>by
   have:¬(lg r w=w.heap.size):=by unfold lg;rw [hn];simp
   rw [hf.same _ (by simp [fB];omega) (hs _ (Nat.le_refl _) hwl)]
   rw [show (fB W (lg r w)).heap[w.heap.size]? =W.heap[w.heap.size]? by simp [fB,Array.getElem?_modify,this]]
   exact hm hn
  have llt:∀st p W,L st p W->lg r w<W.heap.size:=fun st p W hL=>by
   obtain⟨lp,h⟩:=ctx.isLoop st p W hL
   exact(Array.getElem?_eq_some_iff.1 h).1
  have lext:∀st p W W',L st p W->Ext W W'->L st p W':=fun st p W W' hL he=>
   ctx.frame st p W W' hL ((he fun _=>False).same _ (llt st p W hL) (by simp))
  refine Calls.mono (hv (lg r w) (fun i W=>I i W/\L .ready none W/\Mark r w W) (fun W=>∃e p,J e W/\zk e=some p/\p≠none/\L .done p W/\Mark r w W)
   (fun i W h=>hC i W h.1) (fun i W W' h he=>⟨stI i W W' h.1 (he _),lext _ _ _ _ h.2.1 he,mext _ _ h.2.2 (llt _ _ _ h.2.1) he⟩)
   (fun W W' ⟨e,p,h1,h2,h3,h4,h5⟩ he=>⟨e,p,stJ e W W' h1 (he _),h2,h3,lext _ _ _ _ h4 he,mext _ _ h5 (llt _ _ _ h4) he⟩) ?_ w1 ?_) ?_
  ·intro i x W K hx ⟨hI,hL,hm⟩ ht hf
   refine ctx.yield x W none K hL (step i x W _ hx hI (llt _ _ _ hL) ?_ ?_)
   ·intro W' S hfr hs hI'
    have hL':L .busy none W':=ctx.frame _ _ _ _ (ctx.busy _ _ hL) (hfr.same _ (by simpa [fB] using llt _ _ _ hL) (hs _ hwl (Nat.le_refl _)))
    exact⟨hL',none,rfl,ht _ ⟨stI _ _ _ hI' (fD.iD _ _ _ _),ctx.set _ _ _ _ _ hL',mset _ _ _ (mbody W W' S hm (llt _ _ _ hL) hfr hs)⟩⟩
   ·intro e W' S hfr hs hJ
    have hL':L .busy none W':=ctx.frame _ _ _ _ (ctx.busy _ _ hL) (hfr.same _ (by simpa [fB] using llt _ _ _ hL) (hs _ hwl (Nat.le_refl _)))
    have hmk:=mset W' .done
    rcases jmp _ _ hJ with rfl|⟨id,rfl⟩
    ·exact⟨hL',some .ret,rfl,hf _ ⟨.ret,some .ret,stJ _ _ _ hJ (fD.iD _ _ _ _),rfl,by simp,ctx.set _ _ _ _ _ hL',hmk _ (mbody W W' S hm (llt _ _ _ hL) hfr hs)⟩⟩
    ·exact⟨hL',some (.exit id),rfl,hf _ ⟨.exit id,some (.exit id),stJ _ _ _ hJ (fD.iD _ _ _ _),rfl,by simp,ctx.set _ _ _ _ _ hL',hmk _ (mbody W W' S hm (llt _ _ _ hL) hfr hs)⟩⟩
  ·exact⟨h0 w1 (fun S=>⟨by have:=ctx.size;omega,fun b hb _=>ctx.old b hb,ctx.io⟩) ctx.size,ctx.ready,ctx.marks⟩
  ·rintro e w2 ⟨he,h⟩
   refine⟨he,?_⟩
   rcases h with ⟨hI,hL,hm⟩|⟨e',p,hJ,hj,hp,hL,hm⟩
   ·exact⟨.ready,none,hL,by simp,fn _ (stI _ _ _ hI (fD.iD _ _ _ _)) (mset _ _ _ hm)⟩
   ·refine⟨.done,p,hL,by simp,?_⟩
    have hJ':=stJ _ _ _ hJ (fD.iD w2 (lg r w) .exhausted p)
    have hm':=mset w2 .exhausted p hm
    rcases jmp _ _ hJ with rfl|⟨id,rfl⟩
    ·simp only [zk,Option.some.injEq] at hj
     subst hj
     exact fr _ hJ' hm'
    ·simp only [zk,Option.some.injEq] at hj
     subst hj
     exact fx _ _ hJ' hm'
 ·exact hv.elim
end Gp
end
section
namespace Gp
open Go
def TN (P:Program) (ks:List Shape) (v:Value) (C:World->Prop) (xs:List (DC ks)):Prop:=
 match v with
 | .func (.func f) first cap=>qp P f=true/\∀(l:Nat) (w:World) (Q:Nat->World->Prop) (D:World->Prop),
   (∀i W,Q i W->C W)->(∀i W W',Q i W->fD W W' (w.heap.size<=·)->Q i W')->(∀W W',D W->fD W W' (w.heap.size<=·)->D W')->
   (∀i x W (K:Bool->World->Prop),xs[i]? =some x->Q i W->(∀W',Q (i+1) W'->fD W W' (·<w.heap.size)->K true W')->(∀W',D W'->fD W W' (·<w.heap.size)->K false W')->JY P l (encR ks x) W K)->
   Q 0 w->IV P [] f (first.toList++(Value.func (.yield l) #[] #[]::cap.toList)) w fun _ w'=>Q xs.length w'\/D w'
 |_=>False
theorem Yn {P:Program} {r:Option Nat} {ks:List Shape} {v:Value} {C:World->Prop} {xs:List (DC ks)} {w:World} {body:Nat->DC ks->World->(Exit->World->Prop)->Prop} {Kn Kr:World->Prop} {Kx:List (Nat×(World->Prop))}
  (hv:TN P ks v C xs) (I:Nat->World->Prop) (J:Exit->World->Prop) (hr:∀l₀,r=some l₀->∃lp,w.heap[l₀]? =some (.loop lp))
  (h0:∀w1,Ext w w1->w1.heap.size=lg r w+1->I 0 w1)
  (hC:∀i W,I i W->C W)
  (stI:∀i W W',I i W->fD W W' (lg r w<=·)->I i W')
  (stJ:∀e W W',J e W->fD W W' (lg r w<=·)->J e W')
  (jmp:∀e W,J e W->e= .ret\/∃id,e= .exit id)
  (step:∀i x W Kb,xs[i]? =some x->I i W->lg r w<W.heap.size->(∀W' S,fD (fB W (lg r w)) W' S->(∀b,S b->b<w.heap.size)->I (i+1) W'->Kb .normal W')->
   (∀e W' S,fD (fB W (lg r w)) W' S->(∀b,S b->b<w.heap.size)->J e W'->Kb e W')->body (lg r w) x W Kb)
  (fn:∀W,I xs.length W->Mark r w W->Kn W) (fr:∀W,J .ret W->Mark r w W->Kr W) (fx:∀id W,J (.exit id) W->Mark r w W->Oc id Kx W):
  EC P r ks v w body Kn Kr Kx:=by
 unfold EC
 refine⟨hr,?_⟩
 unfold TN at hv
 split at hv
 ·rename_i f first cap
  obtain⟨hb,hv⟩:=hv
  refine⟨hb,fun l L w1 ctx=> ?_⟩
  have hl:l=lg r w:=ctx.at_
  subst hl
  have hwl:w.heap.size<=lg r w:=by unfold lg;split<;>omega
  have hz0:=ctx.size
  have up:∀{W W'},fD W W' (w1.heap.size<=·)->fD W W' (lg r w<=·):=fun he=>he.mono fun b h=>by omega
  have ls:∀W st p,fD W (iD W (lg r w) st p) (lg r w<=·):=fun W st p=>(fD.iD W _ st p).mono fun b h=>by omega
  have mext:∀W W',Mark r w W->lg r w<W.heap.size->fD W W' (w1.heap.size<=·)->Mark r w W':=fun W W' hm hlt he hn=>by
   rw [he.same _ (by omega) (by omega)];exact hm hn
  have mset:∀W st p,Mark r w W->Mark r w (iD W (lg r w) st p):=fun W st p hm hn=>by
   have:¬(lg r w=w.heap.size):=by unfold lg;rw [hn];simp
   rw [show (iD W (lg r w) st p).heap[w.heap.size]? =W.heap[w.heap.size]? by simp [iD,Array.getElem?_modify,this]]
   exact hm hn
  have mbody:∀W W' S,Mark r w W->lg r w<W.heap.size->fD (fB W (lg r w)) W' S->(∀b,w.heap.size<=b->b<=lg r w->¬S b)->Mark r w W':=fun W W' S hm hlt hf hs hn=>by
   have:¬(lg r w=w.heap.size):=by unfold lg;rw [hn];simp
   rw [hf.same _ (by simp [fB];omega) (hs _ (Nat.le_refl _) hwl)]
   rw [show (fB W (lg r w)).heap[w.heap.size]? =W.heap[w.heap.size]? by simp [fB,Array.getElem?_modify,this]]
   exact hm hn
  have llt:∀st p W,L st p W->lg r w<W.heap.size:=fun st p W hL=>by
   obtain⟨lp,h⟩:=ctx.isLoop st p W hL
   exact(Array.getElem?_eq_some_iff.1 h).1
  have lext:∀st p W W',L st p W->fD W W' (w1.heap.size<=·)->L st p W':=fun st p W W' hL he=>
   ctx.frame st p W W' hL (he.same _ (llt st p W hL) (by omega))
  refine Calls.mono (hv (lg r w) w1 (fun i W=>I i W/\L .ready none W/\Mark r w W) (fun W=>∃e p,J e W/\zk e=some p/\p≠none/\L .done p W/\Mark r w W)
   (fun i W h=>hC i W h.1) (fun i W W' h he=>⟨stI i W W' h.1 (up he),lext _ _ _ _ h.2.1 he,mext _ _ h.2.2 (llt _ _ _ h.2.1) he⟩)
   (fun W W' ⟨e,p,h1,h2,h3,h4,h5⟩ he=>⟨e,p,stJ e W W' h1 (up he),h2,h3,lext _ _ _ _ h4 he,mext _ _ h5 (llt _ _ _ h4) he⟩) ?_ ?_) ?_
  ·intro i x W K hx ⟨hI,hL,hm⟩ ht hf
   have hz1:=ctx.size
   have frm:∀W' S st p,fD (fB W (lg r w)) W' S->(∀b,S b->b<w.heap.size)->fD W (iD W' (lg r w) st p) (·<w1.heap.size):=fun W' S st p hfr hS=>
    ((((fD.fB W (lg r w)).mono (S':=(·<w1.heap.size)) fun b e=>by subst e;omega).trans (hfr.mono (S':=(·<w1.heap.size)) fun b e=>by have:=hS b e;omega) fun _ _ e=>e).trans ((fD.iD W' (lg r w) st p).mono (S':=(·<w1.heap.size)) fun b e=>by subst e;omega) fun _ _ e=>e)
   refine ctx.yield x W none K hL (step i x W _ hx hI (llt _ _ _ hL) ?_ ?_)
   ·intro W' S hfr hS hI'
    have hs:∀b,w.heap.size<=b->b<=lg r w->¬S b:=fun b h1 _ h3=>by have:=hS b h3;omega
    have hL':L .busy none W':=ctx.frame _ _ _ _ (ctx.busy _ _ hL) (hfr.same _ (by simpa [fB] using llt _ _ _ hL) (hs _ hwl (Nat.le_refl _)))
    exact⟨hL',none,rfl,ht _ ⟨stI _ _ _ hI' (ls _ _ _),ctx.set _ _ _ _ _ hL',mset _ _ _ (mbody W W' S hm (llt _ _ _ hL) hfr hs)⟩ (frm W' S _ _ hfr hS)⟩
   ·intro e W' S hfr hS hJ
    have hs:∀b,w.heap.size<=b->b<=lg r w->¬S b:=fun b h1 _ h3=>by have:=hS b h3;omega
    have hL':L .busy none W':=ctx.frame _ _ _ _ (ctx.busy _ _ hL) (hfr.same _ (by simpa [fB] using llt _ _ _ hL) (hs _ hwl (Nat.le_refl _)))
    have hmk:=mset W' .done
    rcases jmp _ _ hJ with rfl|⟨id,rfl⟩
    ·exact⟨hL',some .ret,rfl,hf _ ⟨.ret,some .ret,stJ _ _ _ hJ (ls _ _ _),rfl,by simp,ctx.set _ _ _ _ _ hL',hmk _ (mbody W W' S hm (llt _ _ _ hL) hfr hs)⟩ (frm W' S _ _ hfr hS)⟩
    ·exact⟨hL',some (.exit id),rfl,hf _ ⟨.exit id,some (.exit id),stJ _ _ _ hJ (ls _ _ _),rfl,by simp,ctx.set _ _ _ _ _ hL',hmk _ (mbody W W' S hm (llt _ _ _ hL) hfr hs)⟩ (frm W' S _ _ hfr hS)⟩
  ·exact⟨h0 w1 (fun S=>⟨by have:=ctx.size;omega,fun b hb _=>ctx.old b hb,ctx.io⟩) ctx.size,ctx.ready,ctx.marks⟩
  ·rintro e w2 ⟨he,h⟩
   refine⟨he,?_⟩
   rcases h with ⟨hI,hL,hm⟩|⟨e',p,hJ,hj,hp,hL,hm⟩
   ·exact⟨.ready,none,hL,by simp,fn _ (stI _ _ _ hI (ls _ _ _)) (mset _ _ _ hm)⟩
   ·refine⟨.done,p,hL,by simp,?_⟩
    have hJ':=stJ _ _ _ hJ (ls w2 .exhausted p)
    have hm':=mset w2 .exhausted p hm
    rcases jmp _ _ hJ with rfl|⟨id,rfl⟩
    ·simp only [zk,Option.some.injEq] at hj
     subst hj
     exact fr _ hJ' hm'
    ·simp only [zk,Option.some.injEq] at hj
     subst hj
     exact fx _ _ hJ' hm'
 ·exact hv.elim
end Gp
end
