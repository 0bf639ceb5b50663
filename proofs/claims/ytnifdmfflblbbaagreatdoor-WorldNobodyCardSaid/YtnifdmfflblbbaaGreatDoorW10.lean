import Derived.Test.YtnifdmfflblbbaaGreatDoorW9
section
namespace Gp.Rn
open Go Gp
theorem bI (x:Nat):∀l:List Nat,gK x l=true↔x∈l
 |[]=>by simp [gK]
 |y::r=>by
  unfold gK
  by_cases h:y=x
  ·rw [show Nat.beq y x=true by rw [h];exact Nat.beq_refl _,cond_true];simp [h]
  ·have hb:Nat.beq y x=false:=by
    cases hb:Nat.beq y x with
    |false=>rfl
    |true=>exact absurd (Nat.eq_of_beq_eq_true hb) h
   rw [hb,cond_false,bI x r,List.mem_cons]
   exact⟨.inr,fun g=>g.resolve_left fun e=>h e.symm⟩
inductive PE (ρ:Nm):AE->Env->Prop
 |nil:PE ρ [] []
 |cons {t a v l m} (h:VR ρ a v) (h':PE ρ l m):PE ρ ((t,a)::l) ((t,v)::m)
theorem PE.mono {ρ ρ':Nm} {l:AE} {m:Env} (h:PE ρ l m) (hl:Le ρ ρ'):PE ρ' l m:=by
 induction h with
 |nil=>exact .nil
 |cons h _ ih=>exact .cons (h.mono hl) ih
theorem PE.er {ρ:Nm} {l:AE} {m:Env} (h:PE ρ l m) {e:AE} {env:Env} (he:ER ρ e env):ER ρ (l++e) (m++env):=by
 induction h with
 |nil=>exact he
 |cons h _ ih=>exact ih.cons h _
section
variable {w0:World} {P:Program} {A:Tab} {prev:RunT}
theorem BA {ρ:Nm}:∀{i:Nat} {a:List AV} {v:List Value},bT ρ a v->PE ρ (ES i a) (jV i v)
 |_,[],_,h=>by cases h;exact .nil
 |i,x::a,_,h=>by
  cases h with
  |cons h h'=>exact .cons h (BA h')
theorem xZ {ρ:Nm}:∀{ps:List Nat} {a:List AV} {v:List Value},bT ρ a v->PE ρ (Bg ps a) (oQ ps v)
 |[],_,_,_=> .nil
 |p::ps,[],_,h=>by cases h;exact .nil
 |p::ps,x::a,_,h=>by
  cases h with
  |cons h h'=>exact .cons h (xZ h')
theorem vg {ρ:Nm} {K:World->Prop}:∀{ads ds:List Nat} {s:St} {w:World} {k:St->Bool},jX ads s k=true->DR ρ ads ds->Rel w0 ρ s w->(∀s' w',k s'=true->Rel w0 ρ s' w'->K w')->jJ ds w K
 |[],[],s,w,k,h,_,hr,hK=>hK s w h hr
 |D::ads,b::ds,s,w,k,h,hd,hr,hK=>by
  obtain⟨⟨x,hx,rfl⟩,hd⟩:=hd
  unfold jX at h
  split at h
  ·rename_i hg
   obtain⟨s',h,p1,p2⟩:=dI h
   refine⟨hr.br D _ x hg hx,vg h hd (hr.IB hx hg trivial p1 p2 (eP.EM w x.b _) trivial) hK⟩
  ·cases h
 |[],_::_,_,_,_,_,h,_,_=>h.elim
 |_::_,[],_,_,_,_,h,_,_=>h.elim
theorem rH {ρ:Nm} {s:St} {w:World} {e:AE} {env:Env} {φ:List Value->Prop} (hr:Rel w0 ρ s w) (he:ER ρ e env):∀{rs:List ResultVar} {vs:List AV},rV P rs e s=some vs->(∀us,bT ρ vs us->φ us)->eu P rs env w φ
 |[],vs,h,hp=>by cases h;exact hp [] .nil
 | .tmp t::r,vs,h,hp=>by
  unfold rV at h
  split at h
  ·rename_i v l hv hl
   cases h
   obtain⟨u,h1,h2⟩:=he t v hv
   unfold eu
   rw [h1]
   exact rH (φ:=fun vs=>φ (u::vs)) hr he hl fun us hus=>hp _ (.cons h2 hus)
  ·cases h
 | .cell a t::r,vs,h,hp=>by
  unfold rV at h
  unfold eu
  split at h
  ·rename_i i o kd n ha hs hn
   obtain⟨u,h1,h2⟩:=he a _ ha
   cases h2 with
   |ptr hx=>
   rw [h1,hs,hn]
   dsimp only
   cases hb:Nat.beq 1 n with
   |false=>rw [hb] at h;cases h
   |true=>
    rw [hb,cond_true] at h
    show cond (Nat.beq 1 n) _ _
    rw [hb,cond_true]
    split at h
    ·rename_i v l hv hl
     cases hk:Gx kd v with
     |false=>rw [hk] at h;cases h
     |true=>
      rw [hk] at h
      cases h
      obtain⟨us,g1,g2,g3,_⟩:=jT hr hx hv
      cases g1 with
      |cons g g'=>
      cases g'
      obtain⟨y,rfl⟩:=jr g hk
      have:=g3 0 (by simp)
      rw [aV] at this
      exact⟨y,this,rH (φ:=fun vs=>φ (_::vs)) hr he hl fun us hus=>hp _ (.cons g hus)⟩
    ·cases h
  ·rename_i i o ks n ha hs hn
   obtain⟨u,h1,h2⟩:=he a _ ha
   cases h2 with
   |ptr hx=>
   rw [h1,hs,hn]
   dsimp only
   cases hb:Nat.beq ks.length n with
   |false=>rw [hb] at h;cases h
   |true=>
    rw [hb,cond_true] at h
    show cond (Nat.beq ks.length n) _ _
    rw [hb,cond_true]
    split at h
    ·rename_i v l hv hl
     cases hk:sV ks v with
     |false=>rw [hk] at h;cases h
     |true=>
      rw [hk] at h
      cases h
      obtain⟨us,g1,g2,g3,_⟩:=jT hr hx hv
      exact EC ks v us 0 g1 hk (fun j hj=>by rw [Nat.zero_add];exact g3 j hj) (rH (φ:=fun vs=>φ (_::vs)) hr he hl fun us' hus=>hp _ (.cons (.agg g1) hus))
    ·cases h
  ·cases h
theorem Dc (hP:jZ P) {f:FuncId} {fn:Func} {c:Code} (hf:P.funcs[f]? =some fn) (hb:fn.body=some c) (an:jO) (args:List Value) (hl:args.length<=fn.ntmps) (w:World) (φ:List Value->World->Prop)
  (h:den P fn.ntmps c none an (jV 0 args) [] w fun e env ds w=>match e with
   | .normal=>jJ ds w fun w'=>eu P fn.results.toList env w' fun vs=>φ vs w'
   | .ret=>jJ ds w fun w'=>eu P fn.results.toList env w' fun vs=>φ vs w'
   |_=>False):Calls P f ⟨args⟩ w fun e w'=>∃vs,e= .returned (bJ vs)/\φ vs w':=by
 refine(callsIn_wide (n:=0)).1 ?_
 refine callsIn_of_wp_marks (F:=Fr none) hf hb trivial ?_ rfl
 have hsz:((⟨args⟩:Array Value)++Array.replicate (fn.ntmps - (⟨args⟩:Array Value).size) undef).size=fn.ntmps:=by
  simp;omega
 refine vO hP fn.ntmps c none an _ [] w _ 0 _ (writes c) _ _ h ⟨fun s v hs=> ?_,hsz,rfl,fun _ _=>rfl⟩ (fun s hs=>hs) ?_
 ·obtain⟨_,h2⟩:=tq _ _ _ _ hs
  have hlt:=(List.getElem?_eq_some_iff.1 h2).1
  simp only [Nat.sub_zero] at h2 hlt
  show ((⟨args⟩:Array Value)++Array.replicate (fn.ntmps - (⟨args⟩:Array Value).size) undef)[s]? =some v
  rw [Array.getElem?_append_left (by simpa using hlt)]
  simpa using h2
 ·intro e env' ds' w' a' ha' _ hk
  have hcl:∀w',jJ ds' w' (fun w'=>eu P fn.results.toList env' w' fun vs=>φ vs w')->
    LeavesInM (Fr none) 0 P fn a'.tmps (fun e w'=>∃vs,e= .returned (bJ vs)/\φ vs w') a'.defers .returning w':=by
   intro w' hw'
   rw [ha'.defers]
   exact pq ha'.agr (φ:=φ) (fun vs w hd=>⟨vs,rfl,hd⟩) ds' w' hw'
  cases e with
  |normal=>exact hcl w' hk
  |ret=>exact hcl w' hk
  |_=>exact hk.elim
theorem Dq (hP:jZ P) (hp:jA P w0 prev) {Γ:mP} {f:FuncId} {args:List AV} {s:St} {k:List AV->St->Bool} {ρ:Nm} {w:World} {args':List Value} {K:List Value->World->Prop} (h:wC P A prev Γ f args s k=true) (hg:GR P ρ Γ) (hr:Rel w0 ρ s w) (ha:bT ρ args args')
  (hK:∀rs s',k rs s'=true->∀ρ' w' rs',Le ρ ρ'->Rel w0 ρ' s' w'->bT ρ' rs rs'->K rs' w'):Calls P f ⟨args'⟩ w fun e w'=>∃vs,e= .returned (bJ vs)/\K vs w':=by
 unfold wC at h
 split at h
 ·rename_i fn an hf han
  split at h
  ·rename_i c hb
   obtain⟨hl,h⟩:=au h
   have hl:=Nat.le_of_ble_eq_true hl
   rw [ha.len] at hl
   refine Dc hP hf hb an args' hl w K ?_
   have he:ER ρ (ES 0 args) (jV 0 args'):=by
    have:=(BA (i:=0) ha).er (e:=[]) (env:=[]) ER.nil
    simpa using this
   refine hp _ _ _ none _ _ _ _ _ _ h ρ w _ [] _ hr he trivial hg trivial ?_
   intro e ae ads s' hk ρ' w' env' ds' l' r' he' hd'
   have fin:(jX ads s' fun s''=>match rV P fn.results.toList ae s'' with
     |some vs=>k vs s''
     |none=>false)=true->jJ ds' w' fun w'=>eu P fn.results.toList env' w' fun vs=>K vs w':=by
    intro hk
    refine vg hk hd' r' fun s'' w'' hk r''=> ?_
    split at hk
    ·rename_i vs hvs
     exact rH r'' he' hvs fun us hus=>hK _ _ hk ρ' w'' us l' r'' hus
    ·cases hk
   cases e with
   |normal=>exact fin hk
   |ret=>exact fin hk
   |_=>cases hk
  ·cases h
 ·cases h
def dH (P:Program) (w0:World) (M:List oD):Prop:=∀m∈M,∀ρ w args',Rel w0 ρ m.s w->bT ρ m.args args'->
 Calls P m.f ⟨args'⟩ w fun e w'=>∃ρ' vs,Le ρ ρ'/\Rel w0 ρ' m.t w'/\bT ρ' m.rs vs/\e= .returned (bJ vs)
theorem vT {f:FuncId} {args:List AV} {s:St} {q:List AV×St}:∀{M:List oD},uz M f args s=some q->∃m∈M,m.f=f/\m.args=args/\m.s.h=s.h/\q=(m.rs,m.t)
 |[],h=>by cases h
 |m::r,h=>by
  unfold uz at h
  have rest:uz r f args s=some q->∃m'∈m::r,m'.f=f/\m'.args=args/\m'.s.h=s.h/\q=(m'.rs,m'.t):=fun h=>by
   obtain⟨m',h1,h2⟩:=vT h
   exact⟨m',List.mem_cons_of_mem _ h1,h2⟩
  cases h1:Nat.beq m.f f with
  |false=>rw [h1] at h;exact rest h
  |true=>
   cases h2:Nat.beq m.s.n s.n with
   |false=>rw [h1,h2] at h;exact rest h
   |true=>
    cases h3:fC m.args args && uU m.s.h s.h with
    |false=>rw [h1,h2,h3] at h;exact rest h
    |true=>
     rw [h1,h2,h3] at h
     rw [Bool.and_eq_true] at h3
     exact⟨m,List.mem_cons_self ..,Nat.eq_of_beq_eq_true h1,(fZ _ _ h3.1).1,rP h3.2,(Option.some.inj h).symm⟩
theorem oI (hP:jZ P) (hp:jA P w0 prev) (hM:dH P w0 A.memo) {Γ:mP} {f:FuncId} {args:List AV} {s:St} {k:List AV->St->Bool} {ρ:Nm} {w:World} {args':List Value} {K:List Value->World->Prop} (h:gU P A prev Γ f args s k=true) (hg:GR P ρ Γ) (hr:Rel w0 ρ s w) (ha:bT ρ args args')
  (hK:∀rs s',k rs s'=true->∀ρ' w' rs',Le ρ ρ'->Rel w0 ρ' s' w'->bT ρ' rs rs'->K rs' w'):Calls P f ⟨args'⟩ w fun e w'=>∃vs,e= .returned (bJ vs)/\K vs w':=by
 unfold gU at h
 split at h
 ·rename_i rs t hm
  obtain⟨m,hmem,h1,h2,h3,h4⟩:=vT hm
  cases h4
  have hr':Rel w0 ρ m.s w:=by
   have:=hr.names (n:=m.s.n)
   rw [<- h3] at this
   exact this
  rw [<- h1]
  refine Calls.mono (hM m hmem ρ w args' hr' (by rw [h2];exact ha)) ?_
  rintro e w' ⟨ρ',vs,l',r',v',rfl⟩
  exact⟨vs,rfl,hK _ _ h ρ' w' vs l' r' v'⟩
 ·exact Dq hP hp h hg hr ha hK
theorem H8 {nt:Nat}:∀{c:Code} {an:jO} {r:Option Nat} {e:AE} {env:Env} {s:St} {w:World} {ρ:Nm} {ds:List Nat} {k:AE->St->Bool} {K:Exit->Env->List Nat->World->Prop},uJ P nt c an e s k=true->Rel w0 ρ s w->ER ρ e env->KE true w0 ρ s w k (fun env' w'=>K .normal env' ds w')->den P nt c r an env ds w K:=by
 intro c
 induction c with
 |skip=>intro an r e env s w ρ ds k K h hr he hK;exact hK _ _ h ρ w env (Le.refl ρ) hr he fun _=>Lp.refl ρ s w
 |region id ops draw=>
  intro an r e env s w ρ ds k K h hr he hK
  unfold uJ at h
  unfold den
  cases draw with
  |true=>cases h
  |false=>
   rw [cond_false] at h
   rw [cond_false]
   exact xg (Jq P w0 ρ) h (Le.refl ρ) hr he hK
 |seq a b iha ihb=>
  intro an r e env s w ρ ds k K h hr he hK
  unfold uJ at h
  unfold den
  split at h
  ·rename_i x y
   dsimp only
   refine iha h hr he fun e1 s1 hk ρ1 w1 env1 l1 r1 he1 p1=> ?_
   dsimp only
   exact ihb hk r1 he1 (hK.step l1 p1)
  ·cases h
 |_=>intro an r e env s w ρ ds k K h;cases h
theorem vW {ρ:Nm}:∀{ks:List Shape} {a:List AV} {v:List Value},bT ρ a v->oP ks a=true->∃x:uS ks,v=encR ks x
 |[],[],_,h,_=>by cases h;exact⟨(),rfl⟩
 |[],_::_,_,_,g=>by cases g
 |_::_,[],_,_,g=>by cases g
 |k::ks,y::a,_,h,g=>by
  cases h with
  |cons h h'=>
  rename_i v0 vs0
  unfold oP at g
  rw [Bool.and_eq_true] at g
  obtain⟨x',rfl⟩:=vW h' g.2
  have:∃x:ShT k,v0=BL k x:=by
   have g1:=g.1
   cases k with
   |one kd=>obtain⟨x,rfl⟩:=jr h g1;exact⟨x,rfl⟩
   |agg kk=>
    cases h with
    |agg h=>
     have hks:∀{ks:List Kind} {a:List AV} {v:List Value},bT ρ a v->sV ks a=true->∃x:Aq ks,v=DY ks x:=by
      intro ks
      induction ks with
      |nil=>
       intro a v h g
       cases a with
       |nil=>cases h;exact⟨(),rfl⟩
       |cons _ _=>cases g
      |cons k ks ih=>
       intro a v h g
       cases h with
       |nil=>cases g
       |cons h h'=>
        unfold sV at g
        rw [Bool.and_eq_true] at g
        obtain⟨x,rfl⟩:=jr h g.1
        obtain⟨x',rfl⟩:=ih h' g.2
        exact⟨(x,x'),rfl⟩
     obtain⟨x,rfl⟩:=hks h g1
     exact⟨x,rfl⟩
    |_=>cases g1
  obtain⟨x,rfl⟩:=this
  exact⟨(x,x'),rfl⟩
theorem JH {a b:JL} (h:JZ a b=true):a=b:=by
 cases a<;>cases b<;>first|rfl|cases h|skip
 unfold JZ at h
 rw [Nat.eq_of_beq_eq_true h]
theorem BX (hp:jA P w0 prev) {Γ:mP} {l:Nat} {args:List AV} {s:St} {k:Bool->St->Bool} {ρ:Nm} {w:World} {args':List Value} {x:Loc} {K:Bool->World->Prop} (h:sG P prev Γ l args s k=true) (hg:GR P ρ Γ) (hr:Rel w0 ρ s w) (hx:ρ l=some x) (ha:bT ρ args args')
  (hK:∀b s',k b s'=true->∀ρ' w',Le ρ ρ'->Rel w0 ρ' s' w'->K b w'):nZ P x.b args' w K:=by
 unfold sG at h
 split at h
 ·rename_i i p hi hl
  obtain⟨hsh,h⟩:=au h
  obtain⟨xs,rfl⟩:=vW ha hsh
  obtain⟨x',env,hx',hE,hY⟩:=hg l i hi
  rw [hx] at hx'
  cases hx'
  obtain⟨hL,hLo⟩:=hr.br l _ x hl hx
  refine hY xs w (sF p) K hL ?_
  unfold Iz
  refine H8 h hr ((xZ ha).er hE) fun env1 s1 hk ρ1 w1 env1' l1 r1 he1 p1=> ?_
  dsimp only
  obtain⟨q1,q2⟩:=p1 rfl l x .ready p hl hx
  refine⟨q2,?_⟩
  have hx1:=l1 _ _ hx
  obtain⟨s2,hk,a1,a2⟩:=dI hk
  obtain⟨hL1,_⟩:=r1.br l _ x q1 hx1
  have r2:Rel w0 ρ1 s2 (gQ w1 x.b):=r1.IB hx1 q1 trivial a1 a2 (eP.gQ w1 x.b) ⟨hLo.busy _ _ hL1,hLo⟩
  refine hp _ _ _ (some x.b) _ _ _ _ _ _ hk ρ1 (gQ w1 x.b) env1' [] _ r2 he1 trivial (hg.mono l1) ⟨x,hx1,rfl⟩ ?_
  intro e ae ads s3 hk ρ3 w3 env3 ds3 l3 r3 he3 hd3
  have hx3:=l3 _ _ hx1
  dsimp only at hk
  split at hk
  ·rename_i p3 hg3
   obtain⟨hj,hq⟩:=au hk
   clear hk
   have:=JH hj
   subst this
   obtain⟨hL3,_⟩:=r3.br l _ x hg3 hx3
   refine⟨hL3,?_⟩
   have fin:∀(st:LoopState) (j:JL) (b:Bool),(jE s3 l (.loop st j) fun s4=>k b s4)=true->K b (bn w3 x.b st (sF j)):=by
    intro st j b hk
    obtain⟨s4,hk,b1,b2⟩:=dI hk
    exact hK b s4 hk ρ3 _ (l1.trans l3) (r3.IB hx3 hg3 trivial b1 b2 (eP.bn w3 x.b st (sF j)) ⟨hLo.set _ _ _ _ _ hL3,hLo⟩)
   cases e with
   |normal=>exact⟨none,rfl,fin .ready .no true hq⟩
   |ret=>exact⟨some .ret,rfl,fin .done .ret false hq⟩
   |exit id=>exact⟨some (.exit id),rfl,fin .done (.ex id) false hq⟩
   |_=>cases hq
  ·cases hk
 ·cases h
theorem Ho (hP:jZ P) (hp:jA P w0 prev) (hM:dH P w0 A.memo) {Γ:mP} {ρ0:Nm} (hg:GR P ρ0 Γ):sK false P w0 ρ0 (EH P A prev Γ):=
 ⟨fun f args s k ρ w args' K h hl hr ha hK=>oI hP hp hM h (hg.mono hl) hr ha fun rs s' hk ρ' w' rs' l' r' v'=>hK rs s' hk ρ' w' rs' l' r' v' fun e=>(by cases e),
  fun l args s k ρ w args' x K h hl hr hx ha hK=>BX hp h (hg.mono hl) hr hx ha fun b s' hk ρ' w' l' r'=>hK b s' hk ρ' w' l' r' fun e=>(by cases e)⟩
theorem AE.bW (ws:List Nat):∀(e:AE) (t:Nat),(AE.without ws e).get t=if t∈ws then none else e.get t
 |[],t=>by unfold AE.without;rw [AE.get_nil];split<;>rfl
 |(s,v)::e,t=>by
  unfold AE.without
  have ih:=AE.bW ws e t
  cases hm:gK s ws with
  |true=>
   have hs:=(bI s ws).1 hm
   rw [cond_true,ih,AE.aS]
   by_cases h:t∈ws
   ·rw [if_pos h,if_pos h]
   ·rw [if_neg h,if_neg h,if_neg fun(e:s=t)=>h (e ▸ hs)]
  |false=>
   have hs:s∉ws:=fun h=>by rw [(bI s ws).2 h] at hm;cases hm
   rw [cond_false,AE.aS,AE.aS,ih]
   by_cases h:s=t
   ·subst h;rw [if_pos rfl,if_pos rfl,if_neg hs]
   ·rw [if_neg h,if_neg h]
theorem Env.bW (ws:List Nat):∀(e:Env) (t:Nat),t∉ws->(without ws e).get t=e.get t
 |[],t,_=>rfl
 |(s,v)::e,t,h=>by
  unfold without
  have ih:=Env.bW ws e t h
  cases hm:gK s ws with
  |true=>
   have hs:=(bI s ws).1 hm
   rw [cond_true,ih,aS,if_neg fun(e:s=t)=>h (e ▸ hs)]
  |false=>
   rw [cond_false,aS,aS,ih]
theorem ER.without {ρ:Nm} {e:AE} {env:Env} (h:ER ρ e env) (ws:List Nat):ER ρ (AE.without ws e) (Gp.without ws env):=fun t v g=>by
 rw [AE.bW] at g
 split at g
 ·cases g
 ·rename_i ht
  rw [Env.bW ws env t ht]
  exact h t v g
theorem og {ρ:Nm}:∀{st:List (Nat×Kind)} {e:AE} {env:Env} {l:AE} {φ:oJ st->Prop},yF st e=some l->ER ρ e env->(∀s:oJ st,PE ρ l (encS st s)->φ s)->uK st env φ
 |[],e,env,l,φ,h,he,hK=>by cases h;exact hK () .nil
 |(t,kd)::r,e,env,l,φ,h,he,hK=>by
  unfold yF at h
  split at h
  ·rename_i v hv
   cases hk:Gx kd v with
   |false=>rw [hk] at h;cases h
   |true=>
    rw [hk,cond_true] at h
    split at h
    ·rename_i m hm
     cases h
     obtain⟨u,h1,h2⟩:=he t v hv
     obtain⟨y,rfl⟩:=jr h2 hk
     unfold uK
     rw [h1]
     dsimp only
     rw [o8]
     exact og hm he fun s hs=>hK (y,s) (.cons h2 hs)
    ·cases h
  ·cases h
theorem yB (hp:jA P w0 prev) {nt:Nat} {a:Code} {r r':Option Nat} {x:jO} {st:List (Nat×Kind)} {base:AE} {benv:Env} {Γ:mP} {k:KC} {ρ:Nm} {K:Exit->Env->List Nat->World->Prop} (hg:GR P ρ Γ) (hrr:RR ρ r r') (hb:ER ρ base benv) (hK:Jo w0 ρ k K)
  {n:Nat} {l:AE} {ads:List Nat} {σ:St} {ρ1:Nm} {w:World} {env:Env} {ds:List Nat} (h:uN prev nt a r x st base Γ k (n+1) l ads σ=true) (hl:Le ρ ρ1) (hr:Rel w0 ρ1 σ w) (hs:PE ρ1 l env) (hd:DR ρ1 ads ds)
  (next:oJ st->List Nat->World->Prop) (hnext:∀l' ads' σ' ρ2 s' ds' w',uN prev nt a r x st base Γ k n l' ads' σ'=true->Le ρ ρ2->Rel w0 ρ2 σ' w'->PE ρ2 l' (encS st s')->DR ρ2 ads' (cond (bg a) ds' ds)->next s' ds' w'):
  den P nt a r' x (env++benv) ds w fun e env' ds' w'=>match e with
   | .normal=>uK st env' fun s'=>next s' ds' w'
   |e=>K e env' ds' w':=by
 have h:sN prev nt a r x st base Γ k (uN prev nt a r x st base Γ k n) l ads σ=true:=h
 unfold sN at h
 refine hp _ _ _ r' _ _ _ _ _ _ h ρ1 w _ ds _ hr (hs.er (hb.mono hl)) hd (hg.mono hl) (hrr.mono hl) ?_
 intro e ae ads' s' hk ρ2 w' env' ds' l2 r2 he2 hd2
 cases e with
 |normal=>
  dsimp only at hk ⊢
  split at hk
  ·rename_i l' hl'
   refine og hl' he2 fun s1 hs1=>hnext l' _ s' ρ2 s1 ds' w' hk (hl.trans l2) r2 hs1 ?_
   cases bg a with
   |true=>exact hd2
   |false=>exact hd.mono l2
  ·cases hk
 |_=>exact hK _ _ _ _ hk ρ2 w' env' ds' (hl.trans l2) r2 he2 hd2
end
end Gp.Rn
end
section
namespace Gp.Rn
open Go Gp
section
variable {w0:World} {P:Program} {A:Tab} {prev:RunT}
theorem IX (hp:jA P w0 prev) {nt:Nat} {a:Code} {r r':Option Nat} {an:jO} {ae:AE} {ads:List Nat} {Γ:mP} {s:St} {k:KC} {ρ:Nm} {w:World} {env:Env} {ds:List Nat} {K:Exit->Env->List Nat->World->Prop}
  (h:J3 prev nt a r an ae ads Γ s k=true) (hr:Rel w0 ρ s w) (he:ER ρ ae env) (hd:DR ρ ads ds) (hg:GR P ρ Γ) (hrr:RR ρ r r') (hK:Jo w0 ρ k K):den P nt (.loop a) r' an env ds w K:=by
 unfold J3 at h
 split at h
 ·rename_i st x
  split at h
  ·rename_i l hl
   have hb:=he.without (writes a)
   unfold den
   dsimp only
   generalize 1000000=N at h
   cases hra:bg a with
   |true=>
    rw [cond_true]
    refine og hl he fun s0 hs0=> ?_
    refine⟨fun n S W=>∃l ads σ ρ1,uN prev nt a r x st (AE.without (writes a) ae) Γ k n l ads σ=true/\Le ρ ρ1/\Rel w0 ρ1 σ W/\PE ρ1 l (encS st S.1)/\DR ρ1 ads S.2,⟨N,l,ads,s,ρ,h,Le.refl ρ,hr,hs0,hd⟩,?_⟩
    rintro n ⟨S,D⟩ W ⟨l1,ads1,σ1,ρ1,h1,l2,r1,p1,d1⟩
    cases n with
    |zero=>cases h1
    |succ n=>
     refine yB hp hg hrr hb hK h1 l2 r1 p1 d1 (fun s' ds' w'=>∃m,m<n+1/\∃l ads σ ρ1,uN prev nt a r x st (AE.without (writes a) ae) Γ k m l ads σ=true/\Le ρ ρ1/\Rel w0 ρ1 σ w'/\PE ρ1 l (encS st s')/\DR ρ1 ads ds') fun l' ads' σ' ρ2 s' ds' w' q1 q2 q3 q4 q5=> ?_
     rw [hra] at q5
     exact⟨n,Nat.lt_succ_self n,l',ads',σ',ρ2,q1,q2,q3,q4,q5⟩
   |false=>
    rw [cond_false]
    refine og hl he fun s0 hs0=> ?_
    refine⟨fun n S W=>∃l ads σ ρ1,uN prev nt a r x st (AE.without (writes a) ae) Γ k n l ads σ=true/\Le ρ ρ1/\Rel w0 ρ1 σ W/\PE ρ1 l (encS st S)/\DR ρ1 ads ds,⟨N,l,ads,s,ρ,h,Le.refl ρ,hr,hs0,hd⟩,?_⟩
    rintro n S W ⟨l1,ads1,σ1,ρ1,h1,l2,r1,p1,d1⟩
    cases n with
    |zero=>cases h1
    |succ n=>
     refine yB hp hg hrr hb hK h1 l2 r1 p1 d1 (fun s' ds' w'=>∃m,m<n+1/\∃l ads σ ρ1,uN prev nt a r x st (AE.without (writes a) ae) Γ k m l ads σ=true/\Le ρ ρ1/\Rel w0 ρ1 σ w'/\PE ρ1 l (encS st s')/\DR ρ1 ads ds) fun l' ads' σ' ρ2 s' ds' w' q1 q2 q3 q4 q5=> ?_
     rw [hra] at q5
     exact⟨n,Nat.lt_succ_self n,l',ads',σ',ρ2,q1,q2,q3,q4,q5⟩
  ·cases h
 ·cases h
theorem y9 {id:Nat} {f:Nat->World->Prop} {w:World}:∀{l:List Nat},gK id l=true->f id w->vJ id (l.map fun i=>(i,f i)) w
 |[],h,_=>by cases h
 |i::l,h,hf=>by
  rw [List.map_cons]
  unfold vJ
  unfold gK at h
  by_cases hi:i=id
  ·rw [show Nat.beq i id=true by rw [hi];exact Nat.beq_refl _,cond_true,hi];exact hf
  ·have hb:Nat.beq i id=false:=by
    cases hb:Nat.beq i id with
    |false=>rfl
    |true=>exact absurd (Nat.eq_of_beq_eq_true hb) hi
   rw [hb,cond_false] at h
   rw [hb,cond_false]
   exact y9 h hf
theorem BK (hP:jZ P) (hp:jA P w0 prev) (hM:dH P w0 A.memo) {nt:Nat} {g:Operand} {ps:List Nat} {assign body:Code} {ks:List Shape} {x y:jO} {r r':Option Nat} {ae:AE} {ads:List Nat} {Γ:mP} {m:Option Nat} {s s0:St} {k:KC} {ρ:Nm} {w:World} {env:Env} {ds:List Nat} {K:Exit->Env->List Nat->World->Prop}
  (h:B_ P A prev nt g ps assign body ks x y ae ads Γ m s k=true)
  (hm:(m=none/\s0=s/\r'≠none)\/∃i,m=some i/\r'=none/\s0.h.get i=none/\s.h.get i=some .mark/\∀j,j≠i->s.h.get j=s0.h.get j)
  (hloop:∀l₀,r'=some l₀->∃lp,w.heap[l₀]? =some (.loop lp)) (hr:Rel w0 ρ s0 w) (he:ER ρ ae env) (hd:DR ρ ads ds) (hg:GR P ρ Γ) (hK:Jo w0 ρ k K):
  KQ P r' ks (ev env g) w
   (fun l x' W Kb=>den P nt assign (some l) x (oQ ps (encR ks x')++env) [] W fun e env1 _ W1=>match e with
    | .normal=>W1.heap[l]? =W.heap[l]? /\den P nt body (some l) y env1 [] (gQ W1 l) fun e _ _ W2=>Kb e W2
    |_=>False)
   (fun w'=>K .normal env (cond r'.isNone (w.heap.size::ds) ds) w') (fun w'=>K .ret env (cond r'.isNone (w.heap.size::ds) ds) w')
   ((dJ body).map fun id=>(id,fun w'=>K (.exit id) env (cond r'.isNone (w.heap.size::ds) ds) w')):=by
 unfold B_ at h
 split at h
 ·rename_i f first cap hv
  obtain⟨v,hv1,hv2⟩:=uh he hv
  have hev:ev env g=v:=by unfold ev;rw [hv1];rfl
  cases hv2 with
  | @fn _ _ first' _ cap' hf hc=>
  refine⟨hloop,?_⟩
  rw [hev]
  obtain⟨hb,h⟩:=au h
  refine⟨hb,fun l L w1 cx=> ?_⟩
  obtain⟨i,s2,h,q0,q1,q2⟩:=dn h
  have hold:Ext w w1:=fun S=>⟨by have:=cx.size;have:=cx.at_;split at this<;>omega,fun b hb _=>cx.old b hb,cx.io⟩
  have hlo:M_ ⟨l,0,L⟩:=⟨cx.frame,cx.set,cx.busy,cx.isLoop⟩
  have hsz:w.heap.size<=l/\l<w1.heap.size:=by have:=cx.size;have:=cx.at_;split at this<;>omega
  have hez:=hr.ext.size
  have hbr:∀j b z,s0.h.get j=some b->ρ j=some z->BR ρ w1 z b:=fun j b z g1 g2=>(hr.br j b z g1 g2).same (cx.old _ (hr.new j z g2).2)
  have step:∃ρ1,Le ρ ρ1/\Rel w0 ρ1 s w1/\(∀j b z,s.h.get j=some b->live b->ρ1 j=some z->z.b≠l)/\DR ρ1 (m.toList++ads) (cond r'.isNone (w.heap.size::ds) ds):=by
   rcases hm with ⟨rfl,rfl,hn⟩|⟨j,rfl,rfl,g0,g1,g2⟩
   ·refine⟨ρ,Le.refl ρ,⟨hr.dom,hr.fresh,hbr,fun j z g=>⟨(hr.new j z g).1,by have:=(hr.new j z g).2;omega⟩,hr.inj,hr.ext.trans hold⟩,fun j b z g1 g2 g3=>by have:=(hr.new j z g3).2;omega,?_⟩
    cases r' with
    |none=>exact absurd rfl hn
    |some _=>exact hd
   ·have hl1:l=w.heap.size+1:=cx.at_
    obtain⟨a1,a2⟩:=hr.add (w':=w1) (x:=⟨w.heap.size,0,fun _ _ _=>False⟩) g0 g1 g2 ⟨hez,by have:=cx.size;simp only;omega⟩ (cx.marks rfl) hbr (fun j b z g1 g2 g3=>by have:=(hr.new j z g3).2;simp only;omega) hold.size (hr.ext.trans hold)
    refine⟨_,a2,a1,fun k b z g3 g4 g5=> ?_,⟨⟨_,aU ρ j _,rfl⟩,hd.mono a2⟩⟩
    unfold upd at g5
    split at g5
    ·cases g5;simp only;omega
    ·have:=(hr.new k z g5).2;omega
  obtain⟨ρ1,l1,r1,hdis,hd1⟩:=step
  obtain⟨r2,l2⟩:=r1.add (w':=w1) (x:=⟨l,0,L⟩) q0 q1 q2 ⟨by simp only;omega,hsz.2⟩ ⟨cx.ready,hlo⟩ (fun j b z g1 g2=>r1.br j b z g1 g2) hdis (Nat.le_refl _) r1.ext
  have l12:=l1.trans l2
  have hxl:=aU ρ1 i ⟨l,0,L⟩
  have hΓ:GR P (upd ρ1 i ⟨l,0,L⟩) ((i,⟨nt,ps,ks,x,y,assign,body,ae⟩)::Γ):=by
   intro j info hj
   unfold mP.get at hj
   by_cases hij:i=j
   ·subst hij
    rw [show Nat.beq i i=true from Nat.beq_refl _,cond_true] at hj
    cases hj
    exact⟨_,env,hxl,he.mono l12,fun xs W p R h1 h2=>cx.yield xs W p R h1 h2⟩
   ·have hbq:Nat.beq i j=false:=by
     cases hbq:Nat.beq i j with
     |false=>rfl
     |true=>exact absurd (Nat.eq_of_beq_eq_true hbq) hij
    rw [hbq,cond_false] at hj
    exact(hg.mono l12) j info hj
  refine Calls.mono (oI hP hp hM (K:=fun vs w2=>vs=[]/\∃st p,L st p w2/\st≠.busy/\Ea (fun w'=>K .normal env (cond r'.isNone (w.heap.size::ds) ds) w') (fun w'=>K .ret env (cond r'.isNone (w.heap.size::ds) ds) w') ((dJ body).map fun id=>(id,fun w'=>K (.exit id) env (cond r'.isNone (w.heap.size::ds) ds) w')) p (bn w2 l .exhausted p)) h hΓ r2 ((hf.mono l12).app (.cons (.yld hxl) (hc.mono l12))) fun rs s3 hk ρ3 w3 rs' l3 r3 v3=> ?_) ?_
  ·split at hk
   ·rename_i st p hg3
    cases v3
    refine⟨rfl,?_⟩
    have hx3:=l3 _ _ hxl
    obtain⟨hL3,_⟩:=r3.br i _ _ hg3 hx3
    cases hbz:J9 st .busy with
    |true=>rw [hbz] at hk;cases hk
    |false=>
     rw [hbz,cond_false] at hk
     obtain⟨s4,hk,b1,b2⟩:=dI hk
     refine⟨st,sF p,hL3,fun e=>(by rw [e] at hbz;cases hbz),?_⟩
     have r4:Rel w0 ρ3 s4 (bn w3 l .exhausted (sF p)):=r3.IB hx3 hg3 trivial b1 b2 (eP.bn w3 l .exhausted (sF p)) trivial
     have l03:=l12.trans l3
     have hd3:=hd1.mono (l2.trans l3)
     have he3:=he.mono l03
     cases p with
     |no=>exact hK _ _ _ _ hk ρ3 _ env _ l03 r4 he3 hd3
     |ret=>exact hK _ _ _ _ hk ρ3 _ env _ l03 r4 he3 hd3
     |ex id=>
      obtain⟨g1,hk⟩:=au hk
      exact y9 (f:=fun id w'=>K (.exit id) env (cond r'.isNone (w.heap.size::ds) ds) w') g1 (hK _ _ _ _ hk ρ3 _ env _ l03 r4 he3 hd3)
   ·cases hk
  ·rintro e w2 ⟨vs,rfl,rfl,hx⟩
   exact⟨rfl,hx⟩
 ·cases h
theorem F9 (hP:jZ P) (hp:jA P w0 prev) (hM:dH P w0 A.memo) (hpf:Ba prev):jA P w0 (A_ P A prev):=by
 intro nt c r r' an ae ads Γ s k h ρ w env ds K hr he hd hg hrr hK
 cases c with
 |skip=>exact hK _ _ _ _ h ρ w env ds (Le.refl ρ) hr he hd
 |label _=>exact hK _ _ _ _ h ρ w env ds (Le.refl ρ) hr he hd
 |ret=>exact hK _ _ _ _ h ρ w env ds (Le.refl ρ) hr he hd
 |exit id=>exact hK _ _ _ _ h ρ w env ds (Le.refl ρ) hr he hd
 |region id ops draw=>
  have h:Hf P A prev nt ops.toList draw ae ads Γ s k=true:=h
  unfold Hf at h
  unfold den
  have hcb:sK false P w0 ρ (EH P A prev Γ):=Ho hP hp hM hg
  cases draw with
  |true=>
   rw [cond_true] at h
   rw [cond_true]
   obtain⟨h1,h⟩:=au h
   unfold o9
   rw [h1,cond_true]
   exact yY hcb (zF P A hpf Γ) _ _ _ _ _ [] _ _ _ h ρ w.drew env _ (Le.refl ρ) hr.drew he (fun i sh a v hm=>by cases hm) fun e' s' a hk ρ' w' env' l' r1 he' _=>hK _ _ _ _ hk ρ' w' env' ds l' r1 he' (hd.mono l')
  |false=>
   rw [cond_false] at h
   rw [cond_false]
   exact xg hcb h (Le.refl ρ) hr he fun e' s' hk ρ' w' env' l' r1 he' _=>hK _ _ _ _ hk ρ' w' env' ds l' r1 he' (hd.mono l')
 |seq a b=>
  have h:EG prev nt a b r an ae ads Γ s k=true:=h
  unfold EG at h
  split at h
  ·rename_i x y
   unfold den
   dsimp only
   refine hp _ _ _ r' _ _ _ _ _ _ h ρ w env ds _ hr he hd hg hrr fun e ae' ads' s' hk ρ' w' env' ds' l' r1 he' hd'=> ?_
   unfold Ja at hk
   cases e with
   |normal=>exact hp _ _ _ r' _ _ _ _ _ _ hk ρ' w' env' ds' K r1 he' hd' (hg.mono l') (hrr.mono l') (hK.mono l')
   |_=>exact hK _ _ _ _ hk ρ' w' env' ds' l' r1 he' hd'
  ·cases h
 |cond c a b=>
  have h:condC prev nt c a b r an ae ads Γ s k=true:=h
  unfold condC at h
  split at h
  ·rename_i x y
   unfold den
   dsimp only
   split at h
   ·rename_i t ht
    obtain⟨v,h1,h2⟩:=uh he ht
    cases h2
    rw [h1]
    dsimp only
    cases t with
    |true=>exact hp _ _ _ r' _ _ _ _ _ _ h ρ w env ds K hr he hd hg hrr hK
    |false=>exact hp _ _ _ r' _ _ _ _ _ _ h ρ w env ds K hr he hd hg hrr hK
   ·cases h
  ·cases h
 |block id a=>
  have h:Ep prev nt id a r an ae ads Γ s k=true:=h
  unfold Ep at h
  split at h
  ·rename_i x
   unfold den
   dsimp only
   refine hp _ _ _ r' _ _ _ _ _ _ h ρ w env ds _ hr he hd hg hrr fun e ae' ads' s' hk ρ' w' env' ds' l' r1 he' hd'=> ?_
   unfold Je at hk
   cases e with
   |exit id'=>
    dsimp only at hk ⊢
    cases hb:Nat.beq id' id with
    |true=>rw [hb,cond_true] at hk;rw [cond_true];exact hK _ _ _ _ hk ρ' w' env' ds' l' r1 he' hd'
    |false=>rw [hb,cond_false] at hk;rw [cond_false];exact hK _ _ _ _ hk ρ' w' env' ds' l' r1 he' hd'
   |_=>exact hK _ _ _ _ hk ρ' w' env' ds' l' r1 he' hd'
  ·cases h
 |scope a=>
  have h:prev nt a r an ae ads Γ s (FD k)=true:=h
  unfold den
  refine hp _ _ _ r' _ _ _ _ _ _ h ρ w env ds _ hr he hd hg hrr fun e ae' ads' s' hk ρ' w' env' ds' l' r1 he' hd'=> ?_
  unfold FD at hk
  cases e with
  |goto _=>cases hk
  |_=>exact hK _ _ _ _ hk ρ' w' env' ds' l' r1 he' hd'
 |loop a=>
  have h:J3 prev nt a r an ae ads Γ s k=true:=h
  exact IX hp h hr he hd hg hrr hK
 |rangeFunc g ps assign body=>
  have h:J6 P A prev nt g ps.toList assign body r an ae ads Γ s k=true:=h
  unfold J6 at h
  split at h
  ·rename_i ks x y
   obtain⟨h1,h⟩:=au h
   unfold den
   dsimp only
   rw [h1,cond_true]
   cases r with
   |none=>
    dsimp only at h
    cases r' with
    |some _=>exact hrr.elim
    |none=>
    obtain⟨m,s1,h,q0,q1,q2⟩:=dn h
    exact BK (r:=none) hP hp hM h (.inr ⟨m,rfl,rfl,q0,q1,q2⟩) (fun l₀ e=>by cases e) hr he hd hg hK
   |some l0=>
    dsimp only at h
    cases r' with
    |none=>exact hrr.elim
    |some b=>
    obtain⟨z,hz,rfl⟩:=hrr
    split at h
    ·rename_i st p hgl
     obtain⟨hL,hLo⟩:=hr.br l0 _ z hgl hz
     exact BK (r:=some l0) hP hp hM h (.inl ⟨rfl,rfl,by simp⟩) (fun l₀ e=>by cases e;exact hLo.isLoop _ _ _ hL) hr he hd hg hK
    ·cases h
  ·cases h
 |_=>cases h
theorem Ac (hP:jZ P) (hM:dH P w0 A.memo):∀n,jA P w0 (run P A n)
 |0=>fun nt c r r' an ae ads Γ s k h=>by cases h
 |n+1=>F9 hP (Ac hP hM n) hM (IE P A n)
theorem Hz (hP:jZ P) (hM:∀w0,dH P w0 A.memo) {n:Nat} {f:FuncId} (h:JD P A n f (fun rs _=>match rs with
  |[.bool true]=>true
  |_=>false)=true) (w:World):Calls P f ⟨[]⟩ w fun e w'=>e= .returned (.bool true)/\Ext w w':=by
 unfold JD at h
 have hr:Rel w (fun _=>none) ⟨.lf,0⟩ w:=⟨fun i a g=>(by cases g),fun i _=>rfl,fun i a x g=>(by cases g),fun i x g=>(by cases g),fun i j a b x y g=>(by cases g),Ext.refl w⟩
 refine Calls.mono (oI (w0:=w) hP (Ac hP (hM w) n) (hM w) (K:=fun vs w'=>vs=[.bool true]/\Ext w w') h (fun l i g=>by cases g) hr .nil fun rs s' hk ρ' w' rs' l' r' v'=> ?_) ?_
 ·split at hk
  ·cases v' with
   |cons g g'=>
   cases g'
   cases g
   exact⟨rfl,r'.ext⟩
  ·cases hk
 ·rintro e w' ⟨vs,rfl,rfl,hx⟩
  exact⟨rfl,hx⟩
theorem Fb (P:Program) (w0:World):dH P w0 []:=fun _ h=>by cases h
end
end Gp.Rn
end
section
namespace Gp.Rn
open Go Gp
def Ez:AB->Bool
 | .dead=>true
 |_=>false
def jm {α:Type}:Option α->Bool
 |some _=>true
 |none=>false
mutual
def zC (h:Tr):AV->Bool
 | .ptr i _=>jm (h.get i)
 | .sl i _ _ _=>jm (h.get i)
 | .slo i _ _ _=>jm (h.get i)
 | .slE i=>jm (h.get i)
 | .map i=>jm (h.get i)
 | .yld i=>jm (h.get i)
 | .fn _ a b=>tC h a && tC h b
 | .agg a=>tC h a
 | .bJ a=>tC h a
 | .ifc _ a=>zC h a
 |_=>true
def tC (h:Tr):List AV->Bool
 |[]=>true
 |a::l=>zC h a && tC h l
end
def MI (h:Tr):List (AV×AV×Nat)->Bool
 |[]=>true
 |(a,b,_)::l=>zC h a && (zC h b && MI h l)
def MV (h:Tr):AB->Bool
 | .row cs _ _=>tC h cs
 | .map es _=>MI h es
 | .iter (some m) _ _ _=>jm (h.get m)
 |_=>true
def zx (p:AB->Bool):Tr->Bool
 | .lf=>true
 | .nd v l r=>(match v with
  |none=>true
  |some a=>p a) && (zx p l && zx p r)
def qR:Tr->Tr->Bool
 | .lf,_=>true
 | .nd v l r,.lf=> !jm v && (qR l .lf && qR r .lf)
 | .nd v l r,.nd v' l' r'=>(match v,v' with
  |none,_=>true
  |some a,some b=>cond (Ez a) true (Am a b)
  |some _,none=>false) && (qR l l' && qR r r')
def lG:Tr->Tr->Bool
 | .lf,_=>true
 | .nd v l r,.lf=> !jm v && (lG l .lf && lG r .lf)
 | .nd v l r,.nd v' l' r'=>(!jm v||jm v') && (lG l l' && lG r r')
def fits (s:St) (rs:List AV) (t t':St):Bool:=
 lG s.h t.h && (qR t.h t'.h && (zx (MV t.h) t.h && tC t.h rs))
theorem qo {p:AB->Bool}:∀{t:Tr} {i:Nat} {a:AB},zx p t=true->t.get i=some a->p a=true
 | .lf,i,a,_,g=>by cases g
 | .nd v l r,i,a,h,g=>by
  unfold zx at h
  rw [Bool.and_eq_true,Bool.and_eq_true] at h
  cases i with
  |zero=>
   have g:v=some a:=g
   have h1:=h.1
   rw [g] at h1
   exact h1
  |succ m=>
   unfold Tr.get at g
   cases hc:Nat.beq (m % 2) 0 with
   |true=>simp only [hc,cond_true] at g;exact qo h.2.1 g
   |false=>simp only [hc,cond_false] at g;exact qo h.2.2 g
theorem fK:∀{t u:Tr} {i:Nat} {a:AB},qR t u=true->t.get i=some a->∃b,u.get i=some b/\(a=b\/a= .dead)
 | .lf,_,i,a,_,g=>by cases g
 | .nd v l r,.lf,i,a,h,g=>by
  unfold qR at h
  rw [Bool.and_eq_true,Bool.and_eq_true] at h
  cases i with
  |zero=>
   have g:v=some a:=g
   rw [g] at h
   cases h.1
  |succ m=>
   unfold Tr.get at g
   cases hc:Nat.beq (m % 2) 0 with
   |true=>simp only [hc,cond_true] at g;obtain⟨b,hb,_⟩:=fK h.2.1 g;cases hb
   |false=>simp only [hc,cond_false] at g;obtain⟨b,hb,_⟩:=fK h.2.2 g;cases hb
 | .nd v l r,.nd v' l' r',i,a,h,g=>by
  unfold qR at h
  rw [Bool.and_eq_true,Bool.and_eq_true] at h
  cases i with
  |zero=>
   have g:v=some a:=g
   have h1:=h.1
   rw [g] at h1
   cases v' with
   |none=>cases h1
   |some b=>
    refine⟨b,rfl,?_⟩
    cases hd:Ez a with
    |true=>cases a<;>first|exact .inr rfl|cases hd
    |false=>simp only [hd,cond_false] at h1;exact .inl (Bl h1)
  |succ m=>
   unfold Tr.get at g ⊢
   cases hc:Nat.beq (m % 2) 0 with
   |true=>simp only [hc,cond_true] at g ⊢;exact fK h.2.1 g
   |false=>simp only [hc,cond_false] at g ⊢;exact fK h.2.2 g
theorem iZ:∀{t u:Tr} {i:Nat} {a:AB},lG t u=true->t.get i=some a->∃b,u.get i=some b
 | .lf,_,i,a,_,g=>by cases g
 | .nd v l r,.lf,i,a,h,g=>by
  unfold lG at h
  rw [Bool.and_eq_true,Bool.and_eq_true] at h
  cases i with
  |zero=>
   have g:v=some a:=g
   rw [g] at h
   cases h.1
  |succ m=>
   unfold Tr.get at g
   cases hc:Nat.beq (m % 2) 0 with
   |true=>simp only [hc,cond_true] at g;obtain⟨b,hb⟩:=iZ h.2.1 g;cases hb
   |false=>simp only [hc,cond_false] at g;obtain⟨b,hb⟩:=iZ h.2.2 g;cases hb
 | .nd v l r,.nd v' l' r',i,a,h,g=>by
  unfold lG at h
  rw [Bool.and_eq_true,Bool.and_eq_true] at h
  cases i with
  |zero=>
   have g:v=some a:=g
   have h1:=h.1
   rw [g] at h1
   cases v' with
   |none=>cases h1
   |some b=>exact⟨b,rfl⟩
  |succ m=>
   unfold Tr.get at g ⊢
   cases hc:Nat.beq (m % 2) 0 with
   |true=>simp only [hc,cond_true] at g ⊢;exact iZ h.2.1 g
   |false=>simp only [hc,cond_false] at g ⊢;exact iZ h.2.2 g
def keep (h:Tr) (ρ:Nm):Nm:=fun i=>cond (jm (h.get i)) (ρ i) none
theorem fA {h:Tr} {ρ:Nm} {i:Nat} {x:Loc} (a:jm (h.get i)=true) (g:ρ i=some x):keep h ρ i=some x:=by
 unfold keep;rw [a];exact g
theorem rJ {h:Tr} {ρ:Nm} {i:Nat} {x:Loc} (g:keep h ρ i=some x):ρ i=some x:=by
 unfold keep at g
 cases a:jm (h.get i) with
 |true=>rw [a] at g;exact g
 |false=>rw [a] at g;cases g
theorem VR.keep {h:Tr} {ρ:Nm} {a:AV} {v:Value} (hv:VR ρ a v):zC h a=true->VR (keep h ρ) a v:=by
 refine VR.rec (motive_1:=fun a v _=>zC h a=true->VR (Rn.keep h ρ) a v) (motive_2:=fun a v _=>tC h a=true->bT (Rn.keep h ρ) a v) ?_ ?_ ?_ ?_ ?_ ?_ ?_ ?_ ?_ ?_ ?_ ?_ ?_ ?_ ?_ ?_ ?_ ?_ ?_ ?_ hv
 ·exact fun k n _=> .int k n
 ·exact fun b _=> .bool b
 ·exact fun b _=> .str b
 ·exact fun _=> .ptr0
 ·exact fun g q=> .ptr (fA (by unfold zC at q;exact q) g)
 ·exact fun _=> .sl0
 ·exact fun g q=> .sl (fA (by unfold zC at q;exact q) g)
 ·exact fun g q=> .slo (fA (by unfold zC at q;exact q) g)
 ·exact fun g o c q=> .slE (fA (by unfold zC at q;exact q) g) o c
 ·exact fun _=> .map0
 ·exact fun g q=> .map (fA (by unfold zC at q;exact q) g)
 ·exact fun f _ _ _ _ _ _ g g' q=>by
   unfold zC at q
   rw [Bool.and_eq_true] at q
   exact .fn f (g q.1) (g' q.2)
 ·exact fun g q=> .yld (fA (by unfold zC at q;exact q) g)
 ·exact fun _ g q=> .agg (g (by unfold zC at q;exact q))
 ·exact fun _ g q=> .bJ (g (by unfold zC at q;exact q))
 ·exact fun _=> .nilF
 ·exact fun _=> .nilI
 ·exact fun t _ _ _ g q=> .ifc t (g (by unfold zC at q;exact q))
 ·exact fun _=> .nil
 ·exact fun _ _ g g' q=>by
   unfold tC at q
   rw [Bool.and_eq_true] at q
   exact .cons (g q.1) (g' q.2)
theorem bT.keep {h:Tr} {ρ:Nm}:∀{a:List AV} {v:List Value},bT ρ a v->tC h a=true->bT (keep h ρ) a v
 |[],_,g,_=>by cases g;exact .nil
 |a::l,_,g,q=>by
  unfold tC at q
  rw [Bool.and_eq_true] at q
  cases g with
  |cons g g'=>exact .cons (g.keep q.1) (bT.keep g' q.2)
theorem nU.keep {h:Tr} {ρ:Nm} {a:List (AV×AV×Nat)} {b:List MapEntry} (g:nU ρ a b):MI h a=true->nU (keep h ρ) a b:=by
 induction g with
 |nil=>exact fun _=> .nil
 |cons h h' hn _ ih=>
  intro q
  unfold MI at q
  rw [Bool.and_eq_true,Bool.and_eq_true] at q
  exact .cons (h.keep q.1) (h'.keep q.2.1) hn (ih q.2.2)
theorem BR.keep {h:Tr} {ρ:Nm} {w:World} {x:Loc} {a:AB} (g:BR ρ w x a) (q:MV h a=true):BR (keep h ρ) w x a:=by
 cases a with
 |row cs z p=>obtain⟨vs,pad,h1,h2⟩:=g;exact⟨vs,pad,h1.keep q,h2⟩
 |map es c=>obtain⟨es',h1,h2⟩:=g;exact⟨es',h1,h2.keep q⟩
 |iter m s n c=>cases m with
  |none=>exact g
  |some m=>obtain⟨y,h1,h2⟩:=g;exact⟨y,fA q h1,h2⟩
 |_=>exact g
theorem dB {P:Program} {A:Tab} (hP:jZ P) {n:Nat} {m:oD} (h:gU P A (run P A n) [] m.f m.args m.s (fun rs t=>fC rs m.rs && fits m.s m.rs m.t t)=true) (hM:∀w0,dH P w0 A.memo) (w0:World):dH P w0 (m::A.memo):=fun m' hm ρ w args' hr ha=>by
 rcases List.mem_cons.1 hm with rfl|hm
 ·refine Calls.mono (oI hP (Ac hP (hM w0) n) (hM w0) (K:=fun vs w'=>∃ρ',Le ρ ρ'/\Rel w0 ρ' m'.t w'/\bT ρ' m'.rs vs) h (fun l i g=>by cases g) hr ha fun rs t hk ρ' w' vs l' r' v'=> ?_) ?_
  ·rw [Bool.and_eq_true] at hk
   obtain⟨e1,e2⟩:=hk
   have e1:=(fZ _ _ e1).1
   subst e1
   unfold fits at e2
   rw [Bool.and_eq_true,Bool.and_eq_true,Bool.and_eq_true] at e2
   obtain⟨d1,d2,d3,d4⟩:=e2
   refine⟨keep m'.t.h ρ',fun i x g=> ?_,⟨fun i a g=> ?_,fun i g=> ?_,fun i a x g g'=> ?_,fun i x g=> ?_,fun i j a b x y g1 g2 l1 l2 q1 q2 e=> ?_,r'.ext⟩,v'.keep d4⟩
   ·cases hs:m'.s.h.get i with
    |none=>rw [hr.fresh i hs] at g;cases g
    |some a=>
     obtain⟨b,hb⟩:=iZ d1 hs
     exact fA (by rw [hb];rfl) (l' _ _ g)
   ·obtain⟨b,hb,_⟩:=fK d2 g
    obtain⟨x,hx⟩:=r'.dom i b hb
    exact⟨x,fA (by rw [g];rfl) hx⟩
   ·unfold keep;rw [g];rfl
   ·obtain⟨b,hb,e⟩:=fK d2 g
    have q:=r'.br i b x hb (rJ g')
    have nm:=qo d3 g
    rcases e with rfl|rfl
    ·exact q.keep nm
    ·trivial
   ·exact r'.new i x (rJ g)
   ·obtain⟨a',ha',e1⟩:=fK d2 g1
    obtain⟨b',hb',e2⟩:=fK d2 g2
    rcases e1 with rfl|rfl
    ·rcases e2 with rfl|rfl
     ·exact r'.inj i j _ _ x y ha' hb' l1 l2 (rJ q1) (rJ q2) e
     ·exact l2.elim
    ·exact l1.elim
  ·rintro e w' ⟨vs,rfl,ρ',l',r',v'⟩
   exact⟨ρ',vs,l',r',v',rfl⟩
 ·exact hM w0 m' hm ρ w args' hr ha
end Gp.Rn
end
