import Derived.Test.YtnifdmfflblbbaaGreatDoorW6
import Derived.Test.YtnifdmfflblbbaaGreatDoorW2
section
namespace Gp.Rn
open Go Gp
structure Loc where
 b:Nat
 c:Nat
 L:LoopState->Option Code->World->Prop
abbrev Nm:=Nat->Option Loc
def Le (ρ ρ':Nm):Prop:=∀i x,ρ i=some x->ρ' i=some x
theorem Le.refl (ρ:Nm):Le ρ ρ:=fun _ _ h=>h
theorem Le.trans {ρ ρ' ρ'':Nm} (h:Le ρ ρ') (h':Le ρ' ρ''):Le ρ ρ'':=fun i x g=>h' i x (h i x g)
mutual
inductive VR (ρ:Nm):AV->Value->Prop
 |int (k n):VR ρ (.int k n) (.int k n)
 |bool (b):VR ρ (.bool b) (.bool b)
 |str (s):VR ρ (.str s) (.string s)
 |ptr0:VR ρ .ptr0 (.pointer none)
 |ptr {i o x} (h:ρ i=some x):VR ρ (.ptr i o) (.pointer (some ⟨x.b,o,none⟩))
 |sl0:VR ρ .sl0 (.slice none 0 0)
 |sl {i o n c x} (h:ρ i=some x):VR ρ (.sl i o n c) (.slice (some ⟨x.b,o,none⟩) n c)
 |slo {i o n d x} (h:ρ i=some x):VR ρ (.slo i o n d) (.slice (some ⟨x.b,o,none⟩) n (x.c - d))
 |slE {i x} (h:ρ i=some x) (o c):VR ρ (.slE i) (.slice (some ⟨x.b,o,none⟩) 0 c)
 |map0:VR ρ .map0 (.map none)
 |map {i x} (h:ρ i=some x):VR ρ (.map i) (.map (some x.b))
 |fn (f) {a a' b b'} (h:bT ρ a a') (h':bT ρ b b'):VR ρ (.fn f a b) (.func (.func f) ⟨a'⟩ ⟨b'⟩)
 |yld {i x} (h:ρ i=some x):VR ρ (.yld i) (.func (.yield x.b) #[] #[])
 |agg {a a'} (h:bT ρ a a'):VR ρ (.agg a) (.agg ⟨a'⟩)
 |bJ {a a'} (h:bT ρ a a'):VR ρ (.bJ a) (.tuple ⟨a'⟩)
 |nilF:VR ρ .nilF .nilFunc
 |nilI:VR ρ .nilI .nilIface
 |ifc (t) {a v} (h:VR ρ a v):VR ρ (.ifc t a) (.iface t v)
inductive bT (ρ:Nm):List AV->List Value->Prop
 |nil:bT ρ [] []
 |cons {a v us vs} (h:VR ρ a v) (h':bT ρ us vs):bT ρ (a::us) (v::vs)
end
section
variable {ρ ρ':Nm}
theorem VR.mono {a:AV} {v:Value} (h:VR ρ a v) (hl:Le ρ ρ'):VR ρ' a v:=by
 refine VR.rec (motive_1:=fun a v _=>VR ρ' a v) (motive_2:=fun a v _=>bT ρ' a v) ?_ ?_ ?_ ?_ ?_ ?_ ?_ ?_ ?_ ?_ ?_ ?_ ?_ ?_ ?_ ?_ ?_ ?_ ?_ ?_ h
 ·exact fun k n=> .int k n
 ·exact fun b=> .bool b
 ·exact fun b=> .str b
 ·exact .ptr0
 ·exact fun h=> .ptr (hl _ _ h)
 ·exact .sl0
 ·exact fun h=> .sl (hl _ _ h)
 ·exact fun h=> .slo (hl _ _ h)
 ·exact fun h o c=> .slE (hl _ _ h) o c
 ·exact .map0
 ·exact fun h=> .map (hl _ _ h)
 ·exact fun f _ _ _ _ _ _ h h'=> .fn f h h'
 ·exact fun h=> .yld (hl _ _ h)
 ·exact fun _ h=> .agg h
 ·exact fun _ h=> .bJ h
 ·exact .nilF
 ·exact .nilI
 ·exact fun t _ _ _ h=> .ifc t h
 ·exact .nil
 ·exact fun _ _ h h'=> .cons h h'
theorem bT.iff {a:List AV} {v:List Value}:bT ρ a v↔a.length=v.length/\∀(i:Nat) (x:AV) (y:Value),a[i]? =some x->v[i]? =some y->VR ρ x y:=by
 constructor
 ·intro h
  induction a generalizing v with
  |nil=>cases h;exact⟨rfl,fun i x y hx=>by simp at hx⟩
  |cons x a ih=>
   cases h with
   |cons h h'=>
    obtain⟨l,g⟩:=ih h'
    refine⟨by simp [l],fun i y z hy hz=> ?_⟩
    cases i with
    |zero=>simp at hy hz;subst hy hz;exact h
    |succ i=>exact g i y z (by simpa using hy) (by simpa using hz)
 ·intro ⟨l,g⟩
  induction a generalizing v with
  |nil=>cases v with
   |nil=>exact .nil
   |cons y v=>simp at l
  |cons x a ih=>cases v with
   |nil=>simp at l
   |cons y v=>exact .cons (g 0 x y rfl rfl) (ih (by simpa using l) fun i z u hz hu=>g (i+1) z u (by simpa using hz) (by simpa using hu))
theorem bT.mono {a:List AV} {v:List Value} (h:bT ρ a v) (hl:Le ρ ρ'):bT ρ' a v:=by
 rw [bT.iff] at h ⊢
 exact⟨h.1,fun i x y hx hy=>(h.2 i x y hx hy).mono hl⟩
theorem bT.len {a:List AV} {v:List Value} (h:bT ρ a v):a.length=v.length:=(bT.iff.1 h).1
theorem bT.get {a:List AV} {v:List Value} (h:bT ρ a v) {i:Nat} {x:AV} (hx:a[i]? =some x):∃y,v[i]? =some y/\VR ρ x y:=by
 obtain⟨l,g⟩:=bT.iff.1 h
 have hi:=(List.getElem?_eq_some_iff.1 hx).1
 exact⟨_,List.getElem?_eq_getElem (by omega),g i x _ hx (List.getElem?_eq_getElem (by omega))⟩
theorem bT.app {a b:List AV} {v u:List Value} (h:bT ρ a v) (h':bT ρ b u):bT ρ (a++b) (v++u):=by
 induction a generalizing v with
 |nil=>cases h;exact h'
 |cons x a ih=>cases h with|cons g g'=>exact .cons g (ih g')
theorem bT.take {a:List AV} {v:List Value} (h:bT ρ a v) (n:Nat):bT ρ (a.take n) (v.take n):=by
 induction n generalizing a v with
 |zero=>simp;exact .nil
 |succ n ih=>cases h with
  |nil=>simp;exact .nil
  |cons g g'=>simp;exact .cons g (ih g')
theorem bT.drop {a:List AV} {v:List Value} (h:bT ρ a v) (n:Nat):bT ρ (a.drop n) (v.drop n):=by
 induction n generalizing a v with
 |zero=>exact h
 |succ n ih=>cases h with
  |nil=>simp;exact .nil
  |cons g g'=>simp;exact ih g'
theorem bT.set {a:List AV} {v:List Value} (h:bT ρ a v) (i:Nat) {x:AV} {y:Value} (hx:VR ρ x y):bT ρ (a.set i x) (v.set i y):=by
 induction a generalizing v i with
 |nil=>cases h;exact .nil
 |cons z a ih=>cases h with
  |cons g g'=>cases i with
   |zero=>exact .cons hx g'
   |succ i=>exact .cons g (ih g' i)
theorem bT.rep {a:List AV} {v:List Value} (h:bT ρ a v):∀n,bT ρ (xX a n) (aC v n)
 |0=> .nil
 |n+1=>h.app (bT.rep h n)
theorem bT.map {α:Type} {l:List α} {f:α->AV} {g:α->Value} (h:∀x∈l,VR ρ (f x) (g x)):bT ρ (l.map f) (l.map g):=by
 induction l with
 |nil=>exact .nil
 |cons x l ih=>exact .cons (h x (List.mem_cons_self ..)) (ih fun y hy=>h y (List.mem_cons_of_mem _ hy))
theorem y7 {v:Value} {a:AV} (h:yI v=some a):VR ρ a v:=by
 unfold yI at h
 split at h<;>first|(cases h;constructor)|cases h
theorem jY:∀{v:List Value} {a:List AV},jh v=some a->bT ρ a v
 |[],_,h=>by cases h;exact .nil
 |x::v,a,h=>by
  unfold jh at h
  split at h
  ·rename_i y l hy hl
   cases h
   exact .cons (y7 hy) (jY hl)
  ·cases h
theorem h_ {v:Value} {a:AV} (h:lQ v=some a):VR ρ a v:=by
 unfold lQ at h
 split at h
 ·split at h
  ·rename_i cs l hl
   cases h
   have:=jY (ρ:=ρ) hl
   exact .agg this
  ·cases h
 ·split at h
  ·rename_i vs _ hv
   cases h
   obtain⟨vs⟩:=vs
   have:vs=[]:=hv
   subst this
   exact .bJ .nil
  ·cases h
 ·exact y7 h
theorem Az {a:AV} {v:Value} (h:VR ρ a v) (h1:one a=true):dF v=true:=by
 cases h<;>first|rfl|cases h1
theorem qw:∀{a:List AV} {v:List Value},bT ρ a v->ji a=true->∀x∈v,dF x=true
 |[],_,h,_=>by cases h;simp
 |y::a,_,h,h1=>by
  cases h with
  |cons g g'=>
   unfold ji at h1
   rw [Bool.and_eq_true] at h1
   intro x hx
   rcases List.mem_cons.1 hx with rfl|hx
   ·exact Az g h1.1
   ·exact qw g' h1.2 x hx
theorem jo {a b:IntKind} (h:jQ a b=true):a=b:=by cases a<;>cases b<;>first|rfl|cases h
theorem jr {k:Kind} {a:AV} {v:Value} (h:VR ρ a v) (h1:Gx k a=true):∃x:k.T,v=k.enc x:=by
 cases k with
 |any=>exact⟨v,rfl⟩
 |int k=>cases h<;>first|(rename_i k' n;cases jo h1;exact⟨n,rfl⟩)|cases h1
 |bool=>cases h<;>first|exact⟨_,rfl⟩|cases h1
 |str=>cases h<;>first|exact⟨_,rfl⟩|cases h1
 |ptr=>cases h<;>first|exact⟨_,rfl⟩|cases h1
 |slice=>cases h<;>first|exact⟨⟨_,_,_⟩,rfl⟩|cases h1
 |map=>cases h<;>first|exact⟨_,rfl⟩|cases h1
theorem Bd:∀{ks:List Kind} {a:List AV} {v:List Value} {φ:List Value->Prop},bT ρ a v->sV ks a=true->φ v->Di ks φ
 |[],[],_,φ,h,_,hp=>by cases h;exact hp
 |[],_::_,_,_,_,h1,_=>by cases h1
 |_::_,[],_,_,_,h1,_=>by cases h1
 |k::ks,x::a,_,φ,h,h1,hp=>by
  cases h with
  |cons g g'=>
   unfold sV at h1
   rw [Bool.and_eq_true] at h1
   obtain⟨y,rfl⟩:=jr g h1.1
   exact⟨y,Bd g' h1.2 hp⟩
theorem wV {sh:Shape} {a:AV} {v:Value} {φ:Value->Prop} (h:VR ρ a v) (h1:IW sh a=true) (hp:φ v):sh.ex φ:=by
 cases sh with
 |one k=>
  obtain⟨x,rfl⟩:=jr h h1
  exact⟨x,hp⟩
 |agg ks=>cases h with
  |agg g=>exact Bd g h1 hp
  |_=>cases h1
theorem lN:∀{sh:List Shape} {a:List AV} {v:List Value} {φ:List Value->Prop},bT ρ a v->oP sh a=true->φ v->dw sh φ
 |[],[],_,φ,h,_,hp=>by cases h;exact hp
 |[],_::_,_,_,_,h1,_=>by cases h1
 |_::_,[],_,_,_,h1,_=>by cases h1
 |s::sh,x::a,_,φ,h,h1,hp=>by
  cases h with
  |cons g g'=>
   unfold oP at h1
   rw [Bool.and_eq_true] at h1
   exact wV g h1.1 (φ:=fun v=>dw sh fun vs=>φ (v::vs)) (lN g' h1.2 hp)
theorem BF {a:List AV} {v:List Value} (h:bT ρ a v):VR ρ (JJ a) (bJ v):=by
 cases h with
 |nil=>exact .bJ .nil
 |cons g g'=>cases g' with
  |nil=>exact g
  |cons g1 g2=>exact .bJ (.cons g (.cons g1 g2))
theorem AE.get_nil (t:Nat):AE.get [] t=none:=rfl
theorem AE.aS (s:Nat) (v:AV) (r:AE) (t:Nat):AE.get ((s,v)::r) t=if s=t then some v else AE.get r t:=by
 show (Bool.rec (AE.get r t) (some v) (Nat.beq s t):Option AV)=_
 by_cases h:s=t
 ·rw [if_pos h,show Nat.beq s t=true from h ▸ Nat.beq_refl s]
 ·rw [if_neg h]
  cases hb:Nat.beq s t with
  |false=>rfl
  |true=>exact absurd (Nat.eq_of_beq_eq_true hb) h
def ER (ρ:Nm) (e:AE) (env:Env):Prop:=∀t v,e.get t=some v->∃u,env.get t=some u/\VR ρ v u
theorem ER.mono {e:AE} {env:Env} (h:ER ρ e env) (hl:Le ρ ρ'):ER ρ' e env:=fun t v g=>by
 obtain⟨u,h1,h2⟩:=h t v g
 exact⟨u,h1,h2.mono hl⟩
theorem ER.nil {env:Env}:ER ρ [] env:=fun t v h=>by rw [AE.get_nil] at h;cases h
theorem ER.cons {e:AE} {env:Env} (h:ER ρ e env) {v:AV} {u:Value} (hv:VR ρ v u) (s:Nat):ER ρ ((s,v)::e) ((s,u)::env):=fun t x g=>by
 rw [AE.aS] at g
 rw [aS]
 split at g
 ·cases g
  rw [if_pos (by assumption)]
  exact⟨u,rfl,hv⟩
 ·rw [if_neg (by assumption)]
  exact h t x g
theorem ER.put {e:AE} {env:Env} (h:ER ρ e env) (d:Option Nat) {v:AV} {u:Value} (hv:VR ρ v u):ER ρ (e.put d v) (env.put d u):=by
 cases d with
 |none=>exact h
 |some s=>exact h.cons hv s
theorem uh {e:AE} {env:Env} (h:ER ρ e env) {x:Operand} {a:AV} (hx:IG e x=some a):∃v,D7 env x=some v/\VR ρ a v:=by
 cases x with
 |tmp t=>exact h t a hx
 |const v=>exact⟨v,rfl,h_ hx⟩
 |global g=>cases hx
 |func f=>cases hx;exact⟨_,rfl,.fn f .nil .nil⟩
theorem FK {e:AE} {env:Env} (h:ER ρ e env):∀{l:List Operand} {us:List AV},evs e l=some us->ru env l=true/\∀x∈l,VR ρ ((IG e x).getD (.bJ [])) (ev env x)
 |[],_,_=>⟨rfl,by simp⟩
 |x::l,us,g=>by
  unfold evs at g
  split at g
  ·rename_i a m ha hm
   obtain⟨g1,g2⟩:=FK h hm
   obtain⟨v,hv,hr⟩:=uh h ha
   refine⟨by unfold ru;rw [hv,g1];rfl,fun y hy=> ?_⟩
   rcases List.mem_cons.1 hy with rfl|hy
   ·rw [ha]
    unfold ev
    rw [hv]
    exact hr
   ·exact g2 y hy
  ·cases g
end
end Gp.Rn
end
section
namespace Gp.Rn
open Go Gp
theorem Tr.fV (v:Option AB) (l r:Tr) (m:Nat):(Tr.nd v l r).get (m+1)=if m % 2=0 then l.get (m / 2) else r.get (m / 2):=by
 show cond (Nat.beq (m % 2) 0) (l.get (m / 2)) (r.get (m / 2))=_
 by_cases h:m % 2=0
 ·rw [if_pos h,h];rfl
 ·rw [if_neg h]
  cases hb:Nat.beq (m % 2) 0 with
  |false=>rfl
  |true=>exact absurd (Nat.eq_of_beq_eq_true hb) h
theorem BD:∀(f:Nat) (t:Tr) (n:Nat) (v:AB) (k:Tr->Bool),t.wo f n v k=true->∃t',k t'=true/\t'.get n=some v/\∀m,m≠n->t'.get m=t.get m:=by
 intro f
 induction f with
 |zero=>intro t n v k h;cases h
 |succ f ih=>
  intro t n v k h
  have key:∀(x:Option AB) (l r:Tr),(∀m,t.get m=(Tr.nd x l r).get m)->(∀n',n=n'+1->cond (Nat.beq (n' % 2) 0) (l.wo f (n' / 2) v fun l'=>k (.nd x l' r)) (r.wo f (n' / 2) v fun r'=>k (.nd x l r'))=true)->
    (n=0->k (.nd (some v) l r)=true)->∃t',k t'=true/\t'.get n=some v/\∀m,m≠n->t'.get m=t.get m:=by
   intro x l r ht hs h0
   cases n with
   |zero=>
    refine⟨_,h0 rfl,rfl,fun m hm=> ?_⟩
    cases m with
    |zero=>exact absurd rfl hm
    |succ m=>rw [ht,Tr.fV,Tr.fV]
   |succ n=>
    have hs:=hs n rfl
    by_cases hp:n % 2=0
    ·rw [hp] at hs
     obtain⟨l',h1,h2,h3⟩:=ih l (n / 2) v _ hs
     refine⟨_,h1,by rw [Tr.fV,if_pos hp,h2],fun m hm=> ?_⟩
     rw [ht]
     cases m with
     |zero=>rfl
     |succ m=>
      rw [Tr.fV,Tr.fV]
      by_cases hq:m % 2=0
      ·rw [if_pos hq,if_pos hq,h3 _ (by omega)]
      ·rw [if_neg hq,if_neg hq]
    ·have hb:Nat.beq (n % 2) 0=false:=by
      cases hb:Nat.beq (n % 2) 0 with
      |false=>rfl
      |true=>exact absurd (Nat.eq_of_beq_eq_true hb) hp
     rw [hb] at hs
     obtain⟨l',h1,h2,h3⟩:=ih r (n / 2) v _ hs
     refine⟨_,h1,by rw [Tr.fV,if_neg hp,h2],fun m hm=> ?_⟩
     rw [ht]
     cases m with
     |zero=>rfl
     |succ m=>
      rw [Tr.fV,Tr.fV]
      by_cases hq:m % 2=0
      ·rw [if_pos hq,if_pos hq]
      ·rw [if_neg hq,if_neg hq,h3 _ (by omega)]
  cases t with
  |lf=>
   refine key none .lf .lf (fun m=> ?_) (fun n' hn=> ?_) fun hn=> ?_
   ·cases m with
    |zero=>rfl
    |succ m=>rw [Tr.fV];split<;>rfl
   ·subst hn;exact h
   ·subst hn;exact h
  |nd x l r=>
   refine key x l r (fun m=>rfl) (fun n' hn=> ?_) fun hn=> ?_
   ·subst hn;exact h
   ·subst hn;exact h
theorem dG {n:Nat} {k:Nat->Bool} (h:fN n k=true):k n=true:=by cases n<;>exact h
theorem qV {n:Int} {k:Int->Bool} (h:fI n k=true):k n=true:=by
 cases n with
 |ofNat a=>exact dG (k:=fun a=>k (.ofNat a)) h
 |negSucc a=>exact dG (k:=fun a=>k (.negSucc a)) h
theorem vC {n:Bool} {k:Bool->Bool} (h:fB n k=true):k n=true:=by cases n<;>exact h
theorem au {a b:Bool} (h:cond a b false=true):a=true/\b=true:=by cases a<;>first|exact⟨rfl,h⟩|cases h
def jc (w:World) (b:Nat) (l:List Value):Prop:=∃T fr,w.heap[b]? =some (.cells ⟨l⟩ T fr)/\(fr=(0,0)\/l.length<=fr.1)
section
variable {w w':World} {b:Nat} {l:List Value}
theorem jc.lt (h:jc w b l):b<w.heap.size:=by
 obtain⟨T,fr,h,_⟩:=h
 exact(Array.getElem?_eq_some_iff.1 h).1
theorem jc.cell (h:jc w b l) (i:Nat):w.cell? ⟨b,i,none⟩=l[i]? :=by
 obtain⟨T,fr,h,_⟩:=h
 simp [World.cell?,h]
theorem jc.frozen (h:jc w b l) {i:Nat} (hi:i<l.length):w.frozen? ⟨b,i,none⟩=false:=by
 obtain⟨T,⟨lo,hi'⟩,h,g⟩:=h
 simp only [World.frozen?,h]
 rw [Bool.and_eq_false_iff,decide_eq_false_iff_not,decide_eq_false_iff_not]
 rcases g with g|g
 ·cases g;omega
 ·simp only at g;omega
theorem jc.fr {S:Nat->Prop} (h:jc w b l) (hf:eP w w' S) (hs:¬S b):jc w' b l:=by
 have hl:=h.lt
 obtain⟨T,fr,h,g⟩:=h
 exact⟨T,fr,(hf.same b hl hs).trans h,g⟩
theorem jc.new (w:World) (l:List Value) (T:TypeId) (fr:Nat×Nat) (h:l.length<=fr.1\/fr=(0,0)):jc (w.alloc (.cells ⟨l⟩ T fr)) w.heap.size l:=
 ⟨T,fr,World.alloc_heap_new w _,h.symm⟩
theorem jc.set (h:jc w b l) (i:Nat) (v:Value):jc (w.setCell ⟨b,i,none⟩ v) b (l.set i v):=by
 obtain⟨T,fr,h,g⟩:=h
 refine⟨T,fr,?_,by simpa using g⟩
 simp only [World.setCell,Array.getElem?_modify,if_true,h,Option.map_some]
 congr 2
 simp [Array.setIfInBounds]
 intro hx
 rw [List.set_eq_of_length_le hx]
theorem mY {b:Nat}:∀(vs:List Value) (w:World) (l:List Value) (o i:Nat),jc w b l->o+i+vs.length<=l.length->
  jc (setCells w ⟨b,o,none⟩ vs i) b (l.take (o+i)++vs++l.drop (o+i+vs.length))/\(∀S:Nat->Prop,S b->eP w (setCells w ⟨b,o,none⟩ vs i) S)/\(setCells w ⟨b,o,none⟩ vs i).heap.size=w.heap.size:=by
 intro vs
 induction vs with
 |nil=>intro w l o i hr _;exact⟨by simpa [setCells] using hr,fun S _=>eP.refl _ _,rfl⟩
 |cons v vs ih=>
  intro w l o i hr hl
  simp only [List.length_cons] at hl
  have r1:=hr.set (o+i) v
  obtain⟨r2,f2,z2⟩:=ih (w.setCell ⟨b,o+i,none⟩ v) _ o (i+1) r1 (by rw [List.length_set];omega)
  have e1:(l.set (o+i) v).take (o+(i+1))=l.take (o+i)++[v]:=by
   rw [<- Nat.add_assoc,List.take_succ_eq_append_getElem (by simp;omega),List.take_set_of_le (by omega)]
   simp
  have e2:(l.set (o+i) v).drop (o+(i+1)+vs.length)=l.drop (o+i+(vs.length+1)):=by
   rw [List.drop_set_of_lt (by omega)]
   congr 1;omega
  rw [e1,e2] at r2
  show jc (setCells (w.setCell ((⟨b,o,none⟩:Addr).add i) v) ⟨b,o,none⟩ vs (i+1)) b _/\(∀S:Nat->Prop,S b->eP w (setCells (w.setCell ((⟨b,o,none⟩:Addr).add i) v) ⟨b,o,none⟩ vs (i+1)) S)/\_
  have e3:setCells w ⟨b,o,none⟩ (v::vs) i=setCells (w.setCell ((⟨b,o,none⟩:Addr).add i) v) ⟨b,o,none⟩ vs (i+1):=rfl
  rw [e3,aV]
  exact⟨by simpa using r2,fun S hs=>(eP.set w ⟨b,o+i,none⟩ v hs).trans (f2 S hs) fun _ _ e=>e,by rw [z2];simp⟩
theorem FY {K:World->Prop}:∀(vs:List Value) (w:World) (l:List Value) (o i:Nat),jc w b l->(∀v∈vs,dF v=true)->o+i+vs.length<=l.length->
  K (setCells w ⟨b,o,none⟩ vs i)->zB vs w ⟨b,o,none⟩ i K:=by
 intro vs
 induction vs with
 |nil=>intro w l o i _ _ _ h;exact h
 |cons v vs ih=>
  intro w l o i hr h1 hl h
  simp only [List.length_cons] at hl
  show Gp.St w ((⟨b,o,none⟩:Addr).add i) v _
  have e3:setCells w ⟨b,o,none⟩ (v::vs) i=setCells (w.setCell ((⟨b,o,none⟩:Addr).add i) v) ⟨b,o,none⟩ vs (i+1):=rfl
  rw [e3,aV] at h
  rw [aV]
  refine⟨h1 v (List.mem_cons_self ..),by rw [hr.cell];simp;omega,hr.frozen (by omega),ih _ _ o (i+1) (hr.set (o+i) v) (fun u hu=>h1 u (List.mem_cons_of_mem _ hu)) (by rw [List.length_set];omega) h⟩
end
def sF:JL->Option Code
 | .no=>none
 | .ret=>some .ret
 | .ex id=>some (.exit id)
structure M_ (x:Loc):Prop where
 frame:∀st p W W',x.L st p W->W'.heap[x.b]? =W.heap[x.b]? ->x.L st p W'
 set:∀st p st' p' W,x.L st p W->x.L st' p' (bn W x.b st' p')
 busy:∀p W,x.L .ready p W->x.L .busy p (gQ W x.b)
 isLoop:∀st p W,x.L st p W->∃lp,W.heap[x.b]? =some (.loop lp)
inductive nU (ρ:Nm):List (AV×AV×Nat)->List MapEntry->Prop
 |nil:nU ρ [] []
 |cons {a v n e es es'} (h:VR ρ a e.key) (h':VR ρ v e.val) (hn:e.born=n) (hr:nU ρ es es'):nU ρ ((a,v,n)::es) (e::es')
def BR (ρ:Nm) (w:World) (x:Loc):AB->Prop
 | .row cs z p=>∃vs pad,bT ρ cs vs/\jc w x.b (vs++pad)/\cond p (x.c * z=vs.length+pad.length) (pad=[])
 | .map es c=>∃es',w.heap[x.b]? =some (.map ⟨es'⟩ c)/\nU ρ es es'
 | .iter none _ _ _=>∃s sn c,w.heap[x.b]? =some (.mapIter none s sn c)
 | .iter (some m) since seen c=>∃y,ρ m=some y/\w.heap[x.b]? =some (.mapIter (some y.b) since ⟨seen⟩ c)/\since<=c
 | .loop st j=>x.L st (sF j) w/\M_ x
 | .mark=>w.heap[x.b]? =some (.deferred (some []))
 | .dead=>True
section
variable {ρ ρ':Nm} {w w':World}
theorem nU.mono {a:List (AV×AV×Nat)} {b:List MapEntry} (h:nU ρ a b) (hl:Le ρ ρ'):nU ρ' a b:=by
 induction h with
 |nil=>exact .nil
 |cons h h' hn _ ih=>exact .cons (h.mono hl) (h'.mono hl) hn ih
theorem BR.mono {x:Loc} {a:AB} (h:BR ρ w x a) (hl:Le ρ ρ'):BR ρ' w x a:=by
 cases a with
 |row cs z p=>obtain⟨vs,pad,h1,h2⟩:=h;exact⟨vs,pad,h1.mono hl,h2⟩
 |map es c=>obtain⟨es',h1,h2⟩:=h;exact⟨es',h1,h2.mono hl⟩
 |iter m s n c=>cases m with
  |none=>exact h
  |some m=>obtain⟨y,h1,h2⟩:=h;exact⟨y,hl _ _ h1,h2⟩
 |loop st j=>exact h
 |mark=>exact h
 |dead=>trivial
theorem BR.same {x:Loc} {a:AB} (h:BR ρ w x a) (he:w'.heap[x.b]? =w.heap[x.b]?):BR ρ w' x a:=by
 cases a with
 |row cs z p=>
  obtain⟨vs,pad,h1,⟨T,fr,h2,h3⟩,h4⟩:=h
  exact⟨vs,pad,h1,⟨T,fr,he.trans h2,h3⟩,h4⟩
 |map es c=>obtain⟨es',h1,h2⟩:=h;exact⟨es',he.trans h1,h2⟩
 |iter m s n c=>cases m with
  |none=>obtain⟨a,b,c,h1⟩:=h;exact⟨a,b,c,he.trans h1⟩
  |some m=>obtain⟨y,h1,h2,h3⟩:=h;exact⟨y,h1,he.trans h2,h3⟩
 |loop st j=>exact⟨h.2.frame _ _ _ _ h.1 he,h.2⟩
 |mark=>exact he.trans h
 |dead=>trivial
def live:AB->Prop
 | .dead=>False
 |_=>True
structure Rel (w0:World) (ρ:Nm) (s:St) (w:World):Prop where
 dom:∀i a,s.h.get i=some a->∃x,ρ i=some x
 fresh:∀i,s.h.get i=none->ρ i=none
 br:∀i a x,s.h.get i=some a->ρ i=some x->BR ρ w x a
 new:∀i x,ρ i=some x->w0.heap.size<=x.b/\x.b<w.heap.size
 inj:∀i j a b x y,s.h.get i=some a->s.h.get j=some b->live a->live b->ρ i=some x->ρ j=some y->x.b=y.b->i=j
 ext:Ext w0 w
theorem Rel.names {w0:World} {s:St} (h:Rel w0 ρ s w) {n:Nat}:Rel w0 ρ ⟨s.h,n⟩ w:=⟨h.dom,h.fresh,h.br,h.new,h.inj,h.ext⟩
theorem Rel.drew {w0:World} {s:St} (h:Rel w0 ρ s w):Rel w0 ρ s w.drew:=
 ⟨h.dom,h.fresh,fun i a x h1 h2=>(h.br i a x h1 h2).same rfl,h.new,h.inj,h.ext.trans (Ext.drew w)⟩
def Lp (ρ:Nm) (s:St) (w:World) (s':St) (w':World):Prop:=∀i x st p,s.h.get i=some (.loop st p)->ρ i=some x->s'.h.get i=some (.loop st p)/\w'.heap[x.b]? =w.heap[x.b]?
theorem Lp.refl (ρ:Nm) (s:St) (w:World):Lp ρ s w s w:=fun _ _ _ _ h _=>⟨h,rfl⟩
theorem Lp.trans {s s' s'':St} {w'':World} (h:Lp ρ s w s' w') (h':Lp ρ' s' w' s'' w'') (hl:Le ρ ρ'):Lp ρ s w s'' w'':=fun i x st p h1 h2=>by
 obtain⟨a,b⟩:=h i x st p h1 h2
 obtain⟨c,d⟩:=h' i x st p a (hl _ _ h2)
 exact⟨c,d.trans b⟩
def upd (ρ:Nm) (i:Nat) (x:Loc):Nm:=fun j=>if j=i then some x else ρ j
theorem aU (ρ:Nm) (i:Nat) (x:Loc):upd ρ i x i=some x:=if_pos rfl
theorem xB {i:Nat} (h:ρ i=none) (x:Loc):Le ρ (upd ρ i x):=fun j y g=>by
 unfold upd
 rw [if_neg (fun e=>by rw [e,h] at g;cases g)]
 exact g
section
variable {w0:World} {s s':St} {i:Nat} {a:AB} {x:Loc}
theorem Rel.add (h:Rel w0 ρ s w) (h0:s.h.get i=none) (h1:s'.h.get i=some a) (h2:∀j,j≠i->s'.h.get j=s.h.get j) (hx:w0.heap.size<=x.b/\x.b<w'.heap.size)
  (hb:BR (upd ρ i x) w' x a) (ho:∀j b y,s.h.get j=some b->ρ j=some y->BR ρ w' y b) (hd:∀j b y,s.h.get j=some b->live b->ρ j=some y->y.b≠x.b) (hz:w.heap.size<=w'.heap.size) (he:Ext w0 w'):
  Rel w0 (upd ρ i x) s' w'/\Le ρ (upd ρ i x):=by
 have hi:=h.fresh i h0
 have hl:=xB hi x
 refine⟨⟨fun j b g=> ?_,fun j g=> ?_,fun j b y g g'=> ?_,fun j y g=> ?_,fun j k b c y z g1 g2 l1 l2 g3 g4 e=> ?_,he⟩,hl⟩
 ·by_cases hj:j=i
  ·exact⟨x,by rw [hj];exact aU ρ i x⟩
  ·rw [h2 j hj] at g
   obtain⟨y,hy⟩:=h.dom j b g
   exact⟨y,hl _ _ hy⟩
 ·by_cases hj:j=i
  ·rw [hj,h1] at g;cases g
  ·rw [h2 j hj] at g
   unfold upd
   rw [if_neg hj]
   exact h.fresh j g
 ·by_cases hj:j=i
  ·subst hj
   rw [h1] at g
   rw [aU] at g'
   cases g;cases g'
   exact hb
  ·rw [h2 j hj] at g
   unfold upd at g'
   rw [if_neg hj] at g'
   exact(ho j b y g g').mono hl
 ·unfold upd at g
  split at g
  ·cases g;exact hx
  ·have:=h.new j y g
   exact⟨this.1,by omega⟩
 ·have hu:∀j y,j≠i->upd ρ i x j=some y->ρ j=some y:=fun j y hj g=>by unfold upd at g;rwa [if_neg hj] at g
  by_cases hj:j=i
  ·by_cases hk:k=i
   ·rw [hj,hk]
   ·subst hj
    rw [aU] at g3
    cases g3
    rw [h2 k hk] at g2
    exact absurd e.symm (hd k c z g2 l2 (hu k z hk g4))
  ·by_cases hk:k=i
   ·subst hk
    rw [aU] at g4
    cases g4
    rw [h2 j hj] at g1
    exact absurd e (hd j b y g1 l1 (hu j y hj g3))
   ·rw [h2 j hj] at g1
    rw [h2 k hk] at g2
    exact h.inj j k b c y z g1 g2 l1 l2 (hu j y hj g3) (hu k z hk g4) e
theorem Rel.alloc {o:Obj} (h:Rel w0 ρ s w) (h0:s.h.get i=none) (h1:s'.h.get i=some a) (h2:∀j,j≠i->s'.h.get j=s.h.get j) (hb:x.b=w.heap.size) (hB:∀ρ',Le ρ ρ'->ρ' i=some x->BR ρ' (w.alloc o) x a):
  Rel w0 (upd ρ i x) s' (w.alloc o)/\Le ρ (upd ρ i x)/\Lp ρ s w s' (w.alloc o):=by
 have hf:Ext w (w.alloc o):=fun S=>eP.alloc w o S
 have hz:(w.alloc o).heap.size=w.heap.size+1:=by simp
 have hs:∀b,b<w.heap.size->(w.alloc o).heap[b]? =w.heap[b]? :=fun b hb'=>(hf fun _=>False).same b hb' (by simp)
 have he:=h.ext.size
 have hl:=xB (h.fresh i h0) x
 obtain⟨r1,r2⟩:=h.add (w':=w.alloc o) h0 h1 h2 ⟨by omega,by omega⟩ (hB _ hl (aU ρ i x)) (fun j b y g g'=>(h.br j b y g g').same (hs _ (h.new j y g').2)) (fun j b y g _ g'=>by have:=(h.new j y g').2;omega) (by omega) (h.ext.trans hf)
 refine⟨r1,r2,fun j y st p g g'=>⟨?_,hs _ (h.new j y g').2⟩⟩
 rw [h2 j fun e=>by rw [e,h0] at g;cases g]
 exact g
theorem Rel.IB {b:AB} (h:Rel w0 ρ s w) (hx:ρ i=some x) (h0:s.h.get i=some b) (hlb:live b) (h1:s'.h.get i=some a) (h2:∀j,j≠i->s'.h.get j=s.h.get j) (hf:eP w w' (·=x.b)) (hB:BR ρ w' x a):Rel w0 ρ s' w':=by
 have hn:=h.new i x hx
 refine⟨fun j c g=> ?_,fun j g=> ?_,fun j c y g g'=> ?_,fun j y g=> ?_,fun j k c d y z g1 g2 l1 l2 g3 g4 e=> ?_,h.ext.new hf fun c hc e=>by omega⟩
 ·by_cases hj:j=i
  ·exact⟨x,by rw [hj];exact hx⟩
  ·rw [h2 j hj] at g;exact h.dom j c g
 ·by_cases hj:j=i
  ·rw [hj,h1] at g;cases g
  ·rw [h2 j hj] at g;exact h.fresh j g
 ·by_cases hj:j=i
  ·subst hj
   rw [h1] at g
   rw [hx] at g'
   cases g;cases g'
   exact hB
  ·rw [h2 j hj] at g
   cases c with
   |dead=>trivial
   |_=>
    refine(h.br j _ y g g').same (hf.same _ (h.new j y g').2 fun e=>hj ?_)
    exact h.inj j i _ b y x g h0 trivial hlb g' hx e
 ·have:=h.new j y g
  have:=hf.size
  omega
 ·by_cases hj:j=i
  ·by_cases hk:k=i
   ·rw [hj,hk]
   ·subst hj
    rw [h2 k hk] at g2
    exact h.inj j k b d y z h0 g2 hlb l2 g3 g4 e
  ·by_cases hk:k=i
   ·subst hk
    rw [h2 j hj] at g1
    exact h.inj j k c b y z g1 h0 l1 hlb g3 g4 e
   ·rw [h2 j hj] at g1
    rw [h2 k hk] at g2
    exact h.inj j k c d y z g1 g2 l1 l2 g3 g4 e
def EJ:AB->Prop
 | .loop _ _=>False
 |_=>True
theorem Rel.EY {b:AB} (h:Rel w0 ρ s w) (hx:ρ i=some x) (h0:s.h.get i=some b) (hlb:live b) (hnl:EJ b) (h2:∀j,j≠i->s'.h.get j=s.h.get j) (hf:eP w w' (·=x.b)):Lp ρ s w s' w':=fun j y st p g g'=>by
 have hj:j≠i:=fun e=>by rw [e,h0] at g;cases g;exact hnl
 refine⟨by rw [h2 j hj];exact g,hf.same _ (h.new j y g').2 fun e=>hj ?_⟩
 exact h.inj j i _ b y x g h0 trivial hlb g' hx e
theorem Rel.kill {b:AB} (h:Rel w0 ρ s w) (h0:s.h.get i=some b) (h1:s'.h.get i=some .dead) (h2:∀j,j≠i->s'.h.get j=s.h.get j):Rel w0 ρ s' w:=by
 refine⟨fun j c g=> ?_,fun j g=> ?_,fun j c y g g'=> ?_,h.new,fun j k c d y z g1 g2 l1 l2 g3 g4 e=> ?_,h.ext⟩
 ·by_cases hj:j=i
  ·rw [hj];exact h.dom i b h0
  ·rw [h2 j hj] at g;exact h.dom j c g
 ·by_cases hj:j=i
  ·rw [hj,h1] at g;cases g
  ·rw [h2 j hj] at g;exact h.fresh j g
 ·by_cases hj:j=i
  ·subst hj
   rw [h1] at g
   cases g
   trivial
  ·rw [h2 j hj] at g;exact h.br j c y g g'
 ·have hj:j≠i:=fun e=>by rw [e,h1] at g1;cases g1;exact l1
  have hk:k≠i:=fun e=>by rw [e,h1] at g2;cases g2;exact l2
  rw [h2 j hj] at g1
  rw [h2 k hk] at g2
  exact h.inj j k c d y z g1 g2 l1 l2 g3 g4 e
end
theorem dn {s:St} {b:AB} {k:Nat->St->Bool} (h:jM s b k=true):∃i s',k i s'=true/\s.h.get i=none/\s'.h.get i=some b/\∀j,j≠i->s'.h.get j=s.h.get j:=by
 unfold jM at h
 split at h
 ·rename_i hn
  obtain⟨t,h1,h2,h3⟩:=BD _ _ _ _ _ h
  exact⟨s.n,_,dG h1,hn,h2,h3⟩
 ·cases h
theorem dI {s:St} {i:Nat} {b:AB} {k:St->Bool} (h:jE s i b k=true):∃s',k s'=true/\s'.h.get i=some b/\∀j,j≠i->s'.h.get j=s.h.get j:=by
 unfold jE at h
 obtain⟨t,h1,h2,h3⟩:=BD _ _ _ _ _ h
 exact⟨_,h1,h2,h3⟩
end
end Gp.Rn
end
section
namespace Gp.Rn
open Go Gp
def KK (lp:Bool) (w0:World) (ρ:Nm) (s:St) (w:World) (k:AV->St->Bool) (K:Value->World->Prop):Prop:=
 ∀v s',k v s'=true->∀ρ' w' v',Le ρ ρ'->Rel w0 ρ' s' w'->VR ρ' v v'->(lp=true->Lp ρ s w s' w')->K v' w'
section
variable {lp:Bool} {w0 w:World} {ρ:Nm} {s:St} {k:AV->St->Bool} {K:Value->World->Prop}
theorem KK.pure (hK:KK lp w0 ρ s w k K) (hr:Rel w0 ρ s w) {v:AV} {v':Value} (h:k v s=true) (hv:VR ρ v v'):K v' w:=hK v s h ρ w v' (Le.refl ρ) hr hv fun _=>Lp.refl ρ s w
theorem KK.of (hK:KK lp w0 ρ s w k K) {v:AV} {s':St} {w':World} {ρ':Nm} {v':Value} (h:k v s'=true) (hl:Le ρ ρ') (hr:Rel w0 ρ' s' w') (hv:VR ρ' v v') (hp:Lp ρ s w s' w'):K v' w':=hK v s' h ρ' w' v' hl hr hv fun _=>hp
theorem xY {α:Type}:∀{n:Nat} {l r:List α},BO n l=some r->r=l.take n/\n<=l.length
 |0,l,r,h=>by cases h;simp
 |n+1,[],r,h=>by cases h
 |n+1,x::l,r,h=>by
  unfold BO at h
  split at h
  ·rename_i q hq
   cases h
   obtain⟨rfl,h2⟩:=xY hq
   exact⟨rfl,by simp;omega⟩
  ·cases h
theorem Rel.row (hr:Rel w0 ρ s w) {i:Nat} {x:Loc} (hx:ρ i=some x) {cs:List AV} {z:Nat} {p:Bool} (hg:s.h.get i=some (.row cs z p)):∃vs pad,bT ρ cs vs/\jc w x.b (vs++pad)/\cond p (x.c * z=vs.length+pad.length) (pad=[]):=hr.br i _ x hg hx
theorem jT (hr:Rel w0 ρ s w) {i o n:Nat} {x:Loc} (hx:ρ i=some x) {vs:List AV} (h:Ee s i o n=some vs):∃us,bT ρ vs us/\us.length=n/\Cells w ⟨x.b,o,none⟩ us/\x.b<w.heap.size:=by
 unfold Ee at h
 split at h
 ·rename_i cs z p hg
  obtain⟨vs',pad,h1,h2,_⟩:=hr.row hx hg
  obtain⟨rfl,h3⟩:=xY h
  have hl:=h1.len
  rw [List.length_drop] at h3
  refine⟨(vs'.drop o).take n,(h1.drop o).take n,by rw [List.length_take,List.length_drop];omega,fun j hj=> ?_,h2.lt⟩
  rw [List.length_take,List.length_drop] at hj
  rw [aV,h2.cell,List.getElem?_append_left (by omega),List.getElem?_take_of_lt (by omega),List.getElem?_drop]
 ·cases h
theorem EC {φ:List Value->Prop} {a:Addr}:∀(ks:List Kind) (vs:List AV) (us:List Value) (i:Nat),bT ρ vs us->sV ks vs=true->(∀j,j<us.length->w.cell? (a.add (i+j))=us[j]?)->φ us->J4 ks w a i φ:=by
 intro ks
 induction ks generalizing φ with
 |nil=>
  intro vs us i h h1 _ hp
  cases vs with
  |nil=>cases h;exact hp
  |cons _ _=>cases h1
 |cons k ks ih=>
  intro vs us i h h1 hc hp
  cases h with
  |nil=>cases h1
  |cons g g'=>
   rename_i b v bs us
   unfold sV at h1
   rw [Bool.and_eq_true] at h1
   obtain⟨y,rfl⟩:=jr g h1.1
   refine⟨y,by have:=hc 0 (by simp);simpa using this,ih bs us (i+1) g' h1.2 (fun j hj=> ?_) hp⟩
   have:=hc (j+1) (by simpa using hj)
   rw [show i+1+j=i+(j+1) by omega]
   simpa using this
theorem Jp {P:Program} {t:TypeId} {x:AV} {x':Value} (h:LU P t x s k=true) (hr:Rel w0 ρ s w) (hx:VR ρ x x') (hK:KK lp w0 ρ s w k K):
  (match (generalizing:=false) x',shapeOf P t,aB P t with
  | .pointer (some a),some sh,some n=>cond (Nat.beq sh.cells n) (sh.ld w a fun v=>K v w) False
  |_,_,_=>False):=by
 unfold LU at h
 split at h
 ·rename_i i a kd n h1 h2
  cases hx with
  |ptr hx=>
  obtain⟨hb,h⟩:=au h
  rw [h1,h2]
  simp only [Shape.cells,hb,cond_true,Shape.ld]
  split at h
  ·rename_i v hv
   obtain⟨h3,h⟩:=au h
   obtain⟨us,g1,g2,g3,_⟩:=jT hr hx hv
   cases g1 with
   |cons g g'=>
    cases g'
    obtain⟨y,rfl⟩:=jr g h3
    refine⟨y,?_,hK.pure hr h g⟩
    have:=g3 0 (by simp)
    rwa [aV] at this
  ·cases h
 ·rename_i i a ks n h1 h2
  cases hx with
  |ptr hx=>
  obtain⟨hb,h⟩:=au h
  rw [h1,h2]
  simp only [Shape.cells,hb,cond_true,Shape.ld]
  split at h
  ·rename_i vs hv
   obtain⟨h3,h⟩:=au h
   obtain⟨us,g1,g2,g3,_⟩:=jT hr hx hv
   exact EC ks vs us 0 g1 h3 (fun j hj=>by rw [Nat.zero_add];exact g3 j hj) (hK.pure hr h (.agg g1))
  ·cases h
 ·cases h
theorem rG:∀{cs:List AV} {o:Nat} {vs:List AV} {k:List AV->Bool},xJ cs o vs k=true->∃cs',k cs'=true/\((vs=[]/\cs'=cs)\/(o+vs.length<=cs.length/\cs'=cs.take o++vs++cs.drop (o+vs.length)))
 |[],o,vs,k,h=>by
  unfold xJ at h
  cases vs with
  |nil=>exact⟨[],h,.inl ⟨rfl,rfl⟩⟩
  |cons _ _=>cases h
 |c::cs,o,vs,k,h=>by
  unfold xJ at h
  cases o with
  |succ m=>
   obtain⟨cs',h1,h2⟩:=rG (cs:=cs) (o:=m) h
   refine⟨c::cs',h1,?_⟩
   rcases h2 with ⟨rfl,rfl⟩|⟨h2,rfl⟩
   ·exact .inl ⟨rfl,rfl⟩
   ·refine .inr ⟨by simp;omega,?_⟩
    rw [show m+1+vs.length=(m+vs.length)+1 by omega]
    simp
  |zero=>
   cases vs with
   |nil=>exact⟨_,h,.inl ⟨rfl,rfl⟩⟩
   |cons v vs=>
    obtain⟨cs',h1,h2⟩:=rG (cs:=cs) (o:=0) h
    refine⟨v::cs',h1,?_⟩
    rcases h2 with ⟨rfl,rfl⟩|⟨h2,rfl⟩
    ·exact .inr ⟨by simp,by simp⟩
    ·refine .inr ⟨by simp at h2 ⊢;omega,?_⟩
     simp
theorem lC (hr:Rel w0 ρ s w) {i o:Nat} {x:Loc} (hx:ρ i=some x) {vs:List AV} {us:List Value} (hv:bT ρ vs us) {k:St->Bool} (h:D5 s i o vs k=true):
  ∃s',k s'=true/\Rel w0 ρ s' (setCells w ⟨x.b,o,none⟩ us 0)/\Lp ρ s w s' (setCells w ⟨x.b,o,none⟩ us 0)/\oO w ⟨x.b,o,none⟩ us.length/\(∀v∈us,dF v=true)/\∀K:World->Prop,K (setCells w ⟨x.b,o,none⟩ us 0)->zB us w ⟨x.b,o,none⟩ 0 K:=by
 unfold D5 at h
 obtain⟨h1,h⟩:=au h
 have hone:=qw hv h1
 split at h
 ·rename_i cs z p hg
  obtain⟨vs',pad,g1,g2,g3⟩:=hr.row hx hg
  obtain⟨cs',h,h2⟩:=rG h
  obtain⟨s',h,q1,q2⟩:=dI h
  have hl:=g1.len
  have hvl:=hv.len
  refine⟨s',h,?_⟩
  rcases h2 with ⟨rfl,rfl⟩|⟨h2,rfl⟩
  ·cases hv
   have e:setCells w ⟨x.b,o,none⟩ [] 0=w:=rfl
   rw [e]
   exact⟨hr.IB hx hg trivial q1 q2 (eP.refl _ _) ⟨vs',pad,g1,g2,g3⟩,hr.EY hx hg trivial trivial q2 (eP.refl _ _),fun j hj=>by simp at hj,hone,fun K hK=>hK⟩
  ·obtain⟨r1,f1,_⟩:=mY us w (vs'++pad) o 0 g2 (by simp;omega)
   rw [Nat.add_zero,List.take_append_of_le_length (by omega),List.drop_append_of_le_length (by omega),<- List.append_assoc] at r1
   refine⟨hr.IB hx hg trivial q1 q2 (f1 _ rfl) ⟨vs'.take o++us++vs'.drop (o+us.length),pad,?_,r1,?_⟩,hr.EY hx hg trivial trivial q2 (f1 _ rfl),fun j hj=> ?_,hone,fun K hK=>FY us w _ o 0 g2 hone (by simp;omega) hK⟩
   ·rw [hvl]
    exact((g1.take o).app hv).app (g1.drop _)
   ·have hlen:(vs'.take o++us++vs'.drop (o+us.length)).length=vs'.length:=by simp;omega
    rw [hlen];exact g3
   ·rw [aV,g2.cell,g2.frozen (by simp;omega)]
    simp
    omega
 ·cases h
theorem JV {P:Program} {t:TypeId} {x y:AV} {x' y':Value} (h:LW P t x y s k=true) (hr:Rel w0 ρ s w) (hx:VR ρ x x') (hy:VR ρ y y') (hK:KK lp w0 ρ s w k K):
  (match (generalizing:=false) x',shapeOf P t,aB P t with
  | .pointer (some a),some (.one _),some n=>cond (Nat.beq n 1) (Gp.St w a y' fun w'=>K undef w') False
  | .pointer (some a),some (.agg _),some n=>match (generalizing:=false) y' with
   | .agg cs=>cond (Nat.beq cs.toList.length n) (zB cs.toList w a 0 fun w'=>K undef w') False
   |_=>False
  |_,_,_=>False):=by
 unfold LW at h
 split at h
 ·rename_i i a kd n h1 h2
  cases hx with
  |ptr hx=>
  obtain⟨hb,h⟩:=au h
  rw [h1,h2]
  simp only [hb,cond_true]
  obtain⟨s',h,r1,l1,w1,o1,st⟩:=lC hr hx (.cons hy .nil) h
  have:=st (fun w'=>K undef w') (hK.of h (Le.refl ρ) r1 (.bJ .nil) l1)
  have e:∀b,zB [y'] w ⟨b,a,none⟩ 0 (fun w'=>K undef w')=Gp.St w ((⟨b,a,none⟩:Addr).add 0) y' fun w'=>K undef w':=fun _=>rfl
  rw [e,aV] at this
  exact this
 ·rename_i i a ks n h1 h2
  cases hx with
  |ptr hx=>
  rw [h1,h2]
  split at h
  ·cases hy with
   |agg hy=>
   obtain⟨hb,h⟩:=au h
   rw [hy.len] at hb
   simp only [hb,cond_true]
   obtain⟨s',h,r1,l1,w1,o1,st⟩:=lC hr hx hy h
   exact st _ (hK.of h (Le.refl ρ) r1 (.bJ .nil) l1)
  ·cases h
 ·cases h
theorem jR {v:AV} {v':Value} {m:Nat} (h:r_ v=some m) (hv:VR ρ v v'):∃a c,v'= .slice a m c:=by
 cases hv<;>first|(cases h;exact⟨_,_,rfl⟩)|cases h
theorem AU (hr:Rel w0 ρ s w) {size n:Nat} {v:AV} {vs:List AV} (h:Lj s size n v=some vs) {a:Option Addr} {l c:Nat} (hv:VR ρ v (.slice a l c)):∃us,bT ρ vs us/\fF w a (n * size) us/\us.length=n * size/\n<=l:=by
 unfold Lj at h
 cases hv with
 |sl0=>
  dsimp only at h
  cases hb:Nat.beq n 0 with
  |false=>rw [hb] at h;cases h
  |true=>
   rw [hb] at h
   have:=Nat.eq_of_beq_eq_true hb
   subst this
   cases h
   exact⟨[],.nil,rfl,by simp,Nat.le_refl _⟩
 |sl hx=>
  dsimp only at h
  cases hb:Nat.ble n l with
  |false=>rw [hb] at h;cases h
  |true=>
   rw [hb] at h
   obtain⟨us,g1,g2,g3,_⟩:=jT hr hx h
   exact⟨us,g1,⟨g2,g3⟩,g2,Nat.le_of_ble_eq_true hb⟩
 |slo hx=>
  dsimp only at h
  cases hb:Nat.ble n l with
  |false=>rw [hb] at h;cases h
  |true=>
   rw [hb] at h
   obtain⟨us,g1,g2,g3,_⟩:=jT hr hx h
   exact⟨us,g1,⟨g2,g3⟩,g2,Nat.le_of_ble_eq_true hb⟩
 |slE hx=>
  dsimp only at h
  cases hb:Nat.beq n 0 with
  |false=>rw [hb] at h;cases h
  |true=>
   rw [hb] at h
   have:=Nat.eq_of_beq_eq_true hb
   subst this
   cases h
   exact⟨[],.nil,⟨by simp,fun j hj=>by simp at hj⟩,by simp,Nat.le_refl _⟩
theorem Rel.newRow {cs:List AV} {us:List Value} {z:Nat} {p:Bool} {s':St} {i:Nat} (hr:Rel w0 ρ s w) (hc:bT ρ cs us) (h0:s.h.get i=none) (h1:s'.h.get i=some (.row cs z p)) (h2:∀j,j≠i->s'.h.get j=s.h.get j)
  (pad:List Value) (e:TypeId) (fr:Nat×Nat) (hf:(us++pad).length<=fr.1\/fr=(0,0)) (c:Nat) (hp:cond p (c * z=us.length+pad.length) (pad=[])):
  Rel w0 (upd ρ i ⟨w.heap.size,c,fun _ _ _=>False⟩) s' (w.alloc (.cells ⟨us++pad⟩ e fr))/\Le ρ (upd ρ i ⟨w.heap.size,c,fun _ _ _=>False⟩)/\Lp ρ s w s' (w.alloc (.cells ⟨us++pad⟩ e fr)):=
 hr.alloc (x:=⟨w.heap.size,c,fun _ _ _=>False⟩) h0 h1 h2 rfl fun ρ' hl _=>⟨us,pad,hc.mono hl,jc.new w _ e fr hf,hp⟩
theorem Rel.l9 {cs:List AV} {us:List Value} {z:Nat} {s':St} {i:Nat} (hr:Rel w0 ρ s w) (hc:bT ρ cs us) (h0:s.h.get i=none) (h1:s'.h.get i=some (.row cs z false)) (h2:∀j,j≠i->s'.h.get j=s.h.get j) (e:TypeId):
  Rel w0 (upd ρ i ⟨w.heap.size,0,fun _ _ _=>False⟩) s' (w.alloc (.cells ⟨us⟩ e))/\Le ρ (upd ρ i ⟨w.heap.size,0,fun _ _ _=>False⟩)/\Lp ρ s w s' (w.alloc (.cells ⟨us⟩ e)):=by
 have:=hr.newRow hc h0 h1 h2 [] e (0,0) (.inr rfl) 0 rfl
 rwa [List.append_nil] at this
theorem Lp.drew {s s':St} {w':World} (h:Lp ρ s w.drew s' w'):Lp ρ s w s' w':=h
theorem bK {z:List Value}:∀k,(aC z k).length=k * z.length
 |0=>by simp [aC]
 |k+1=>by simp [aC,bK k,Nat.add_mul];omega
theorem wO {size bytes:Nat} {z:List Value} {x:AV} {n:Nat} {vs:List AV} {us:List Value} {e:TypeId} {a:Option Addr} {l c:Nat} (h:wI size bytes z.length x n vs s k=true) (hr:Rel w0 ρ s w) (hx:VR ρ x (.slice a l c)) (hv:bT ρ vs us) (hK:KK lp w0 ρ s w k K):
  yT e size bytes z ⟨a,l,c⟩ n us w fun s' w'=>K s'.v w':=by
 unfold wI at h
 obtain⟨h1,h⟩:=au h
 rw [Bool.and_eq_true,Bool.and_eq_true,Bool.and_eq_true] at h1
 obtain⟨h1,h2,h3,h0⟩:=h1
 have h0:0<size:=by
  have:=Nat.le_of_ble_eq_true h0
  omega
 have h2:=Nat.eq_of_beq_eq_true h2
 have h3:=Nat.eq_of_beq_eq_true h3
 have hone:=qw hv h1
 have hvl:=hv.len
 cases hx with
 |sl0=>
  dsimp only at h
  cases n with
  |zero=>
   have:us=[]:=List.length_eq_zero_iff.1 (by omega)
   subst this
   exact .inl ⟨Nat.le_refl _,fun a ha=>(by cases ha),hone,hK.pure hr h .sl0⟩
  |succ n=>
   obtain⟨h4,h⟩:=au h
   rw [Bool.and_eq_true] at h4
   have h5:=Nat.le_of_ble_eq_true h4.1
   have h6:=Nat.le_of_ble_eq_true h4.2
   obtain⟨i,s',h,q0,q1,q2⟩:=dn h
   refine .inr ⟨by simp only;omega,by simpa using h5,by simpa using h6,[],rfl,fun c h7 h8=> ?_⟩
   obtain⟨r1,r2,r3⟩:=hr.drew.newRow hv q0 q1 q2 (aC z (c - (0+(n+1)))) e (0,0) (.inr rfl) c (by
    show c * size=_
    rw [bK,h2,<- hvl,h3,<- Nat.add_mul]
    congr 1;simp only at h7;omega)
   rw [List.nil_append]
   refine hK.of h r2 r1 ?_ (Lp.drew r3)
   have:=VR.slo (ρ:=upd ρ i ⟨w.drew.heap.size,c,fun _ _ _=>False⟩) (o:=0) (n:=n+1) (d:=0) (aU ρ i ⟨w.drew.heap.size,c,fun _ _ _=>False⟩)
   simpa [ah.v] using this
 | @sl i o _ _ y hy=>
  dsimp only at h
  have h:=dG h
  cases hb:Nat.ble (l+n) c with
  |true=>
   rw [hb,cond_true] at h
   obtain⟨s',h,r1,l1,w1,o1,st⟩:=lC hr hy hv h
   refine .inl ⟨Nat.le_of_ble_eq_true hb,fun a ha=> ?_,hone,?_⟩
   ·cases ha
    rw [aV];exact w1
   ·simp only [aV]
    exact hK.of h (Le.refl ρ) r1 (.sl hy) l1
  |false=>
   rw [hb,cond_false] at h
   obtain⟨h4,h⟩:=au h
   rw [Bool.and_eq_true] at h4
   have h5:=Nat.le_of_ble_eq_true h4.1
   have h6:=Nat.le_of_ble_eq_true h4.2
   have hc:c<l+n:=by
    rcases Nat.lt_or_ge c (l+n) with g|g
    ·exact g
    ·rw [Nat.ble_eq_true_of_le g] at hb;cases hb
   split at h
   ·rename_i old ho
    obtain⟨os,g1,g2,g3,_⟩:=jT hr hy ho
    obtain⟨j,s',h,q0,q1,q2⟩:=dn h
    refine .inr ⟨hc,h5,h6,os,⟨g2,g3⟩,fun c' h7 h8=> ?_⟩
    obtain⟨r1,r2,r3⟩:=hr.drew.newRow (g1.app hv) q0 q1 q2 (aC z (c' - (l+n))) e (0,0) (.inr rfl) c' (by
     show c' * size=_
     rw [bK,h2,List.length_append,g2,<- hvl,h3,<- Nat.add_mul,<- Nat.add_mul]
     congr 1;simp only at h7;omega)
    refine hK.of h r2 r1 ?_ (Lp.drew r3)
    have:=VR.slo (ρ:=upd ρ j ⟨w.drew.heap.size,c',fun _ _ _=>False⟩) (o:=0) (n:=l+n) (d:=0) (aU ρ j ⟨w.drew.heap.size,c',fun _ _ _=>False⟩)
    simpa [ah.v] using this
   ·cases h
 | @slo i o _ d y hy=>
  dsimp only at h
  have h:=dG h
  split at h
  ·rename_i cs z' hg
   obtain⟨h4,h⟩:=au h
   rw [Bool.and_eq_true] at h4
   have h5:=Nat.eq_of_beq_eq_true h4.1
   have h6:=Nat.eq_of_beq_eq_true h4.2
   subst h5
   obtain⟨vs',pad,g1,g2,g3⟩:=hr.row hy hg
   have g3:y.c * z'=vs'.length+pad.length:=g3
   have gl:=g1.len
   have hz:0<z':=h0
   cases hb:Nat.ble (o+(l+n) * z') cs.length with
   |true=>
    rw [hb,cond_true] at h
    have hb:=Nat.le_of_ble_eq_true hb
    obtain⟨s',h,r1,l1,w1,o1,st⟩:=lC hr hy hv h
    have hfit:l+n<=y.c - d:=by
     have h7:(d+(l+n)) * z'<=y.c * z':=by rw [Nat.add_mul];omega
     have:=Nat.le_of_mul_le_mul_right h7 hz
     omega
    refine .inl ⟨hfit,fun a ha=> ?_,hone,?_⟩
    ·cases ha
     rw [aV];exact w1
    ·simp only [aV]
     exact hK.of h (Le.refl ρ) r1 (.slo hy) l1
   |false=>
    rw [hb,cond_false] at h
    obtain⟨h7,hq⟩:=au h
    clear h
    rw [Bool.and_eq_true,Bool.and_eq_true,Bool.and_eq_true,Bool.and_eq_true] at h7
    obtain⟨h7,h8,h9,h10,h11⟩:=h7
    have h7:=Nat.eq_of_beq_eq_true h7
    have h8:=Nat.eq_of_beq_eq_true h8
    have h9:=Nat.eq_of_beq_eq_true h9
    have h10:=Nat.le_of_ble_eq_true h10
    have h11:=Nat.le_of_ble_eq_true h11
    subst h7 h8
    obtain⟨s1,hq,p1,p2⟩:=dI hq
    obtain⟨j,s',h,q0,q1,q2⟩:=dn hq
    have hk:=hr.kill hg p1 p2
    have hlp1:Lp ρ s w s1 w:=hr.EY hy hg trivial trivial p2 (eP.refl _ _)
    by_cases hfit:l+n<=y.c - 0
    ·
     refine .inl ⟨hfit,fun a ha=> ?_,hone,?_⟩
     ·cases ha
      rw [aV]
      intro j hj
      have hfit':(l+n) * z'<=y.c * z':=Nat.mul_le_mul_right _ (by omega)
      rw [Nat.add_mul] at hfit'
      rw [aV,g2.cell,g2.frozen (by simp;omega)]
      simp
      omega
     ·simp only [aV,Nat.zero_add]
      have hfit':(l+n) * z'<=y.c * z':=Nat.mul_le_mul_right _ (by omega)
      rw [Nat.add_mul] at hfit'
      obtain⟨rr,f1,z1⟩:=mY us w (vs'++pad) (l * z') 0 g2 (by simp;omega)
      rw [Nat.add_zero,h9,gl,List.take_left',List.drop_append,Nat.add_sub_cancel_left] at rr
      ·have e1:vs'.drop (vs'.length+us.length)=[]:=List.drop_eq_nil_iff.2 (by omega)
       rw [e1,List.nil_append] at rr
       rw [h9,gl] at f1 z1
       have f1:=f1 (·=y.b) rfl
       have hn:=hr.new i y hy
       have hnl:∀m b y',s1.h.get m=some b->live b->ρ m=some y'->y'.b≠y.b:=fun m b y' m1 m2 m3 m4=>by
        have hm:m≠i:=fun e=>by rw [e,p1] at m1;cases m1;exact m2
        rw [p2 m hm] at m1
        exact hm (hr.inj m i b _ y' y m1 hg m2 trivial m3 hy m4)
       obtain⟨r1,r2⟩:=hk.add (w':=setCells w ⟨y.b,vs'.length,none⟩ us 0) (x:=⟨y.b,y.c,fun _ _ _=>False⟩) q0 q1 q2 ⟨hn.1,by rw [z1];exact hn.2⟩ (show BR _ _ _ (.row (cs++vs) z' true) from⟨vs'++us,pad.drop us.length,(g1.mono (xB (hk.fresh j q0) _)).app (hv.mono (xB (hk.fresh j q0) _)),rr,by
        show y.c * z'=_
        rw [List.length_append,List.length_drop];omega⟩) (fun m b y' m1 m2=>by
         cases b with
         |dead=>trivial
         |_=>exact(hk.br m _ y' m1 m2).same (f1.same _ (hr.new m y' m2).2 (hnl m _ y' m1 trivial m2))) hnl (by rw [z1];exact Nat.le_refl _) (hr.ext.new f1 fun b hb e=>by omega)
       rw [h9,gl]
       refine hK.of h r2 r1 ?_ (Lp.trans (ρ':=ρ) hlp1 (fun m y' st p m1 m2=>⟨by rw [q2 m fun e=>by rw [e,q0] at m1;cases m1];exact m1,f1.same _ (hr.new m y' m2).2 (hnl m _ y' m1 trivial m2)⟩) (Le.refl ρ))
       have:=VR.slo (ρ:=upd ρ j ⟨y.b,y.c,fun _ _ _=>False⟩) (o:=0) (n:=l+n) (d:=0) (aU ρ j ⟨y.b,y.c,fun _ _ _=>False⟩)
       simpa [ah.v] using this
      ·rfl
    ·refine .inr ⟨by simp only;omega,h10,h11,vs',⟨by simp only;omega,fun m hm=> ?_⟩,fun c' h12 h13=> ?_⟩
     ·rw [aV,Nat.zero_add,g2.cell,List.getElem?_append_left hm]
     ·obtain⟨r1,r2,r3⟩:=hk.drew.newRow (g1.app hv) q0 q1 q2 (aC z (c' - (l+n))) e (0,0) (.inr rfl) c' (by
       show c' * z'=_
       rw [bK,h2,List.length_append,<- gl,<- h9,<- hvl,h3,<- Nat.add_mul,<- Nat.add_mul]
       congr 1;simp only at h12;omega)
      refine hK.of h r2 r1 ?_ (Lp.trans (ρ':=ρ) hlp1 (Lp.drew r3) (Le.refl ρ))
      have:=VR.slo (ρ:=upd ρ j ⟨w.drew.heap.size,c',fun _ _ _=>False⟩) (o:=0) (n:=l+n) (d:=0) (aU ρ j ⟨w.drew.heap.size,c',fun _ _ _=>False⟩)
      simpa [ah.v] using this
  ·cases h
 |slE hy=>cases h
end
end Gp.Rn
end
section
namespace Gp.Rn
open Go Gp
theorem Ai:∀{a b:List UInt8},LV a b=decide (a=b)
 |[],[]=>rfl
 |[],_::_=>rfl
 |_::_,[]=>rfl
 |a::l,b::m=>by
  unfold LV
  by_cases h:a=b
  ·subst h
   rw [show Nat.beq a.toNat a.toNat=true from Nat.beq_refl _,cond_true,Ai]
   by_cases g:l=m
   ·subst g;simp
   ·rw [decide_eq_false g,decide_eq_false fun e=>g (by cases e;rfl)]
  ·have:Nat.beq a.toNat b.toNat=false:=by
    cases hb:Nat.beq a.toNat b.toNat with
    |false=>rfl
    |true=>exact absurd (UInt8.toNat_inj.1 (Nat.eq_of_beq_eq_true hb)) h
   rw [this,cond_false,decide_eq_false fun e=>h (by cases e;rfl)]
theorem Gf (a b:ByteArray):GK a b=strEq a b:=by
 unfold GK strEq
 rw [Ai,ByteArray.toList_eq,ByteArray.toList_eq]
 by_cases h:a.data.toList=b.data.toList
 ·rw [decide_eq_true h,h];simp
 ·rw [decide_eq_false h];symm;simpa using h
theorem FM:∀{a b:List UInt8},Me a b=Op.bytesLess a b
 |[],[]=>rfl
 |[],_::_=>rfl
 |_::_,[]=>rfl
 |a::l,b::m=>by
  unfold Me Op.bytesLess
  rw [FM]
  have h1:Nat.blt a.toNat b.toNat=decide (a<b):=by
   unfold Nat.blt
   by_cases h:a<b
   ·rw [decide_eq_true h];exact Nat.ble_eq_true_of_le (UInt8.lt_iff_toNat_lt.1 h)
   ·rw [decide_eq_false h]
    cases hb:Nat.ble (a.toNat+1) b.toNat with
    |false=>rfl
    |true=>exact absurd (UInt8.lt_iff_toNat_lt.2 (Nat.le_of_ble_eq_true hb)) h
  have h2:Nat.beq a.toNat b.toNat=(a==b):=by
   by_cases h:a=b
   ·subst h;simp
   ·rw [show (a==b)=false by simpa using h]
    cases hb:Nat.beq a.toNat b.toNat with
    |false=>rfl
    |true=>exact absurd (UInt8.toNat_inj.1 (Nat.eq_of_beq_eq_true hb)) h
  rw [h1,h2]
  cases decide (a<b)<;>cases (a==b)<;>rfl
theorem Jy (a b:ByteArray):JY a b=strLt a b:=by
 unfold JY strLt
 rw [FM,ByteArray.toList_eq,ByteArray.toList_eq]
theorem rF (P:Program):∀(d:Nat) (t:TypeId) (x y:Value),wF P d t x y=xW P d t x y
 |0,_,_,_=>rfl
 |d+1,t,x,y=>by
  have ih:wF P d=xW P d:=funext fun t=>funext fun x=>funext fun y=>rF P d t x y
  unfold wF xW
  rw [ih]
  simp only [Gf]
  rfl
section
variable {lp:Bool} {w0 w:World} {ρ:Nm} {s:St} {P:Program}
def KP (ρ:Nm) (k:AV->Bool) (φ:Value->Prop):Prop:=∀v v',k v=true->VR ρ v v'->φ v'
theorem KK.kp {k:AV->St->Bool} {K:Value->World->Prop} (hK:KK lp w0 ρ s w k K) (hr:Rel w0 ρ s w):KP ρ (fun v=>k v s) fun v=>K v w:=fun _ _ h hv=>hK.pure hr h hv
theorem HY {op:BinOp} {kd:IntKind} {a b:Int} {k:AV->Bool} {φ:Value->Prop} (h:EU op kd a b k=true) (hK:KP ρ k φ):jU op kd a b φ:=by
 cases op<;>unfold EU at h<;>unfold jU<;>dsimp only at h ⊢<;>
  first
  |(exact hK _ _ (qV (k:=fun n=>k (.int kd n)) h) (.int _ _))
  |(exact hK _ _ (vC (k:=fun n=>k (.bool n)) h) (.bool _))
  |(cases hb:(b==0) with
    |true=>rw [hb] at h;cases h
    |false=>
     rw [hb,cond_false] at h
     exact⟨by simpa using hb,hK _ _ (qV (k:=fun n=>k (.int kd n)) h) (.int _ _)⟩)
  |cases h
theorem Hy {op:BinOp} {a b:ByteArray} {k:AV->Bool} {φ:Value->Prop} (h:Fj op a b k=true) (hK:KP ρ k φ):jW op a b φ:=by
 have hap:(⟨⟨a.data.toList++b.data.toList⟩⟩:ByteArray)=a++b:=by
  apply ByteArray.ext
  simp [ByteArray.data_append]
 cases op<;>unfold Fj at h<;>unfold jW<;>dsimp only at h ⊢<;>(try rw [Jy] at h)<;>(try rw [Gf] at h)<;>
  first
  |(exact hK _ _ (vC (k:=fun n=>k (.bool n)) h) (.bool _))
  |(obtain⟨h1,h2⟩:=au h
    rw [hap] at h2
    refine⟨?_,hK _ _ h2 (.str _)⟩
    have:=Nat.le_of_ble_eq_true h1
    show ((a.size+b.size:Nat):Int)<=9223372036854775807
    omega)
  |cases h
theorem Eo {d:TypeDesc} {x y:AV} {x' y':Value} {b:Bool} {φ:Bool->Prop} (h:MO d x y=some b) (hx:VR ρ x x') (hy:VR ρ y y') (hp:φ b):jP d x' y' φ:=by
 unfold MO at h
 split at h<;>first|(cases h;cases hx;cases hy;exact hp)|cases h
theorem lW:∀{a:List AV} {v v':List Value},pY a=some v->bT ρ a v'->v'=v
 |[],_,_,h,g=>by cases h;cases g;rfl
 |x::a,v,v',h,g=>by
  unfold pY at h
  cases g with
  |cons g g'=>
  split at h
  ·rename_i y l hy hl
   cases h
   rw [lW hl g']
   split at hy<;>first|(cases hy;cases g;rfl)|cases hy
  ·cases h
theorem vH {a:AV} {v v':Value} (h:xE a=some v) (g:VR ρ a v'):v'=v:=by
 unfold xE at h
 split at h
 ·cases h;cases g;rfl
 ·cases h;cases g;rfl
 ·cases h;cases g;rfl
 ·split at h
  ·rename_i l hl
   cases h
   cases g with
   |agg g=>rw [lW hl g]
  ·cases h
 ·cases h
theorem En {op:BinOp} {t:TypeId} {x y:AV} {x' y':Value} {k:AV->Bool} {φ:Value->Prop} (h:BH P op t x y k=true) (hx:VR ρ x x') (hy:VR ρ y y') (hK:KP ρ k φ):qE P op t x' y' φ:=by
 unfold BH at h
 split at h
 ·rename_i s ms ho ht
  cases hx;cases hy
  unfold qE
  rw [ho,ht]
  exact hK _ _ h (.bool _)
 ·rename_i s ms t' v ho ht
  cases hx;cases hy
  unfold qE
  rw [ho,ht]
  exact hK _ _ (vC (k:=fun s=>k (.bool s)) h) (.bool _)
 ·cases h
theorem JM {t:TypeId} {x:AV} {x':Value} {ok:Bool} {k:AV->Bool} {φ:Value->Prop} (h:MH P t x ok k=true) (hx:VR ρ x x') (hK:KP ρ k φ):
  (match (generalizing:=false) P.underlying t,eH P t with
  |some (.interface _),_=>False
  |some _,some z=>J5 z t x' ok φ
  |_,_=>False):=by
 unfold MH at h
 split at h
 ·cases h
 ·rename_i d z hd ht hz
  rw [ht,hz]
  have no:∀{q:Bool},(cond q (match lQ z with
   |some a=>k (.bJ [a,.bool false])
   |none=>false) false)=true->cond q (φ (.tuple ⟨[z,.bool false]⟩)) False:=fun {q} h=>by
   obtain⟨h1,h2⟩:=au h
   rw [h1,cond_true]
   split at h2
   ·rename_i a ha
    exact hK _ _ h2 (.bJ (.cons (h_ ha) (.cons (.bool _) .nil)))
   ·cases h2
  have key:J5 z t x' ok φ:=by
   split at h
   ·rename_i t' v
    cases hx with
    |ifc _ hv=>
    unfold J5
    dsimp only
    cases hb:Nat.beq t' t with
    |true=>
     rw [hb,cond_true] at h
     rw [cond_true]
     cases ok with
     |true=>exact hK _ _ h (.bJ (.cons hv (.cons (.bool _) .nil)))
     |false=>exact hK _ _ h hv
    |false=>
     rw [hb,cond_false] at h
     rw [cond_false]
     exact no h
   ·cases hx
    exact no h
   ·cases h
  cases d<;>first|exact(hd _ rfl).elim|exact key
 ·cases h
theorem GV {op:BinOp} {t:TypeId} {x y:AV} {x' y':Value} {k:AV->Bool} {φ:Value->Prop} (h:D8 P op t x y k=true) (hx:VR ρ x x') (hy:VR ρ y y') (hK:KP ρ k φ):fD P op t x' y' φ:=by
 unfold D8 at h
 split at h
 ·rename_i kd a
  cases hx
  split at h
  ·rename_i kd' b
   cases hy
   unfold fD jS
   split at h
   ·obtain⟨h1,h2⟩:=au h
    exact⟨of_decide_eq_true h1,hK _ _ (qV (k:=fun n=>k (.int kd n)) h2) (.int _ _)⟩
   ·obtain⟨h1,h2⟩:=au h
    exact⟨of_decide_eq_true h1,hK _ _ (qV (k:=fun n=>k (.int kd n)) h2) (.int _ _)⟩
   ·rename_i n1 n2
    obtain⟨h1,h2⟩:=au h
    have:=HY h2 hK
    cases op<;>first|exact absurd rfl n1|exact absurd rfl n2|(simp only [h1,cond_true];exact this)
  ·cases h
 ·cases hx
  split at h
  ·cases hy
   have:=Hy h hK
   unfold fD jS
   cases op<;>first|exact this|exact this.elim
  ·cases h
 ·rename_i xs
  cases hx with
  |agg hx=>
  split at h
  ·rename_i sg xs' ys h1 h2
   cases hy with
   |agg hy=>
   split at h
   ·rename_i ys' h3
    rw [lW h2 hx,lW h3 hy]
    unfold fD
    rw [h1]
    dsimp only
    cases hg:P.eqGuardType P.depth t with
    |true=>rw [hg] at h;cases h
    |false=>
     rw [hg,cond_false] at h
     rw [cond_false]
     rw [rF] at h
     split at h
     ·rename_i b hb
      rw [hb]
      exact hK _ _ (vC (k:=fun n=>k (.bool n)) h) (.bool _)
     ·cases h
   ·cases h
  ·cases h
 ·rename_i n1 n2 n3
  split at h
  ·rename_i sg d h1 h2
   split at h
   ·rename_i b hb
    have hp:=hK _ _ (vC (k:=fun n=>k (.bool n)) h) (.bool _)
    unfold fD
    have key:(match iD op,P.underlying t with
      |some true,some d=>jP d x' y' fun b=>φ (.bool b)
      |some false,some d=>jP d x' y' fun b=>φ (.bool !b)
      |_,_=>False):=by
     rw [h1,h2]
     cases sg with
     |true=>exact Eo hb hx hy hp
     |false=>exact Eo hb hx hy hp
    cases hx<;>first|exact key|exact absurd rfl (n1 _ _)|exact absurd rfl (n2 _)|exact absurd rfl (n3 _)
   ·cases h
  ·cases h
theorem I9 {op:UnOp} {x:AV} {x':Value} {k:AV->Bool} {φ:Value->Prop} (h:KH op x k=true) (hx:VR ρ x x') (hK:KP ρ k φ):lV op x' φ:=by
 unfold KH at h
 split at h
 ·cases hx;exact hK _ _ (qV (k:=fun n=>k (.int _ n)) h) (.int _ _)
 ·cases hx;exact hK _ _ (vC (k:=fun n=>k (.bool n)) h) (.bool _)
 ·cases hx;exact hK _ _ (qV (k:=fun n=>k (.int _ n)) h) (.int _ _)
 ·cases h
theorem iI {α:Operand->AV} {β:Operand->Value} {x:Option Operand} {d:Int} {k:Int->Bool} {φ:Int->Prop} (h:qx α x d k=true) (hx:∀o,x=some o->VR ρ (α o) (β o)) (hK:∀n,k n=true->φ n):gI β x d φ:=by
 unfold qx at h
 unfold gI
 cases x with
 |none=>exact hK d h
 |some o=>
  have:=hx o rfl
  dsimp only at h ⊢
  split at h
  ·rename_i kd n hn
   rw [hn] at this
   generalize hb:β o=v at this
   cases this
   exact hK n h
  ·cases h
theorem He {x:AV} {size:Nat} {l h:Int} {a:Option Addr} {n c:Nat} {k:AV->Bool} {φ:Value->Prop} (g:FB x size l h s k=true) (hr:Rel w0 ρ s w) (hx:VR ρ x (.slice a n c)) (hs:0<size) (hK:KP ρ k φ):AX ⟨a,n,c⟩ size l h fun s'=>φ s'.v:=by
 unfold FB at g
 obtain⟨g1,g⟩:=au g
 rw [Bool.and_eq_true] at g1
 have h0:=of_decide_eq_true g1.1
 have h1:=of_decide_eq_true g1.2
 cases hx with
 |sl0=>
  dsimp only at g
  obtain⟨g2,g⟩:=au g
  have h2:=of_decide_eq_true g2
  have e1:l=0:=by omega
  have e2:h=0:=by omega
  subst e1 e2
  exact⟨h0,h1,by simp,hK _ _ g .sl0⟩
 | @sl i o _ _ y hy=>
  dsimp only at g
  obtain⟨g2,g⟩:=au g
  have h2:=of_decide_eq_true g2
  have g:=dG g
  have g:=dG (k:=fun n'=>fN (c - l.toNat) fun c'=>k (.sl i _ n' c')) g
  have g:=dG (k:=fun c'=>k (.sl i _ _ c')) g
  refine⟨h0,h1,h2,?_⟩
  have:=hK _ _ g (.sl hy)
  unfold lH
  by_cases hc:c=l.toNat
  ·rw [if_pos hc]
   rw [show Nat.beq c l.toNat=true by rw [hc];exact Nat.beq_refl _,cond_true] at this
   exact this
  ·rw [if_neg hc]
   have hb:Nat.beq c l.toNat=false:=by
    cases hb:Nat.beq c l.toNat with
    |false=>rfl
    |true=>exact absurd (Nat.eq_of_beq_eq_true hb) hc
   rw [hb,cond_false] at this
   simp only [Option.map_some,aV]
   exact this
 | @slE i y hy o=>
  dsimp only at g
  obtain⟨g2,g⟩:=au g
  have h2:=of_decide_eq_true g2
  have e1:l=0:=by omega
  have e2:h=0:=by omega
  subst e1 e2
  refine⟨h0,h1,by simp,?_⟩
  have:=hK _ _ g (.slE hy o c)
  unfold lH
  split
  ·exact this
  ·simpa [Addr.add,ah.v] using this
 | @slo i o _ d y hy=>
  dsimp only at g
  split at g
  ·rename_i cs z hg
   obtain⟨g2,g⟩:=au g
   rw [Bool.and_eq_true,Bool.and_eq_true] at g2
   obtain⟨g2,g3,g4⟩:=g2
   have g2:=Nat.eq_of_beq_eq_true g2
   have g3:=Nat.eq_of_beq_eq_true g3
   have g4:=Nat.le_of_ble_eq_true g4
   subst g2
   obtain⟨vs',pad,q1,q2,q3⟩:=hr.row hy hg
   have q3:y.c * z=vs'.length+pad.length:=q3
   have ql:=q1.len
   have hfit:∀m,o+m * z<=cs.length->m<=y.c - d:=fun m hm=>by
    have h7:(d+m) * z<=y.c * z:=by rw [Nat.add_mul];omega
    have:=Nat.le_of_mul_le_mul_right h7 hs
    omega
   have hf:=hfit _ g4
   refine⟨h0,h1,(by show h<=((y.c - d:Nat):Int);omega),?_⟩
   unfold lH
   cases hl:l.toNat with
   |zero=>
    rw [hl] at g
    have g:=dG (k:=fun n'=>k (.slo i o n' d)) g
    have:=hK _ _ g (.slo hy)
    split
    ·simpa [ah.v] using this
    ·simpa [ah.v,Addr.add] using this
   |succ m=>
    rw [hl] at g
    dsimp only at g
    cases hb:Nat.blt (o+(m+1) * z) cs.length with
    |true=>
     rw [hb,cond_true] at g
     have g:=dG g
     have g:=dG (k:=fun n'=>fN (d+(m+1)) fun d'=>k (.slo i _ n' d')) g
     have g:=dG (k:=fun d'=>k (.slo i _ _ d')) g
     have:=hK _ _ g (.slo hy)
     have hlt:o+(m+1) * z<cs.length:=Nat.le_of_ble_eq_true hb
     have hne:m+1<y.c - d:=by
      have h7:(d+(m+1)) * z<y.c * z:=by rw [Nat.add_mul];omega
      have:=Nat.lt_of_mul_lt_mul_right h7
      omega
     rw [if_neg (by simp only;omega)]
     simp only [Option.map_some,aV,ah.v]
     rw [show y.c - d - (m+1)=y.c - (d+(m+1)) by omega]
     exact this
    |false=>
     rw [hb,cond_false] at g
     obtain⟨g5,g⟩:=au g
     have g5:=Nat.eq_of_beq_eq_true g5
     rw [g5]
     split
     ·exact hK _ _ g (.slE hy _ _)
     ·simp only [Option.map_some,aV,ah.v]
      exact hK _ _ g (.slE hy _ _)
  ·cases g
theorem ED {x:AV} {size:Nat} {l h m:Int} {a:Option Addr} {n c:Nat} {k:AV->Bool} {φ:Value->Prop} (g:yH x size l h m s k=true) (hr:Rel w0 ρ s w) (hx:VR ρ x (.slice a n c)) (hs:0<size) (hK:KP ρ k φ):qy ⟨a,n,c⟩ size l h m fun s'=>φ s'.v:=by
 unfold yH at g
 obtain⟨g1,g⟩:=au g
 rw [Bool.and_eq_true,Bool.and_eq_true] at g1
 have h0:=of_decide_eq_true g1.1
 have h1:=of_decide_eq_true g1.2.1
 have h2:=of_decide_eq_true g1.2.2
 have fin:∀(i o:Nat) (y:Loc),ρ i=some y->m<=(c:Int)->(fN (cond (Nat.beq m.toNat l.toNat) o (o+l.toNat * size)) fun o'=>fN (h.toNat - l.toNat) fun n'=>fN (m.toNat - l.toNat) fun c'=>k (.sl i o' n' c'))=true->
   qy ⟨some ⟨y.b,o,none⟩,n,c⟩ size l h m fun s'=>φ s'.v:=by
  intro i o y hy h3 g
  have g:=dG g
  have g:=dG (k:=fun n'=>fN (m.toNat - l.toNat) fun c'=>k (.sl i _ n' c')) g
  have g:=dG (k:=fun c'=>k (.sl i _ _ c')) g
  refine⟨h0,h1,h2,h3,?_⟩
  have:=hK _ _ g (.sl hy)
  unfold lH
  by_cases hc:m.toNat=l.toNat
  ·rw [if_pos hc]
   rw [show Nat.beq m.toNat l.toNat=true by rw [hc];exact Nat.beq_refl _,cond_true] at this
   exact this
  ·rw [if_neg hc]
   have hb:Nat.beq m.toNat l.toNat=false:=by
    cases hb:Nat.beq m.toNat l.toNat with
    |false=>rfl
    |true=>exact absurd (Nat.eq_of_beq_eq_true hb) hc
   rw [hb,cond_false] at this
   simp only [Option.map_some,aV]
   exact this
 cases hx with
 |sl0=>
  dsimp only at g
  obtain⟨g2,g⟩:=au g
  have h3:=of_decide_eq_true g2
  have e1:l=0:=by omega
  have e2:h=0:=by omega
  have e3:m=0:=by omega
  subst e1 e2 e3
  exact⟨h0,h1,h2,by simp,hK _ _ g .sl0⟩
 | @sl i o _ _ y hy=>
  dsimp only at g
  obtain⟨g2,g⟩:=au g
  exact fin i o y hy (of_decide_eq_true g2) g
 | @slo i o _ d y hy=>
  dsimp only at g
  split at g
  ·rename_i cs z hg
   obtain⟨g2,g⟩:=au g
   rw [Bool.and_eq_true,Bool.and_eq_true] at g2
   obtain⟨g2,g3,g4⟩:=g2
   have g2:=Nat.eq_of_beq_eq_true g2
   have g3:=Nat.eq_of_beq_eq_true g3
   have g4:=Nat.le_of_ble_eq_true g4
   subst g2
   obtain⟨vs',pad,q1,q2,q3⟩:=hr.row hy hg
   have q3:y.c * z=vs'.length+pad.length:=q3
   have ql:=q1.len
   refine fin i o y hy ?_ g
   have h7:(d+m.toNat) * z<=y.c * z:=by rw [Nat.add_mul];omega
   have:=Nat.le_of_mul_le_mul_right h7 hs
   omega
  ·cases g
 |slE hy=>cases g
theorem C9 {t:TypeId} {x:AV} {x':Value} {α:Operand->AV} {β:Operand->Value} {lo hi mx:Option Operand} {k:AV->Bool} {φ:Value->Prop} (h:uo P t x α lo hi mx s k=true) (hr:Rel w0 ρ s w) (hx:VR ρ x x')
  (h1:∀o,lo=some o->VR ρ (α o) (β o)) (h2:∀o,hi=some o->VR ρ (α o) (β o)) (h3:∀o,mx=some o->VR ρ (α o) (β o)) (hK:KP ρ k φ):iY P t x' β lo hi mx φ:=by
 unfold uo at h
 unfold iY
 split at h
 ·rename_i ht
  rw [ht]
  split at h
  ·rename_i b
   cases hx
   refine iI h h1 fun l hl=>iI hl h2 fun hh hhh=> ?_
   obtain⟨g,hk⟩:=au hhh
   rw [Bool.and_eq_true,Bool.and_eq_true] at g
   refine⟨of_decide_eq_true g.1,of_decide_eq_true g.2.1,of_decide_eq_true g.2.2,?_⟩
   have:=hK _ _ hk (.str _)
   have e:(⟨⟨(b.data.toList.take hh.toNat).drop l.toNat⟩⟩:ByteArray)=b.extract l.toNat hh.toNat:=by
    apply ByteArray.ext
    apply Array.ext'
    simp [ByteArray.data_extract,List.drop_take]
   rw [e] at this
   exact this
  ·cases h
 ·rename_i e ht
  rw [ht]
  split at h
  ·rename_i size n hs hn
   obtain⟨a,c,rfl⟩:=jR hn hx
   dsimp only
   rw [hs]
   obtain⟨hs0,h⟩:=au h
   have hs0:0<size:=Nat.le_of_ble_eq_true hs0
   cases mx with
   |none=>exact iI h h1 fun l hl=>iI hl h2 fun hh hhh=>He hhh hr hx hs0 hK
   |some m=>
    dsimp only at h ⊢
    cases hi with
    |none=>cases h
    |some hi=>exact iI h h1 fun l hl=>iI hl h2 fun hh hhh=>iI hhh (fun o ho=>h3 o ho) fun m hm=>ED hm hr hx hs0 hK
  ·cases h
 ·rename_i n e ht
  rw [ht]
  split at h
  ·rename_i i o size hs
   cases hx with
   | @ptr _ _ y hy=>
   dsimp only
   rw [hs]
   refine iI h h1 fun l hl=>iI hl h2 fun hh hhh=> ?_
   obtain⟨g,hk⟩:=au hhh
   rw [Bool.and_eq_true,Bool.and_eq_true] at g
   have hk:=dG hk
   have hk:=dG (k:=fun n'=>fN (n - l.toNat) fun c'=>k (.sl i _ n' c')) hk
   have hk:=dG (k:=fun c'=>k (.sl i _ _ c')) hk
   have:=hK _ _ hk (.sl hy)
   refine⟨of_decide_eq_true g.1,of_decide_eq_true g.2.1,of_decide_eq_true g.2.2,?_⟩
   by_cases hc:n=l.toNat
   ·rw [if_pos hc]
    rw [show Nat.beq n l.toNat=true by rw [hc];exact Nat.beq_refl _,cond_true] at this
    exact this
   ·rw [if_neg hc]
    have hb:Nat.beq n l.toNat=false:=by
     cases hb:Nat.beq n l.toNat with
     |false=>rfl
     |true=>exact absurd (Nat.eq_of_beq_eq_true hb) hc
    rw [hb,cond_false] at this
    rw [aV]
    exact this
  ·cases h
 ·cases h
end
end Gp.Rn
end
section
namespace Gp.Rn
open Go Gp
section
variable {lp:Bool} {w0 w:World} {ρ:Nm} {s:St} {P:Program} {k:AV->St->Bool} {K:Value->World->Prop}
theorem EZ {c a b:AV} {c' a' b':Value} (h:BN c a b s k=true) (hr:Rel w0 ρ s w) (hc:VR ρ c c') (ha:VR ρ a a') (hb:VR ρ b b') (hK:KK lp w0 ρ s w k K):
  (match (generalizing:=false) c' with
  | .bool t=>cond t (K a' w) (K b' w)
  |_=>False):=by
 unfold BN at h
 split at h
 ·rename_i t
  cases hc
  cases t with
  |true=>exact hK.pure hr h ha
  |false=>exact hK.pure hr h hb
 ·cases h
theorem fG {e:TypeId} {z:List AV} (h:jF P e=some z):∃zs,aY P e=some zs/\bT ρ z zs:=by
 unfold jF at h
 split at h
 ·rename_i zs hz
  exact⟨zs,hz,jY h⟩
 ·cases h
theorem Dk {e:TypeId} (h:xk P e s k=true) (hr:Rel w0 ρ s w) (hK:KK lp w0 ρ s w k K):
  (match (generalizing:=false) aY P e with
  |some z=>K (sD w) (w.alloc (.cells ⟨z⟩ e))
  |none=>False):=by
 unfold xk at h
 split at h
 ·rename_i z hz
  obtain⟨zs,h1,h2⟩:=fG (ρ:=ρ) hz
  obtain⟨i,s',h,q0,q1,q2⟩:=dn h
  obtain⟨r1,r2,r3⟩:=hr.l9 h2 q0 q1 q2 e
  rw [h1]
  exact hK.of h r2 r1 (VR.ptr (aU ρ i _)) r3
 ·cases h
theorem Ib {e:TypeId} {x:AV} {x':Value} (h:Gn P e x s k=true) (hr:Rel w0 ρ s w) (hx:VR ρ x x') (hK:KK lp w0 ρ s w k K):
  (match (generalizing:=false) shapeOf P e with
  |some (.one _)=>dF x'=true/\K (sD w) (w.alloc (.cells ⟨[x']⟩ e))
  |some (.agg _)=>match (generalizing:=false) x' with
   | .agg cs=>K (sD w) (w.alloc (.cells cs e))
   |_=>False
  |none=>False):=by
 unfold Gn at h
 split at h
 ·rename_i kd hs
  obtain⟨h1,h⟩:=au h
  obtain⟨i,s',h,q0,q1,q2⟩:=dn h
  obtain⟨r1,r2,r3⟩:=hr.l9 (.cons hx .nil) q0 q1 q2 e
  rw [hs]
  exact⟨Az hx h1,hK.of h r2 r1 (VR.ptr (aU ρ i _)) r3⟩
 ·rename_i ks hs
  rw [hs]
  split at h
  ·cases hx with
   |agg hx=>
   obtain⟨i,s',h,q0,q1,q2⟩:=dn h
   obtain⟨r1,r2,r3⟩:=hr.l9 hx q0 q1 q2 e
   exact hK.of h r2 r1 (VR.ptr (aU ρ i _)) r3
  ·cases h
 ·cases h
theorem Ci {a:AV} {v:Value} (h:VR ρ a v):bT ρ (cellsA a) (cellsOfV v):=by
 cases h<;>first|assumption|(refine .cons ?_ .nil;constructor<;>assumption)
inductive D6 (ρ:Nm):List (Nat×AV)->List (Nat×Value)->Prop
 |nil:D6 ρ [] []
 |cons {i a v l m} (h:VR ρ a v) (h':D6 ρ l m):D6 ρ ((i,a)::l) ((i,v)::m)
theorem D6.of {l:List (Nat×Operand)} {α:Operand->AV} {β:Operand->Value} (h:∀x∈l,VR ρ (α x.2) (β x.2)):D6 ρ (l.map fun p=>(p.1,α p.2)) (l.map fun p=>(p.1,β p.2)):=by
 induction l with
 |nil=>exact .nil
 |cons x l ih=>exact .cons (h x (List.mem_cons_self ..)) (ih fun y hy=>h y (List.mem_cons_of_mem _ hy))
theorem oN {place:Nat->Option (Nat×Nat)}:∀{l:List (Nat×AV)} {m:List (Nat×Value)} {cs:List AV} {us:List Value} {r:List AV},D6 ρ l m->bT ρ cs us->qW place l cs=some r->∃r',iG place m us=some r'/\bT ρ r r'
 |[],_,cs,us,r,h,hc,g=>by
  cases h
  cases g
  exact⟨us,rfl,hc⟩
 |(i,a)::l,_,cs,us,r,h,hc,g=>by
  cases h with
  |cons h h'=>
  rename_i v m
  unfold qW at g
  unfold iG
  split at g
  ·rename_i off size hp
   rw [hp]
   dsimp only
   have hce:=Ci h
   have hl:=hce.len
   have hcl:=hc.len
   rw [hl,hcl] at g
   cases hb:(Nat.beq (cellsOfV v).length size && Nat.ble (off+size) us.length) with
   |false=>rw [hb] at g;cases g
   |true=>
    rw [hb,cond_true] at g
    refine oN h' ?_ g
    unfold BJ splice
    rw [hl]
    exact(hc.take _).app (hce.app (hc.drop _))
  ·cases g
theorem vI:∀{l:List (Nat×AV)} {m:List (Nat×Value)} {cs:List AV} {us:List Value} {r:List AV},D6 ρ l m->bT ρ cs us->wS l cs=some r->∃r',qJ m us=some r'/\bT ρ r r'
 |[],_,cs,us,r,h,hc,g=>by
  cases h
  cases g
  exact⟨us,rfl,hc⟩
 |(i,a)::l,_,cs,us,r,h,hc,g=>by
  cases h with
  |cons h h'=>
  unfold wS at g
  unfold qJ
  rw [hc.len] at g
  cases hb:Nat.blt i us.length with
  |false=>rw [hb] at g;cases g
  |true=>
   rw [hb,cond_true] at g
   rw [cond_true]
   exact vI h' (hc.set i h) g
theorem tV:∀{l:List (Nat×AV)} {m:List (Nat×Value)},D6 ρ l m->ji (l.map fun p=>p.2)=true->qg (m.map fun p=>p.2)
 |[],_,h,_=>by cases h;trivial
 |_::_,_,h,g=>by
  cases h with
  |cons h h'=>
  rw [List.map_cons] at g
  unfold ji at g
  rw [Bool.and_eq_true] at g
  exact⟨Az h g.1,tV h' g.2⟩
theorem CJ {t:TypeId} {ps:List (Nat×AV)} {qs:List (Nat×Value)} {k:AV->Bool} {φ:Value->Prop} (h:wL P t ps k=true) (hp:D6 ρ ps qs) (hK:KP ρ k φ):
  (match (generalizing:=false) aY P t,P.underlying t with
  |some z,some (.struct fs)=>match (generalizing:=false) placesOf P fs.toList with
   |some pl=>match (generalizing:=false) iG (fun i=>pl[i]?) qs z with
    |some cs=>φ (.agg ⟨cs⟩)
    |none=>False
   |none=>False
  |some z,some (.array _ e)=>match (generalizing:=false) aB P e with
   |some size=>match (generalizing:=false) iG (fun i=>some (i * size,size)) qs z with
    |some cs=>φ (.agg ⟨cs⟩)
    |none=>False
   |none=>False
  |_,_=>False):=by
 unfold wL at h
 split at h
 ·rename_i z fs hz ht
  obtain⟨zs,h1,h2⟩:=fG (ρ:=ρ) hz
  rw [h1,ht]
  dsimp only
  split at h
  ·rename_i pl hpl
   rw [hpl]
   split at h
   ·rename_i cs hf
    obtain⟨r',g1,g2⟩:=oN hp h2 hf
    dsimp only
    rw [g1]
    exact hK _ _ h (.agg g2)
   ·cases h
  ·cases h
 ·rename_i z n e hz ht
  obtain⟨zs,h1,h2⟩:=fG (ρ:=ρ) hz
  rw [h1,ht]
  dsimp only
  split at h
  ·rename_i size hs
   rw [hs]
   split at h
   ·rename_i cs hf
    obtain⟨r',g1,g2⟩:=oN hp h2 hf
    dsimp only
    rw [g1]
    exact hK _ _ h (.agg g2)
   ·cases h
  ·cases h
 ·cases h
theorem Af {t:TypeId} {n:Nat} {ps:List (Nat×AV)} {qs:List (Nat×Value)} (h:rO P t n ps s k=true) (hr:Rel w0 ρ s w) (hp:D6 ρ ps qs) (hK:KK lp w0 ρ s w k K):
  (match (generalizing:=false) P.underlying t with
  |some (.slice e)=>match (generalizing:=false) aB P e,aY P e with
   |some size,some z=>cond (Nat.ble (n * size) 4096 && Nat.beq z.length size)
    (cond (u_ (shapeOf P e)) (cond (Nat.beq size 1) (qg (qs.map fun p=>p.2)/\(match (generalizing:=false) qJ qs (aC z n) with
     |some cs=>K (.slice (some ⟨w.heap.size,0,none⟩) n n) (w.alloc (.cells ⟨cs⟩ e))
     |none=>False)) False)
     (match (generalizing:=false) iG (fun i=>some (i * size,size)) qs (aC z n) with
     |some cs=>K (.slice (some ⟨w.heap.size,0,none⟩) n n) (w.alloc (.cells ⟨cs⟩ e))
     |none=>False)) False
   |_,_=>False
  |_=>False):=by
 unfold rO at h
 split at h
 ·rename_i e ht
  rw [ht]
  dsimp only
  split at h
  ·rename_i size z hs hz
   obtain⟨zs,h1,h2⟩:=fG (ρ:=ρ) hz
   rw [hs,h1]
   dsimp only
   obtain⟨g,h⟩:=au h
   rw [h2.len] at g
   rw [g,cond_true]
   cases hsh:u_ (shapeOf P e) with
   |true=>
    rw [hsh,cond_true] at h
    rw [cond_true]
    obtain⟨g1,h⟩:=au h
    rw [Bool.and_eq_true] at g1
    rw [g1.1,cond_true]
    refine⟨tV hp g1.2,?_⟩
    split at h
    ·rename_i cs hf
     obtain⟨r',q1,q2⟩:=vI hp (h2.rep n) hf
     rw [q1]
     obtain⟨i,s',h,p0,p1,p2⟩:=dn h
     obtain⟨r1,r2,r3⟩:=hr.l9 q2 p0 p1 p2 e
     exact hK.of h r2 r1 (VR.sl (aU ρ i _)) r3
    ·cases h
   |false=>
    rw [hsh,cond_false] at h
    rw [cond_false]
    split at h
    ·rename_i cs hf
     obtain⟨r',q1,q2⟩:=oN hp (h2.rep n) hf
     rw [q1]
     obtain⟨i,s',h,p0,p1,p2⟩:=dn h
     obtain⟨r1,r2,r3⟩:=hr.l9 q2 p0 p1 p2 e
     exact hK.of h r2 r1 (VR.sl (aU ρ i _)) r3
    ·cases h
  ·cases h
 ·cases h
theorem Ej:∀{cs:List AV} {us:List Value} {l:List UInt8},bT ρ cs us->MJ cs=some l->us=l.map fun b=>Value.int .u8 b.toNat
 |[],_,_,h,g=>by cases h;cases g;rfl
 |c::cs,_,l,h,g=>by
  cases h with
  |cons h h'=>
  unfold MJ at g
  split at g
  ·rename_i he
   cases he
  ·rename_i n r he
   cases he
   cases hb:Nat.blt n 256 with
   |false=>rw [hb] at g;cases g
   |true=>
    rw [hb,cond_true] at g
    split at g
    ·rename_i m hm
     cases g
     rw [Ej h' hm,List.map_cons]
     cases h
     have:n<256:=Nat.le_of_ble_eq_true hb
     congr 2
     show (n:Int)=((UInt8.ofNat n).toNat:Int)
     rw [UInt8.toNat_ofNat']
     omega
    ·cases g
  ·cases g
theorem F8 (l:List UInt8):bT ρ (L9 l) (l.map fun b=>Value.int .u8 b.toNat):=by
 unfold L9
 exact bT.map fun b _=>VR.int .u8 _
theorem wQ (b:ByteArray):byteCells b=b.data.toList.map fun b=>Value.int .u8 b.toNat:=rfl
theorem D_ {sd d:TypeId} {x:AV} {x':Value} (h:zu P sd d x s k=true) (hr:Rel w0 ρ s w) (hx:VR ρ x x') (hK:KK lp w0 ρ s w k K):
  (match (generalizing:=false) P.underlying sd,P.underlying d,x' with
  |some (.slice e),some .string,.slice a n c=>match (generalizing:=false) P.underlying e with
   |some (.int .u8)=>sO w ⟨a,n,c⟩ fun b=>K (.string b) w
   |_=>False
  |some .string,some (.slice e),.string b=>match (generalizing:=false) P.underlying e with
   |some (.int .u8)=>yj e b w fun s' w'=>K s'.v w'
   |_=>False
  |some (.slice _),some (.slice e),.slice (some a) n c=>match (generalizing:=false) P.underlying e,Nat.beq sd d with
   |some (.int .u8),true=>E8 a w fun w'=>K (.slice (some a) n c) w'
   |_,_=>False
  |_,_,v=>iP P sd d v fun v=>K v w):=by
 unfold zu at h
 split at h
 ·rename_i e h1 h2
  split at h
  ·rename_i n h3 h4
   obtain⟨a,c,rfl⟩:=jR h4 hx
   split at h
   ·rename_i cs hcs
    split at h
    ·rename_i l hl
     obtain⟨us,g1,g2,g3,_⟩:=AU hr hcs hx
     have:=Ej g1 hl
     subst this
     rw [h1,h2]
     dsimp only
     rw [h3]
     dsimp only
     rw [List.length_map] at g3
     refine⟨⟨⟨l⟩⟩,by show l.length=n;omega,?_,hK.pure hr h (.str _)⟩
     rw [wQ]
     rwa [Nat.mul_one] at g2
    ·cases h
   ·cases h
  ·cases h
 ·rename_i e h1 h2
  split at h
  ·rename_i b h3
   cases hx
   obtain⟨g,h⟩:=au h
   obtain⟨i,s',h,q0,q1,q2⟩:=dn h
   rw [h1,h2]
   dsimp only
   rw [h3]
   refine⟨Nat.le_of_ble_eq_true g,fun c hc1 hc2=> ?_⟩
   have hbl:(b.data.toList.map fun b=>Value.int .u8 b.toNat).length=b.size:=by rw [List.length_map];rfl
   obtain⟨r1,r2,r3⟩:=hr.drew.newRow (F8 b.data.toList) q0 q1 q2 (aC [.int .u8 0] (c - b.size)) e (c,c+1) (.inl (by
    rw [List.length_append,hbl,bK];simp;omega)) c (by
    show c * 1=_
    rw [hbl,bK];simp;omega)
   refine hK.of h r2 r1 ?_ (Lp.drew r3)
   have:=VR.slo (ρ:=upd ρ i ⟨w.drew.heap.size,c,fun _ _ _=>False⟩) (o:=0) (n:=b.size) (d:=0) (aU ρ i ⟨w.drew.heap.size,c,fun _ _ _=>False⟩)
   simpa [ah.v] using this
  ·cases h
 ·rename_i e0 e h1 h2
  split at h
  ·rename_i i o n c h3 h4
   split at h
   ·rename_i cs z p hg
    cases hx with
    | @sl _ _ _ _ y hy=>
    rw [h1,h2]
    dsimp only
    rw [h3,h4]
    dsimp only
    obtain⟨vs,pad,g1,⟨T,fr,g2,g3⟩,g4⟩:=hr.row hy hg
    refine⟨T,(vs++pad).length,by simp [World.shape?,g2],?_⟩
    have hf:eP w (w.freeze ⟨y.b,(vs++pad).length,none⟩ 1) (·=y.b):=by
     refine⟨by simp [World.freeze],fun b hb hn=> ?_,rfl,rfl,rfl⟩
     have:¬(y.b=b):=fun e=>hn e.symm
     simp [World.freeze,Array.getElem?_modify,this]
    have hrow:jc (w.freeze ⟨y.b,(vs++pad).length,none⟩ 1) y.b (vs++pad):=by
     obtain⟨lo,hi⟩:=fr
     refine⟨T,if lo==hi then ((vs++pad).length,(vs++pad).length+1) else (min lo (vs++pad).length,max hi ((vs++pad).length+1)),?_,?_⟩
     ·simp [World.freeze,Array.getElem?_modify,g2]
     ·right
      rcases g3 with g3|g3
      ·cases g3
       simp
      ·simp only at g3
       split
       ·simp
       ·simp only [Nat.le_min]
        exact⟨g3,Nat.le_refl _⟩
    exact hK.of h (Le.refl ρ) (hr.IB hy hg trivial hg (fun _ _=>rfl) hf ⟨vs,pad,g1,hrow,g4⟩) (.sl hy) (hr.EY hy hg trivial trivial (fun _ _=>rfl) hf)
   ·cases h
  ·cases h
 ·rename_i du kd n4 n5
  split at h
  ·cases hx
   have hp:=hK.pure hr (qV (k:=fun n=>k (.int _ n) s) h) (.int _ _)
   have e:∀q m,K (.int kd (kd.wrap m)) w->iP P sd d (.int q m) (fun v=>K v w):=by
    intro q m hp
    unfold iP
    rw [n4,n5]
    exact hp
   rw [n4,n5]
   cases du<;>exact e _ _ hp
  ·cases h
 ·rename_i du n1 n4 n5
  split at h
  ·cases hx
   have hp:=hK.pure hr h (.str _)
   have e:∀m,K (.string m) w->iP P sd d (.string m) (fun v=>K v w):=by
    intro m hp
    unfold iP
    rw [n4,n5]
    exact hp
   rw [n4,n5]
   cases du<;>first|exact e _ hp|exact(n1 _ rfl).elim
  ·cases h
 ·cases h
end
end Gp.Rn
end
