import Derived.Test.YtcmnjlhbgjhbcaaGreatDoorW14
open List (map_cons mem_cons_of_mem mem_cons_self)
open Nat (beq_refl le_of_ble_eq_true)
open Bool (and_eq_true)
section
namespace Gp.Rn
open Go Gp
section
variable {lp:Bool} {w0 w:World} {ρ:Nm} {s:St} {P:Program} {k:AV->St->Bool} {K:Value->b_}
theorem alx {t:TypeId} {x:AV} {x':Value} (h:rgC P t x s k=true) (hr:Rel w0 ρ s w) (hx:VR ρ x x') (hK:KK lp w0 ρ s w k K):
  (match (generalizing:=false) P.underlying t,x' with
  |some (.map _ _),.map r=>VB r w λa w'=>K (.pointer (some a)) w'
  |_,_=>False):=by
 unfold rgC at h;split at h
 ·rename_i kt et ht
  cases hx
  obtain⟨i,s',h,q0,q1,q2⟩:=nZ h;obtain⟨r1,r2,r3⟩:=hr.alloc (x:=⟨w.heap.size,0,λ_ _ _=>False⟩) (o:= .mapIter none 0 #[] 0) q0 q1 q2 rfl λρ' _ _=>⟨_,_,_,World.alloc_heap_new w _⟩;rw[ht];exact .inl ⟨rfl,hK.of h r2 r1 (VR.ptr (jA ρ i _)) r3⟩
 ·rename_i kt et m ht;split at h
  ·rename_i es c hg
   cases hx with
   | @map _ y hy=>
   obtain⟨es',g1,g2⟩:=hr.br m _ y hg hy;obtain⟨i,s',h,q0,q1,q2⟩:=nZ h;obtain⟨r1,r2,r3⟩:=hr.alloc (x:=⟨w.heap.size,0,λ_ _ _=>False⟩) (o:= .mapIter (some y.b) c #[] c) q0 q1 q2 rfl λρ' hl _=>⟨y,hl _ _ hy,World.alloc_heap_new w _,Nat.le_refl _⟩;rw[ht];exact .inr ⟨y.b,⟨es'⟩,c,rfl,g1,hK.of h r2 r1 (VR.ptr (jA ρ i _)) r3⟩
  ·cases h
 ·cases h
theorem afm (b:Nat):∀l:List Nat,inN b l=(⟨l⟩:Array Nat).contains b
 |[]=>by simp[inN]
 |x::r=>by
  unfold inN;rw[afm b r];simp only[List.contains_toArray,List.contains_cons];by_cases h:x=b
  ·subst h;rw[show Nat.beq x x=true from beq_refl _];simp
  ·have h1:Nat.beq x b=false:=by
    cases hb:Nat.beq x b with
    |false=>rfl
    |true=>exact absurd (Nat.eq_of_beq_eq_true hb) h
   have h2:(b==x)=false:=by simpa using λe=>h e.symm
   rw[h1,h2];simp
theorem afA {since:Nat} {seen:List Nat} {es:List (AV×AV×Nat)} {es':List MapEntry} (h:I4 ρ es es'):I4 ρ (Y1 since seen es) (leftOf ⟨es'⟩ ⟨seen⟩).toList:=by
 have e:(leftOf ⟨es'⟩ ⟨seen⟩).toList=es'.filter λe=> !(⟨seen⟩:Array Nat).contains e.born:=by
  unfold leftOf;rw[Array.toList_filter]
 rw[e]
 induction h with
 |nil=>exact .nil
 |cons h1 h2 h3 hr0 ih=>
  rename_i a v n m es es';have ih:=ih (by unfold leftOf;rw[Array.toList_filter]);unfold Y1;dsimp only;rw[afm,<- h3]
  cases hb:(⟨seen⟩:Array Nat).contains m.born with
  |true=>rw[cond_true,List.filter_cons_of_neg (by rw[hb];simp)];exact ih
  |false=>rw[cond_false,List.filter_cons_of_pos (by rw[hb];rfl)];exact .cons h1 h2 rfl ih
theorem X6 {n:Nat} {es:List (AV×AV×Nat)} {es':List MapEntry} (h:I4 ρ es es') (g:Ku n es=true):∀x∈es',x.born<n:=by
 induction h with
 |nil=>simp
 |cons h1 h2 h3 _ ih=>
  unfold Ku at g;rw[and_eq_true] at g;intro x hx;rcases List.mem_cons.1 hx with rfl|hx
  ·rw[h3];exact le_of_ble_eq_true g.1
  ·exact ih g.2 x hx
theorem afP {x:AV} {x':Value} (h:Y6 x s k=true) (hr:Rel w0 ρ s w) (hx:VR ρ x x') (hK:KK lp w0 ρ s w k K):
  (match (generalizing:=false) x' with
  | .pointer (some a)=>a=⟨a.block,0,none⟩/\abB a.block w (K (.tuple ⟨[.bool false]⟩)) λk v w'=>K (.tuple ⟨[.bool true,k,v]⟩) w'
  |_=>False):=by
 unfold Y6 at h;split at h
 ·rename_i i
  cases hx with
  | @ptr _ _ y hy=>
  refine⟨rfl,?_⟩;split at h
  ·rename_i hg;obtain⟨a,b,c,g⟩:=hr.br i _ y hg hy;exact .inl ⟨_,_,_,g,hK.pure hr h (.kW (.cons (.bool false) .nil))⟩
  ·rename_i m since seen c0 hg;obtain⟨z,g1,g2,g3⟩:=hr.br i _ y hg hy;split at h
   ·rename_i es c u;obtain⟨es',m1,m2⟩:=hr.br m _ z u g1;obtain⟨j,h⟩:=f_ h;rw[and_eq_true] at j;have hl:=afA (since:=since) (seen:=seen) m2;refine .inr ⟨z.b,since,⟨seen⟩,c0,⟨es'⟩,c,g2,m1,X6 m2 j.1,g3,?_,?_⟩
    ·intro hz;split at h
     ·exact hK.pure hr h (.kW (.cons (.bool false) .nil))
     ·rename_i he;rw[he] at hl;have:=hl.len;have hz':(leftOf ⟨es'⟩ ⟨seen⟩).toList.length=0:=by rw[Array.length_toList];exact hz
      rw[hz'] at this;simp at this
     ·cases h
    ·intro e he w1 hw1;split at h
     ·rename_i hn;rw[hn] at hl;generalize (leftOf ⟨es'⟩ ⟨seen⟩).toList=L at hl he
      cases hl
      simp at he
     ·rename_i a b n hn;rw[hn] at hl;generalize (leftOf ⟨es'⟩ ⟨seen⟩).toList=L at hl he
      cases hl with
      |cons q1 q2 q3 q4=>
      cases q4
      rw[List.mem_singleton.1 he];obtain⟨s',h,p1,p2⟩:=pY h;have hr1:Rel w0 ρ s w1:=by rcases hw1 with rfl|rfl;exact hr;exact hr.drew
      have hp:(⟨seen⟩:Array Nat).push n=⟨seen++[n]⟩:=by apply Array.ext';simp
      rw[q3,hp];obtain⟨r1,l1⟩:=qK (o:= .mapIter (some z.b) since ⟨seen++[n]⟩ c) hr1 hy hg trivial trivial p1 p2 λw' hw'=>⟨z,g1,hw',le_of_ble_eq_true j.2⟩;refine hK.of h (Le.refl ρ) r1 (.kW (.cons (.bool true) (.cons q1 (.cons q2 .nil)))) ?_;rcases hw1 with rfl|rfl
      ·exact l1
      ·exact l1
     ·cases h
   ·cases h
  ·cases h
 ·cases h
theorem UK {n:Nat} {es:List (AV×AV×Nat)} {es':List MapEntry} (h:I4 ρ es es'):(MI n es=none->∀x∈es',x.born≠n)/\∀a b,MI n es=some (a,b)->∃e∈es',e.born=n/\VR ρ a e.key/\VR ρ b e.val:=by
 induction h with
 |nil=>exact⟨λ_=>by simp,λa b h=>by cases h⟩
 |cons h1 h2 h3 hr0 ih=>
  rename_i a v m e es es';unfold MI;dsimp only;by_cases hm:m=n
  ·rw[show Nat.beq m n=true by rw[hm];exact beq_refl _,cond_true];refine⟨λh=>(by cases h),λa b h=> ?_⟩
   cases h
   exact⟨e,mem_cons_self ..,by rw[h3,hm],h1,h2⟩
  ·have hb:Nat.beq m n=false:=by
    cases hb:Nat.beq m n with
    |false=>rfl
    |true=>exact absurd (Nat.eq_of_beq_eq_true hb) hm
   rw[hb,cond_false];refine⟨λh x hx=> ?_,λa b h=> ?_⟩
   ·rcases List.mem_cons.1 hx with rfl|hx
    ·rw[h3];exact hm
    ·exact ih.1 h x hx
   ·obtain⟨e',g1,g2⟩:=ih.2 a b h;exact⟨e',mem_cons_of_mem _ g1,g2⟩
theorem adF {es:List (AV×AV×Nat)} {es':List MapEntry} (h:I4 ρ es es') (g:Xc es=true):(es'.map (·.born)).Nodup:=by
 induction h with
 |nil=>exact List.nodup_nil
 |cons h1 h2 h3 hr ih=>
  unfold Xc at g;rw[and_eq_true] at g;rw[map_cons,List.nodup_cons];refine⟨λhm=> ?_,ih g.2⟩;obtain⟨x,hx,he⟩:=List.mem_map.1 hm;have g1:=g.1;dsimp only at g1;split at g1
  ·rename_i hn;exact(UK hr).1 hn x hx (he.trans h3)
  ·cases g1
theorem YX:∀{l:List Nat} {n:Nat},afx l=some n->∃r,l=r++[n]
 |[],_,h=>by cases h
 |[x],_,h=>by cases h;exact⟨[],rfl⟩
 |x::y::r,n,h=>by
  obtain⟨q,hq⟩:=YX (l:=y::r) h;exact⟨x::q,by rw[hq];rfl⟩
theorem ac3 {x:AV} {x':Value} {k:AV->Bool} {φ:Value->Prop} (h:QB x s k=true) (hr:Rel w0 ρ s w) (hx:VR ρ x x') (hK:KP ρ k φ):
  (match (generalizing:=false) x' with
  | .pointer (some a)=>a=⟨a.block,0,none⟩/\Vy a.block w λk v=>φ (.tuple ⟨[k,v]⟩)
  |_=>False):=by
 unfold QB at h;split at h
 ·rename_i i
  cases hx with
  | @ptr _ _ y hy=>
  refine⟨rfl,?_⟩;split at h
  ·rename_i m since seen c hg;obtain⟨z,g1,g2,g3⟩:=hr.br i _ y hg hy;split at h
   ·rename_i es c' n u hl;obtain⟨es',m1,m2⟩:=hr.br m _ z u g1;obtain⟨j,hq⟩:=f_ h;clear h;rw[and_eq_true] at j;have hc:=Nat.eq_of_beq_eq_true j.2;subst hc;split at hq
    ·rename_i a b hb;obtain⟨e,e1,e2,e3,e4⟩:=(UK m2).2 a b hb;obtain⟨r,rfl⟩:=YX hl;refine⟨z.b,since,⟨r⟩,⟨es'⟩,c,e,?_,m1,e1,adF m2 j.1,hK _ _ hq (.kW (.cons e3 (.cons e4 .nil)))⟩;have hp:(⟨r⟩:Array Nat).push e.born=⟨r++[n]⟩:=by apply Array.ext';simp[e2]
     rw[hp];exact g2
    ·cases hq
   ·cases h
  ·cases h
 ·cases h
theorem akW {t:TypeId} {x:AV} {x':Value} {f:Nat} {k:AV->Bool} {φ:Value->Prop} (h:faC P t x f k=true) (hx:VR ρ x x') (hK:KP ρ k φ):
  (match (generalizing:=false) P.underlying t,x' with
  |some (.struct fs),.pointer (some a)=>match (generalizing:=false) yw P fs f with
   |some (off,size)=>cond (Nat.beq size 0) False (φ (.pointer (some (a.add off))))
   |none=>False
  |_,_=>False):=by
 unfold faC at h;split at h
 ·rename_i fs i a ht
  cases hx with
  | @ptr _ _ y hy=>
  rw[ht];dsimp only;split at h
  ·rename_i off size hp;rw[hp];dsimp only
   cases hb:Nat.beq size 0 with
   |true=>rw[hb] at h;cases h
   |false=>
    rw[hb,cond_false] at h;rw[cond_false,fM];exact hK _ _ (pq (k:=λa'=>k (.ptr i a')) h) (.ptr hy)
  ·cases h
 ·cases h
theorem Zv {d:TypeDesc} {size off:Nat} {cs:List AV} {us:List Value} {k:AV->Bool} {φ:Value->Prop} (h:Vf d size off cs k=true) (hc:lg ρ cs us) (hK:KP ρ k φ):partOf d size off us φ:=by
 unfold Vf at h;unfold partOf
 cases hd:Cm d with
 |true=>
  rw[hd,cond_true] at h;exact hK _ _ h (.agg ((hc.drop _).take _))
 |false=>
  rw[hd,cond_false] at h;rw[cond_false];split at h
  ·rename_i v hv;obtain⟨u,h1,h2⟩:=hc.get hv;rw[h1];exact hK _ _ h h2
  ·cases h
theorem akY {t:TypeId} {x:AV} {x':Value} {f:Nat} {k:AV->Bool} {φ:Value->Prop} (h:fdC P t x f k=true) (hx:VR ρ x x') (hK:KP ρ k φ):
  (match (generalizing:=false) P.underlying t,x' with
  |some (.struct fs),.agg cs=>match (generalizing:=false) fs.toList[f]? with
   |some fd=>match (generalizing:=false) P.underlying fd.type,gG P fd.type with
    |some d,some size=>partOf d size fd.offset cs.toList φ
    |_,_=>False
   |none=>False
  |_,_=>False):=by
 unfold fdC at h;split at h
 ·rename_i fs cs ht
  cases hx with
  |agg hx=>
  rw[ht];dsimp only;split at h
  ·rename_i fd hf;rw[hf];dsimp only;split at h
   ·rename_i d size h1 h2;rw[h1,h2];exact Zv h hx hK
   ·cases h
  ·cases h
 ·cases h
theorem ak3 {t:TypeId} {x i:AV} {x' i':Value} {k:AV->Bool} {φ:Value->Prop} (h:iaC P t x i k=true) (hx:VR ρ x x') (hi:VR ρ i i') (hK:KP ρ k φ):
  (match (generalizing:=false) P.underlying t,x',i' with
  |some (.slice e),.slice a n c,.int _ i=>match (generalizing:=false) gG P e with
   |some size=>iP ⟨a,n,c⟩ size i λa'=>φ (.pointer (some a'))
   |none=>False
  |some (.array n e),.pointer (some a),.int _ i=>match (generalizing:=false) gG P e with
   |some size=>0<=i/\i<(n:Int)/\φ (.pointer (some (a.add (i.toNat * size))))
   |none=>False
  |_,_,_=>False):=by
 unfold iaC at h;split at h
 ·rename_i e kd i ht
  cases hi
  split at h
  ·rename_i size b o len c hs
   cases hx with
   | @sl _ _ _ _ y hy=>
   obtain⟨g,h⟩:=f_ h;rw[ht];dsimp only;rw[hs];refine⟨_,rfl,Int.natCast_nonneg _,by have:=le_of_ble_eq_true g;show (i:Int)<(len:Int);omega,?_⟩;rw[fM];exact hK _ _ (pq (k:=λa=>k (.ptr b a)) h) (.ptr hy)
  ·rename_i size b o len c hs
   cases hx with
   | @slo _ _ _ _ y hy=>
   obtain⟨g,h⟩:=f_ h;rw[ht];dsimp only;rw[hs];refine⟨_,rfl,Int.natCast_nonneg _,by have:=le_of_ble_eq_true g;show (i:Int)<(len:Int);omega,?_⟩;rw[fM];exact hK _ _ (pq (k:=λa=>k (.ptr b a)) h) (.ptr hy)
  ·cases h
 ·rename_i n e b o kd i ht
  cases hi
  split at h
  ·rename_i size hs
   cases hx with
   | @ptr _ _ y hy=>
   obtain⟨g,h⟩:=f_ h;rw[ht];dsimp only;rw[hs];refine⟨Int.natCast_nonneg _,by have:=le_of_ble_eq_true g;show (i:Int)<(n:Int);omega,?_⟩;rw[fM];exact hK _ _ (pq (k:=λa=>k (.ptr b a)) h) (.ptr hy)
  ·cases h
 ·cases h
theorem ak8 {t:TypeId} {x i:AV} {x' i':Value} {k:AV->Bool} {φ:Value->Prop} (h:ixC P t x i k=true) (hx:VR ρ x x') (hi:VR ρ i i') (hK:KP ρ k φ):
  (match (generalizing:=false) P.underlying t,x',i' with
  |some .string,.string s,.int _ i=>aej s i λn=>φ (.int .u8 n)
  |some (.array n e),.agg cs,.int _ i=>match (generalizing:=false) P.underlying e,gG P e with
   |some d,some size=>0<=i/\i<(n:Int)/\partOf d size (i.toNat * size) cs.toList φ
   |_,_=>False
  |_,_,_=>False):=by
 unfold ixC at h;split at h
 ·rename_i b kd i ht
  cases hi
  cases hx
  rw[ht];split at h
  ·rename_i c hc;refine⟨c,Int.natCast_nonneg _,?_,hK _ _ (pq (k:=λn=>k (.int .u8 (.ofNat n))) h) (.int _ _)⟩;show b.data[i]? =some c;rw[<- Array.getElem?_toList];exact hc
  ·cases h
 ·rename_i n e cs kd i ht
  cases hi
  cases hx with
  |agg hx=>
  rw[ht];dsimp only;split at h
  ·rename_i d size h1 h2;rw[h1,h2];obtain⟨g,h⟩:=f_ h;exact⟨Int.natCast_nonneg _,by have:=le_of_ble_eq_true g;show (i:Int)<(n:Int);omega,Zv h hx hK⟩
  ·cases h
 ·cases h
theorem akU {ty:TypeId} {t:AV} {t':Value} {i:Nat} {k:AV->Bool} {φ:Value->Prop} (h:exC P ty t i k=true) (hx:VR ρ t t') (hK:KP ρ k φ):
  (match (generalizing:=false) t' with
  | .tuple vs=>match (generalizing:=false) vs.toList[i]? with
   |some v=>match (generalizing:=false) shapeOf P ty with
    |some (.one k)=>k.dec v λx=>φ (k.enc x)
    |_=>φ v
   |none=>False
  |_=>False):=by
 unfold exC at h;split at h
 ·cases hx with
  |kW hx=>
  dsimp only;split at h
  ·rename_i v hv;obtain⟨u,h1,h2⟩:=hx.get hv;rw[h1];dsimp only;split at h
   ·rename_i kd hs;rw[hs];obtain⟨g,h⟩:=f_ h;obtain⟨y,rfl⟩:=CB h2 g;dsimp only;rw[KR];exact hK _ _ h h2
   ·rename_i hn;have:=hK _ _ h h2;split
    ·rename_i kd hs;exact absurd hs (hn kd)
    ·exact this
  ·cases h
 ·cases h
end
end Gp.Rn
end
section
namespace Gp.Rn
open Go Gp
structure PY (lp:Bool) (P:Program) (w0:World) (ρ0:Nm) (cb:Cb):Prop where
 call:∀(f:FuncId) (args:List AV) (s:St) (k:List AV->St->Bool) (ρ:Nm) (w:World) (args':List Value) (K:List Value->b_),cb.call f args s k=true->Le ρ0 ρ->Rel w0 ρ s w->lg ρ args args'->
  (∀rs s',k rs s'=true->∀ρ' w' rs',Le ρ ρ'->Rel w0 ρ' s' w'->lg ρ' rs rs'->(lp=true->Lp ρ s w s' w')->K rs' w')->Calls P f ⟨args'⟩ w λe w'=>∃vs,e= .returned (kW vs)/\K vs w'
 yld:∀(l:Nat) (args:List AV) (s:St) (k:Bool->St->Bool) (ρ:Nm) (w:World) (args':List Value) (x:Loc) (K:Bool->b_),cb.yld l args s k=true->Le ρ0 ρ->Rel w0 ρ s w->ρ l=some x->lg ρ args args'->
  (∀b s',k b s'=true->∀ρ' w',Le ρ ρ'->Rel w0 ρ' s' w'->(lp=true->Lp ρ s w s' w')->K b w')->BZ P x.b args' w K
theorem akK (P:Program) (w0:World) (ρ0:Nm):PY true P w0 ρ0 cb0:=⟨λf args s k ρ w args' K h=>(by cases h),λl args s k ρ w args' x K h=>(by cases h)⟩
theorem IE:∀{sh:List Shape} {φ ψ:List Value->Prop},(∀us,φ us->ψ us)->oD sh φ->oD sh ψ:=by
 have j:∀(ks:List Kind) (φ ψ:List Value->Prop),(∀us,φ us->ψ us)->ac7 ks φ->ac7 ks ψ:=by
  intro ks
  induction ks with
  |nil=>exact λφ ψ h g=>h _ g
  |cons k ks ih=>exact λφ ψ h ⟨x,g⟩=>⟨x,ih _ _ (λus=>h _) g⟩
 have z:∀(sh:Shape) (φ ψ:Value->Prop),(∀u,φ u->ψ u)->sh.ex φ->sh.ex ψ:=by
  intro sh φ ψ h g
  cases sh with
  |one k=>obtain⟨x,g⟩:=g;exact⟨x,h _ g⟩
  |agg ks=>exact j ks _ _ (λus=>h _) g
 intro sh
 induction sh with
 |nil=>exact λh g=>h _ g
 |cons s sh ih=>exact λh g=>z s _ _ (λu g=>ih (λus=>h _) g) g
theorem Jt:∀{v:List Value} {a:List AV},BL v=some a->∀x∈v,iC x=true:=by
 intro v
 induction v with
 |nil=>intro a _ x hx;simp at hx
 |cons u v ih=>
  intro a h x hx;unfold BL at h;split at h
  ·rename_i q1 q2 q3 q4;rcases List.mem_cons.1 hx with rfl|hx
   ·unfold YZ at q3;split at q3<;>first|rfl|cases q3
   ·exact ih q4 x hx
  ·cases h
section
variable {lp:Bool} {w0 w:World} {ρ ρ0:Nm} {s:St} {P:Program} {k:AV->St->Bool} {K:Value->b_} {cb:Cb}
theorem aeG {ty:TypeId} {f:FuncId} {args:List AV} {args':List Value} (hcb:PY lp P w0 ρ0 cb) (h:clC P cb ty f args s k=true) (hl:Le ρ0 ρ) (hr:Rel w0 ρ s w) (ha:lg ρ args args') (hK:KK lp w0 ρ s w k K):
  ∃sh,xq P ty=some sh/\jZ P f=true/\EM P sh f args' w K:=by
 unfold clC at h;split at h
 ·rename_i sh hs;obtain⟨hb,h⟩:=f_ h;refine⟨sh,hs,hb,?_⟩;refine Calls.mono (hcb.call f args s _ ρ w args' (λvs w'=>oD sh λus=>kW vs=kW us/\K (kW us) w') h hl hr ha λrs s' hk ρ' w' rs' l' r' v' p'=> ?_) ?_
  ·obtain⟨g,hk⟩:=f_ hk;exact Gm v' g ⟨rfl,hK _ _ hk ρ' w' _ l' r' (aco v') p'⟩
  ·rintro e w' ⟨vs,rfl,hx⟩;exact IE (λus ⟨a,b⟩=>⟨by rw[a],b⟩) hx
 ·cases h
theorem akL {ty:TypeId} {v:AV} {v':Value} {args:List AV} {args':List Value} (hcb:PY lp P w0 ρ0 cb) (h:cvC P cb ty v args s k=true) (hl:Le ρ0 ρ) (hr:Rel w0 ρ s w) (hv:VR ρ v v') (ha:lg ρ args args') (hK:KK lp w0 ρ s w k K):
  ∃sh,xq P ty=some sh/\iY P sh v' args' w λr w'=>oD sh λvs=>r=kW vs/\K (kW vs) w':=by
 unfold cvC at h;split at h
 ·rename_i sh f first cap hs
  cases hv with
  |fn _ h1 h2=>
  refine⟨sh,hs,?_⟩;obtain⟨hb,h⟩:=f_ h;show cond (jZ P f) _ False;rw[hb,cond_true];refine Calls.mono (hcb.call f _ s _ ρ w _ (λvs w'=>oD sh λus=>kW vs=kW us/\oD sh λus'=>kW us=kW us'/\K (kW us') w') h hl hr (h1.app (ha.app h2)) λrs s' hk ρ' w' rs' l' r' v' p'=> ?_) ?_
  ·obtain⟨g,hk⟩:=f_ hk;exact Gm v' g ⟨rfl,Gm v' g ⟨rfl,hK _ _ hk ρ' w' _ l' r' (aco v') p'⟩⟩
  ·rintro e w' ⟨vs,rfl,hx⟩;exact IE (λus ⟨a,b⟩=>⟨by rw[a],b⟩) hx
 ·rename_i sh l hs
  cases hv with
  | @yld _ x hx=>
  refine⟨sh,hs,?_⟩;show BZ P x.b (_++args') w _;refine hcb.yld l args s _ ρ w args' x _ h hl hr hx ha λb s' hk ρ' w' l' r' p'=> ?_;obtain⟨g,hk⟩:=f_ hk;exact Gm (ρ:=ρ') (.cons (.bool b) .nil) g ⟨rfl,hK _ _ hk ρ' w' _ l' r' (.bool b) p'⟩
 ·cases h
theorem QO {mx:Bool} {kd:IntKind} {k:AV->Bool} {φ:Value->Prop} (hK:KP ρ k φ):∀{r:List AV} {r':List Value} {x:Int},lg ρ r r'->QM mx x r kd k=true->zn mx x r' kd φ
 |[],_,x,h,g=>by
  cases h
  exact hK _ _ (N_ (k:=λx=>k (.int kd x)) g) (.int _ _)
 |a::r,_,x,h,g=>by
  cases h with
  |cons h h'=>
  unfold QM at g;split at g
  ·rename_i he
   cases he
  ·rename_i kd' y r1 he
   cases he
   cases h
   unfold zn;have:=QO hK h' g;have e1:∀x y:Int,(if y>x then y else x)=cond (decide (y>x)) y x:=λx y=>by by_cases hh:y>x<;>simp[hh]
   have e2:∀x y:Int,(if y<x then y else x)=cond (decide (y<x)) y x:=λx y=>by by_cases hh:y<x<;>simp[hh]
   rw[e1,e2];exact this
  ·cases g
theorem ako {b:Builtin} {ts:List TypeId} {args:List AV} {args':List Value} (h:biC P b ts args s k=true) (hr:Rel w0 ρ s w) (ha:lg ρ args args') (hK:KK lp w0 ρ s w k K):iW P b ts args' w K:=by
 unfold biC at h;split at h
 ·
  split at h
  ·rename_i t x
   cases ha with
   |cons hx hn=>
   cases hn
   unfold iW;dsimp only;split at h
   ·rename_i b ht;rw[ht]
    cases hx
    exact hK.pure hr (pq (k:=λn=>k (.int .i64 (.ofNat n)) s) h) (.int _ _)
   ·rename_i n e ht;rw[ht];have:=hK.pure hr h (.int _ _)
    cases hx<;>exact this
   ·rename_i e ht;rw[ht];split at h
    ·rename_i n hn;obtain⟨a,c,rfl⟩:=Dz hn hx;exact hK.pure hr h (.int _ _)
    ·cases h
   ·rename_i kt et ht;rw[ht]
    cases hx
    exact hK.pure hr h (.int _ _)
   ·rename_i kt et r ht;rw[ht]
    cases hx with
    | @map _ x hx=>
    split at h
    ·rename_i es c hg;obtain⟨es',g1,g2⟩:=hr.br r _ x hg hx;refine⟨⟨es'⟩,c,g1,?_⟩;have:=hK.pure hr (pq (k:=λn=>k (.int .i64 (.ofNat n)) s) h) (.int _ _);rw[g2.len] at this;exact this
    ·cases h
   ·cases h
  ·cases h
 ·
  split at h
  ·rename_i t x
   cases ha with
   |cons hx hn=>
   cases hn
   unfold iW;split at h
   ·rename_i e ht
    cases hx
    dsimp only;rw[ht];exact hK.pure hr h (.int _ _)
   ·rename_i e _ _ _ c ht
    cases hx
    dsimp only;rw[ht];exact hK.pure hr h (.int _ _)
   ·cases h
  ·cases h
 ·
  split at h
  ·cases ha with
   |cons hx hn=>
   cases hx
   exact QO (hK.kp hr) hn h
  ·cases h
 ·
  split at h
  ·cases ha with
   |cons hx hn=>
   cases hx
   exact QO (hK.kp hr) hn h
  ·cases h
 ·
  split at h
  ·rename_i t t' x y
   cases ha with
   |cons hx hn=>
   cases hn with
   |cons hy hn=>
   cases hn
   rename_i x' y';split at h
   ·rename_i e d ht ht';split at h
    ·rename_i size bytes z hs hb hz;have j:∀(n:Nat) (vs:List AV),VI size bytes z.length x n vs s k=true->∃a l c,x'= .slice a l c:=by
      intro n vs g;unfold VI at g;obtain⟨_,g⟩:=f_ g
      cases hx<;>first|exact⟨_,_,_,rfl⟩|cases g
     unfold iW;split at h
     ·rename_i e';split at h
      ·rename_i n hn;obtain⟨a',c',rfl⟩:=Dz hn hy;split at h
       ·rename_i vs u;obtain⟨a,l,c,rfl⟩:=j _ _ h;obtain⟨us,g1,g2,_⟩:=abg hr u hy;dsimp only;rw[ht,ht'];dsimp only;rw[hs,hb,hz];exact⟨us,g2,VJ h hr hx g1 hK⟩
       ·cases h
      ·cases h
     ·split at h
      ·rename_i b
       cases hy
       obtain⟨a,l,c,rfl⟩:=j _ _ h;dsimp only;rw[ht,ht'];dsimp only;rw[hs,hb,hz];exact VJ h hr hx (aeB _) hK
      ·cases h
     ·split at h
      ·rename_i kd n za I
       cases hy
       obtain⟨g,h⟩:=f_ h;rw[and_eq_true,and_eq_true] at g;obtain⟨a,l,c,rfl⟩:=j _ _ h;dsimp only;rw[ht,ht'];dsimp only;rw[hs,hb,hz];dsimp only;rw[g.1,cond_true];have g2:=le_of_ble_eq_true g.2.1;have g3:=le_of_ble_eq_true g.2.2;refine⟨Int.natCast_nonneg _,?_,?_,?_⟩
       ·show (n:Int) * (bytes:Int)<=2^46;omega
       ·show (n:Int)<=2^62;omega
       ·exact VJ h hr hx ((Ed I).rep n) hK
      ·cases h
     ·cases h
    ·cases h
   ·cases h
  ·cases h
 ·
  split at h
  ·rename_i t t' x y
   cases ha with
   |cons hx hn=>
   cases hn with
   |cons hy hn=>
   cases hn
   rename_i x' y';split at h
   ·rename_i e ht;split at h
    ·rename_i size n m hs hn hm;obtain⟨a,c,rfl⟩:=Dz hn hx;obtain⟨b,d,rfl⟩:=Dz hm hy;unfold iW;dsimp only;rw[ht];dsimp only;rw[hs];dsimp only;split at h
     ·rename_i vs u;obtain⟨us,g1,g2,g3,_⟩:=abg hr u hy;split at h
      ·cases hx with
       | @sl _ _ _ _ z hz=>
       obtain⟨s',h,r1,l1,w1,o1,_⟩:=Gt hr hz g1 h;exact⟨us,g2,λa ha=>(by cases ha;exact w1),o1,hK.of h (Le.refl ρ) r1 (.int _ _) l1⟩
      ·cases hx with
       | @slo _ _ _ _ z hz=>
       obtain⟨s',h,r1,l1,w1,o1,_⟩:=Gt hr hz g1 h;exact⟨us,g2,λa ha=>(by cases ha;exact w1),o1,hK.of h (Le.refl ρ) r1 (.int _ _) l1⟩
      ·cases hx
       have hu:us=[]:=List.length_eq_zero_iff.1 (by rw[g3];simp[Nat.min]);subst hu;refine⟨[],g2,λa ha=>(by cases ha),by simp,?_⟩;have e0:Nat.min m 0=0:=Nat.min_zero m;show K (.int .i64 ((Nat.min m 0:Nat):Int)) w;rw[e0];exact hK.pure hr h (.int _ _)
      ·cases h
     ·cases h
    ·cases h
   ·cases h
  ·cases h
 ·
  split at h
  ·rename_i t x
   cases ha with
   |cons hx hn=>
   cases hn
   split at h
   ·rename_i e ht;split at h
    ·rename_i size z i o n c hs hz
     cases hx with
     | @sl _ _ _ _ y hy=>
     obtain⟨zs,z1,z2⟩:=uO (ρ:=ρ) hz;obtain⟨g,h⟩:=f_ h;rw[z2.len] at g;obtain⟨s',h,r1,l1,w1,o1,_⟩:=Gt hr hy (z2.rep n) h;unfold iW;dsimp only;rw[ht];dsimp only;rw[hs,z1];dsimp only;rw[g,cond_true];refine⟨λa ha=> ?_,?_,hK.of h (Le.refl ρ) r1 (.kW .nil) l1⟩
     ·cases ha
      rw[kV] at w1;exact w1
     ·intro v hv;unfold CX at hz;rw[z1] at hz;exact Jt hz v hv
    ·rename_i size z i o n c hs hz
     cases hx with
     | @slo _ _ _ _ y hy=>
     obtain⟨zs,z1,z2⟩:=uO (ρ:=ρ) hz;obtain⟨g,h⟩:=f_ h;rw[z2.len] at g;obtain⟨s',h,r1,l1,w1,o1,_⟩:=Gt hr hy (z2.rep n) h;unfold iW;dsimp only;rw[ht];dsimp only;rw[hs,z1];dsimp only;rw[g,cond_true];refine⟨λa ha=> ?_,?_,hK.of h (Le.refl ρ) r1 (.kW .nil) l1⟩
     ·cases ha
      rw[kV] at w1;exact w1
     ·intro v hv;unfold CX at hz;rw[z1] at hz;exact Jt hz v hv
    ·rename_i size z hs hz
     cases hx
     obtain⟨zs,z1,z2⟩:=uO (ρ:=ρ) hz;obtain⟨g,h⟩:=f_ h;rw[z2.len] at g;unfold iW;dsimp only;rw[ht];dsimp only;rw[hs,z1];dsimp only;rw[g,cond_true];refine⟨λa ha=>(by cases ha),?_,hK.pure hr h (.kW .nil)⟩;intro v hv;unfold CX at hz;rw[z1] at hz;exact Jt hz v hv
    ·cases h
   ·cases h
  ·cases h
 ·
  split at h
  ·rename_i t t' m key
   cases ha with
   |cons hx hn=>
   cases hn with
   |cons hy hn=>
   cases hn
   split at h
   ·rename_i kt et ht;obtain⟨r,rfl,hd⟩:=ahb (φ:=λw'=>K (.tuple #[]) w') h hr hx hy λs' w' hk r1 l1=>hK.of hk (Le.refl ρ) r1 (.kW .nil) l1;unfold iW;dsimp only;rw[ht];exact hd
   ·cases h
  ·cases h
 ·cases h
end
end Gp.Rn
end
section
namespace Gp.Rn
open Go Gp
section
variable {lp:Bool} {w0 w:World} {ρ ρ0:Nm} {s:St} {P:Program} {k:AV->St->Bool} {K:Value->b_} {cb:Cb}
theorem alp {o:Oper} {α:Operand->AV} {β:Operand->Value} (hcb:PY lp P w0 ρ0 cb) (h:opC P cb o.op o.type α s k=true) (hl:Le ρ0 ρ) (hr:Rel w0 ρ s w) (j:∀x∈o.op.operands.toList,VR ρ (α x) (β x)) (hK:KK lp w0 ρ s w k K):uK P o β w K:=by
 unfold uK;generalize hop:o.op=op at h j ⊢;unfold opC at h
 cases op with
 |move x=>exact hK.pure hr h (j x (by simp[Op.operands]))
 |assign x=>exact hK.pure hr h (j x (by simp[Op.operands]))
 |pick c a b=>exact afZ h hr (j c (by simp[Op.operands])) (j a (by simp[Op.operands])) (j b (by simp[Op.operands])) hK
 |alloc e=>exact acH h hr hK
 |box e x=>exact ag6 h hr (j x (by simp[Op.operands])) hK
 |build t ps=>exact acM h (PsR.of λx hx=>j x.2 (by simp only[Op.operands];exact List.mem_map_of_mem hx)) (hK.kp hr)
 |buildSlice t n ps=>
  have:=aai h hr (PsR.of λx hx=>j x.2 (by simp only[Op.operands];exact List.mem_map_of_mem hx)) hK;rw[List.map_map] at this;exact this
 |load t x=>exact ak_ h hr (j x (by simp[Op.operands])) hK
 |store t x y=>exact alI h hr (j x (by simp[Op.operands])) (j y (by simp[Op.operands])) hK
 |nilCheck x=>
  have hx:=j x (by simp[Op.operands]);unfold nlC at h;dsimp only at h ⊢;split at h
  ·rename_i i a ha;rw[ha] at hx;generalize β x=v at hx
   cases hx with
   |ptr hx=>exact⟨_,rfl,hK.pure hr h (.ptr hx)⟩
  ·cases h
 |binOp op t x y yt=>
  have hx:=j x (by simp[Op.operands]);have hy:=j y (by simp[Op.operands]);have h':ahi P op t α x y (λv=>k v s)=true:=h;unfold ahi at h';split at h'
  ·exact afQ h' hx hy (hK.kp hr)
  ·rename_i hn;have q:=agZ h' hx hy (hK.kp hr);dsimp only;split
   ·exact(hn rfl).elim
   ·exact q
 |makeInterface t x=>
  have hx:=j x (by simp[Op.operands]);have h':ahR P t (α x) (λv=>k v s)=true:=h;unfold ahR at h';dsimp only;split at h'
  ·cases h'
  ·rename_i d hd ht;have q:=hK.pure hr h' (.ifc t hx);rw[ht]
   cases d<;>first|exact(hd _ rfl).elim|exact q
  ·cases h'
 |typeAssert x xt t ok=>exact akl h (j x (by simp[Op.operands])) (hK.kp hr)
 |unOp op t x=>exact alS h (j x (by simp[Op.operands])) (hK.kp hr)
 |convert sd d x=>
  have:=aeL h hr (j x (by simp[Op.operands])) hK;exact this
 |makeFunc fn first cap=>
  unfold alh at h;dsimp only at h ⊢;split at h
  ·exact hK.pure hr h (.fn _ (lg.map λx hx=>j x (by simp[Op.operands];exact .inl (by simpa using hx))) (lg.map λx hx=>j x (by simp[Op.operands];exact .inr (by simpa using hx))))
  ·cases h
 |lookup t x i c=>
  have:=afG h hr (j x (by simp[Op.operands])) (j i (by simp[Op.operands])) hK
  cases c with
  |true=>exact this
  |false=>exact this
 |mapUpdate t x i v=>
  unfold alU at h;dsimp only at h ⊢;split at h
  ·rename_i kt et ht;obtain⟨r,hr1,hm⟩:=aik (φ:=λw'=>K undef w') h hr (j x (by simp[Op.operands])) (j i (by simp[Op.operands])) (j v (by simp[Op.operands])) λs' w' hk r1 l1=>hK.of hk (Le.refl ρ) r1 (.kW .nil) l1;rw[ht,hr1];exact hm
  ·cases h
 |mapEntry t x i=>exact afN h hr (j x (by simp[Op.operands])) (j i (by simp[Op.operands])) hK
 |entryStore t x st v=>exact ahT h hr (j x (by simp[Op.operands])) (j st (by simp[Op.operands])) (j v (by simp[Op.operands])) hK
 |makeMap t r=>
  cases r with
  |some r=>cases h
  |none=>
   dsimp only at h ⊢;unfold ali at h;obtain⟨i,s',h,q0,q1,q2⟩:=nZ h;obtain⟨r1,r2,r3⟩:=hr.alloc (x:=⟨w.heap.size,0,λ_ _ _=>False⟩) (o:= .map #[] 0) q0 q1 q2 rfl λρ' _ _=>⟨[],World.alloc_heap_new w _,.nil⟩;exact hK.of h r2 r1 (VR.map (jA ρ i _)) r3
 |makeSlice t l c=>
  have hx:=j l (by simp[Op.operands]);have hy:=j c (by simp[Op.operands]);unfold alj at h;dsimp only at h ⊢;split at h
  ·rename_i e k1 n k2 m ht h1 h2;rw[h1] at hx;rw[h2] at hy;rw[ht];generalize β l=v1 at hx;generalize β c=v2 at hy
   cases hx
   cases hy
   dsimp only;split at h
   ·rename_i size bytes z hs hb hz;obtain⟨zs,z1,z2⟩:=uO (ρ:=ρ) hz;rw[hs,hb,z1];dsimp only;obtain⟨g,h⟩:=f_ h;rw[and_eq_true,and_eq_true,and_eq_true] at g;obtain⟨g1,g2,g3,g4⟩:=g;rw[z2.len] at g1;rw[g1,cond_true];have g2:=le_of_ble_eq_true g2;have g3:=le_of_ble_eq_true g3;have g4:=le_of_ble_eq_true g4;obtain⟨i,s',h,q0,q1,q2⟩:=nZ h;obtain⟨r1,r2,r3⟩:=hr.GX (z2.rep m) q0 q1 q2 e;refine⟨Int.natCast_nonneg _,?_,?_,?_,hK.of h r2 r1 (VR.sl (jA ρ i _)) r3⟩
    ·show (n:Int)<=(m:Int);omega
    ·show (m:Int)<=2^62;omega
    ·show (bytes:Int) * (m:Int)<=2^48;omega
   ·cases h
  ·cases h
 |slice t x lo hi mx=>
  refine adV h hr (j x (by simp[Op.operands])) (λo ho=>j o ?_) (λo ho=>j o ?_) (λo ho=>j o ?_) (hK.kp hr)
  ·subst ho;simp[Op.operands]
  ·subst ho;simp[Op.operands]
  ·subst ho;simp[Op.operands]
 |fieldAddr t x f=>exact akW h (j x (by simp[Op.operands])) (hK.kp hr)
 |field t x f=>exact akY h (j x (by simp[Op.operands])) (hK.kp hr)
 |indexAddr t x i=>exact ak3 h (j x (by simp[Op.operands])) (j i (by simp[Op.operands])) (hK.kp hr)
 |index t x i=>exact ak8 h (j x (by simp[Op.operands])) (j i (by simp[Op.operands])) (hK.kp hr)
 |extract t i=>exact akU h (j t (by simp[Op.operands])) (hK.kp hr)
 |range t x=>exact alx h hr (j x (by simp[Op.operands])) hK
 |next x b=>
  cases b with
  |true=>cases h
  |false=>exact afP h hr (j x (by simp[Op.operands])) hK
 |entry x=>exact ac3 h hr (j x (by simp[Op.operands])) (hK.kp hr)
 |call c=>
  have u:lg ρ (c.args.toList.map α) (c.args.toList.map β):=lg.map λx hx=>j x (by simp[Op.operands,Call.operands];exact .inr (by simpa using hx));unfold ccC at h;dsimp only at h ⊢;split at h
  ·rename_i x hc;have hx:VR ρ (α x) (β x):=j x (by simp[Op.operands,Call.operands,hc]);rw[hc];split at h
   ·rename_i f;obtain⟨sh,h1,h2,h3⟩:=aeG hcb h hl hr u hK;dsimp only;rw[h1];dsimp only;rw[h2,cond_true];exact h3
   ·rename_i y hn;obtain⟨sh,h1,h3⟩:=akL hcb h hl hr hx u hK
    cases x with
    |func f=>exact absurd rfl (hn f)
    |_=>
     dsimp only;rw[h1];exact h3
  ·rename_i b hc;rw[hc];exact ako h hr u hK
  ·rename_i x name hc;have hx:VR ρ (α x) (β x):=j x (by simp[Op.operands,Call.operands,hc]);rw[hc];dsimp only;unfold ivC at h;split at h
   ·rename_i t v hv;rw[hv] at hx;split at h
    ·rename_i d f hd hm;obtain⟨hp,h⟩:Jr d=false/\clC P cb _ f (v::_) s k=true:=by
      cases hq:Jr d with
      |true=>rw[hq] at h;cases h
      |false=>rw[hq] at h;exact⟨rfl,h⟩
     generalize β x=bx at hx
     cases hx with
     |ifc _ hx=>
     obtain⟨sh,h1,h2,h3⟩:=aeG hcb h hl hr (.cons hx u) hK;rw[h1];dsimp only;unfold agN;dsimp only;rw[hd,hm];dsimp only;rw[hp,h2];exact h3
    ·cases h
   ·cases h
 |_=>cases h
end
end Gp.Rn
end
section
namespace Gp.Rn
open Go Gp
theorem Nk (s:St) (b:AB):Dv s b (λ_ _=>false)=false:=by
 cases h:Dv s b (λ_ _=>false) with
 |false=>rfl
 |true=>obtain⟨_,_,g,_⟩:=nZ h;cases g
theorem CP (s:St) (i:Nat) (b:AB):CO s i b (λ_=>false)=false:=by
 cases h:CO s i b (λ_=>false) with
 |false=>rfl
 |true=>obtain⟨_,g,_⟩:=pY h;cases g
theorem alH (cs:List AV) (o:Nat) (vs:List AV):ZG cs o vs (λ_=>false)=false:=by
 cases h:ZG cs o vs (λ_=>false) with
 |false=>rfl
 |true=>obtain⟨_,g,_⟩:=PS h;cases g
theorem WB (n:Nat):fN n (λ_=>false)=false:=by cases n<;>rfl
theorem ae5 (n:Int):fI n (λ_=>false)=false:=by cases n<;>exact WB _
theorem ae4 (n:Bool):fB n (λ_=>false)=false:=by cases n<;>rfl
theorem h_ (a:Bool):cond a false false=false:=by cases a<;>rfl
theorem agv (s:St) (i o:Nat) (vs:List AV):wrC s i o vs (λ_=>false)=false:=by
 unfold wrC;split<;>simp only[CP,alH,h_]
theorem akk (size bytes zl:Nat) (x:AV) (n:Nat) (vs:List AV) (s:St):VI size bytes zl x n vs s (λ_ _=>false)=false:=by
 unfold VI;simp only[Nk,agv,CP,h_,WB]
 repeat' split
 all_goals simp only[h_,WB]
 all_goals (repeat' split)
 all_goals simp only[h_,WB]
theorem ak6 (op:BinOp) (kd:IntKind) (a b:Int):afq op kd a b (λ_=>false)=false:=by
 cases op<;>simp only[afq,ae5,ae4,h_]
theorem alL (op:BinOp) (a b:ByteArray):agh op a b (λ_=>false)=false:=by
 cases op<;>simp only[agh,ae4,h_]
theorem akp (P:Program) (op:BinOp) (t:TypeId) (x y:AV):aer P op t x y (λ_=>false)=false:=by
 unfold aer;simp only[ae5,ae4,ak6,alL,h_]
 repeat' split
 all_goals simp only[h_]
 all_goals (repeat' split)
 all_goals simp only[h_]
theorem anq (op:UnOp) (x:AV):unC op x (λ_=>false)=false:=by
 unfold unC;split<;>simp only[ae5,ae4]
theorem alr (α:Operand->AV) (x:Option Operand) (d:Int):NC α x d (λ_=>false)=false:=by
 unfold NC
 repeat' split
 all_goals rfl
theorem alN (x:AV) (size:Nat) (l h:Int) (s:St):agj x size l h s (λ_=>false)=false:=by
 unfold agj;simp only[WB,h_]
 repeat' split
 all_goals simp only[h_]
 all_goals (repeat' split)
 all_goals simp only[h_]
theorem ait (x:AV) (size:Nat) (l h m:Int) (s:St):ZI x size l h m s (λ_=>false)=false:=by
 unfold ZI;simp only[WB,h_]
 repeat' split
 all_goals simp only[h_]
theorem agd (P:Program) (t:TypeId) (x:AV) (α:Operand->AV) (lo hi mx:Option Operand) (s:St):SA P t x α lo hi mx s (λ_=>false)=false:=by
 unfold SA;simp only[WB,h_,alr,alN,ait]
 repeat' split
 all_goals simp only[h_]
 all_goals (repeat' split)
 all_goals simp only[h_]
theorem ag_ (P:Program) (a b:TypeId) (x:AV) (s:St):Yw P a b x s (λ_ _=>false)=false:=by
 unfold Yw;simp only[Nk,h_,ae5]
 repeat' split
 all_goals rfl
theorem ah7 (d:TypeDesc) (size off:Nat) (cs:List AV):Vf d size off cs (λ_=>false)=false:=by
 unfold Vf;split<;>simp only[h_]
theorem ak1 (P:Program) (kt:TypeId) (m key z:AV) (s:St):adh P kt m key z s (λ_ _=>false)=false:=by
 unfold adh
 repeat' split
 all_goals rfl
theorem alC (P:Program) (kt:TypeId) (m key v:AV) (s:St):abe P kt m key v s (λ_=>false)=false:=by
 unfold abe;simp only[CP]
 repeat' split
 all_goals simp only[h_]
 all_goals (repeat' split)
 all_goals simp only[h_]
theorem akO (P:Program) (kt:TypeId) (m key:AV) (s:St):aeS P kt m key s (λ_=>false)=false:=by
 unfold aeS;simp only[CP]
 repeat' split
 all_goals rfl
theorem ahX (x:AV) (s:St):Y6 x s (λ_ _=>false)=false:=by
 unfold Y6;simp only[CP]
 repeat' split
 all_goals simp only[h_]
 all_goals (repeat' split)
 all_goals simp only[h_]
theorem aeY (x:AV) (s:St):QB x s (λ_=>false)=false:=by
 unfold QB
 repeat' split
 all_goals simp only[h_]
 all_goals (repeat' split)
 all_goals simp only[h_]
theorem abU (mx:Bool):∀(r:List AV) (x:Int) (kd:IntKind),QM mx x r kd (λ_=>false)=false
 |[],x,kd=>ae5 _
 |a::r,x,kd=>by
  unfold QM;split
  ·rename_i he;cases he
  ·rename_i he;cases he;exact abU mx _ _ _
  ·rfl
theorem aml (P:Program) (b:Builtin) (ts:List TypeId) (args:List AV) (s:St):biC P b ts args s (λ_ _=>false)=false:=by
 unfold biC;simp only[WB,abU,akk,agv,akO,h_]
 repeat' split
 all_goals simp only[h_]
 all_goals (repeat' split)
 all_goals simp only[h_]
structure CbF (cb:Cb):Prop where
 call:∀f args s,cb.call f args s (λ_ _=>false)=false
 yld:∀l args s,cb.yld l args s (λ_ _=>false)=false
theorem amJ:CbF cb0:=⟨λ_ _ _=>rfl,λ_ _ _=>rfl⟩
section
variable (P:Program) {cb:Cb} (hcb:CbF cb)
 include hcb
theorem amK (ty:TypeId) (α:Operand->AV) (c:Callee) (ts:List TypeId) (args:List AV) (s:St):ccC P cb ty α c ts args s (λ_ _=>false)=false:=by
 unfold ccC ivC clC cvC;simp only[aml,h_,hcb.call,hcb.yld]
 repeat' split
 all_goals simp only[h_]
theorem ana (op:Op) (ty:TypeId) (α:Operand->AV) (s:St):opC P cb op ty α s (λ_ _=>false)=false:=by
 cases op
 case call c=>exact amK P hcb ..
 case makeMap t r=>cases r<;>simp only[opC,ali,Nk]
 case next x b=>cases b<;>simp only[opC,ahX]
 all_goals simp only[opC,ab9,VF,ag5,VQ,Po,ldC,stC,nlC,alh,ab4,alU,ab5,ahS,alj,faC,fdC,iaC,ixC,exC,rgC,ahi,ab6,ahR,asC,ae4,Nk,CP,agv,akp,anq,ag_,ak1,alC,agd,ah7,aeY,WB,h_]
 all_goals (repeat' split)
 all_goals simp only[h_]
 all_goals (repeat' split)
 all_goals simp only[h_]
theorem L9 (nt:Nat) (ops:List Oper) (o:Oper) (e:AE) (s:St):IX P cb nt ops o e s (λ_ _=>false)=false:=by
 unfold IX YD;simp only[ana P hcb,h_]
 repeat' split
 all_goals simp only[h_]
 all_goals (repeat' split)
 all_goals simp only[h_]
theorem aa5 (nt:Nat) (ops:List Oper):∀(l:List Oper) (e:AE) (s:St),adL P cb nt ops l e s (λ_ _=>false)=false
 |[],_,_=>rfl
 |o::r,e,s=>by
  rw[opsC_cons];simp only[aa5 nt ops r,L9 P hcb]
theorem ahe {nt:Nat} {ops:List Oper} {pbs:List Nat} {prev:DrT} (hp:∀a b c d e s,prev a b c d e s (λ_ _ _=>false)=false) (l acc:List (Nat×Nat)) (done:List Nat) (ld:List (Nat×Shape×AV×AV)) (e:AE) (s:St) (x:Nat×Oper) (r:List (Nat×Oper)):
  IC P cb nt ops pbs prev l acc done ld e s (λ_ _ _=>false) (x::r)=false:=by
 unfold IC;simp only[hp,h_,L9 P hcb,Bool.false_and]
theorem Wq (nt:Nat) (ops:List Oper) (pbs:List Nat):∀(n:Nat) (rp:Option (List (Nat×Nat))) (acc:List (Nat×Nat)) (done:List Nat) (ld:List (Nat×Shape×AV×AV)) (e:AE) (s:St),Qy P cb nt ops pbs n rp acc done ld e s (λ_ _ _=>false)=false
 |0,_,_,_,_,_,_=>rfl
 |n+1,rp,acc,done,ld,e,s=>by
  have ih:=Wq nt ops pbs n;show Qx P cb nt ops pbs (Qy P cb nt ops pbs n) rp acc done ld e s (λ_ _ _=>false)=false;generalize Qy P cb nt ops pbs n=prev at ih;unfold Qx aeU;split
  ·rename_i i o hne;refine Eq.trans (congrArg (IX P cb nt ops o e s) (funext λe'=>funext λs'=> ?_)) (L9 P hcb nt ops o e s);split
   ·exact ih ..
   ·rfl
  ·split
   ·exact h_ _
   ·split
    ·simp only[Bool.and_false,ih,h_,L9 P hcb]
    ·exact ahe P hcb ih ..
end
end Gp.Rn
end
section
namespace Gp.Rn
open Go Gp
def KE (lp:Bool) (w0:World) (ρ:Nm) (s:St) (w:World) (k:AE->St->Bool) (K:Env->b_):Prop:=
 ∀e' s',k e' s'=true->∀ρ' w' env',Le ρ ρ'->Rel w0 ρ' s' w'->ER ρ' e' env'->(lp=true->Lp ρ s w s' w')->K env' w'
section
variable {lp:Bool} {w0:World} {ρ0:Nm} {P:Program} {cb:Cb} {nt:Nat}
theorem ZH {g:Bool} {v:Value} {K:Value->Prop} (h:K v):split g v K:=by
 unfold split
 cases g with
 |false=>exact h
 |true=>
  cases v with
  |bool b=>cases b<;>exact h
  |_=>exact h
theorem YE (hcb:PY lp P w0 ρ0 cb) {o:Oper} {g:Bool} {e:AE} {env:Env} {s:St} {w:World} {ρ:Nm} {k:AE->St->Bool} {K:Env->b_} (h:YD P cb nt o e s k=true) (hl:Le ρ0 ρ) (hr:Rel w0 ρ s w) (he:ER ρ e env) (hK:KE lp w0 ρ s w k K):qX P nt o g env w K:=by
 unfold YD at h;split at h
 ·rename_i x hm;split at h
  ·rename_i v hv;obtain⟨hd,h⟩:=f_ h;obtain⟨u,h1,h2⟩:=QC he hv;have j:split g (ev env x) (λv'=>K (env.put o.dst v') w):=ZH (by
    have:ev env x=u:=by unfold ev;rw[h1];rfl
    rw[this];exact hK _ _ h ρ w _ (Le.refl ρ) hr (he.put o.dst h2) λ_=>Lp.refl ρ s w)
   have z:OY env [x]=true:=by unfold OY;rw[h1];rfl
   unfold qX uK;generalize hop:o.op=op at hm
   cases op<;>first|(cases hm)|skip
   ·show cond (OY env [x] && nR nt o.dst) _ _;rw[z,hd,Bool.and_self,cond_true];exact j
   ·show cond (OY env [x] && nR nt o.dst) _ _;rw[z,hd,Bool.and_self,cond_true];exact j
  ·cases h
 ·obtain⟨hd,h⟩:=f_ h;split at h
  ·rename_i us has;obtain⟨h1,h2⟩:=ae3 he has;unfold qX;rw[h1,hd,Bool.and_self,cond_true];exact alp hcb h hl hr h2 λv s' hk ρ' w' v' l' r' hv p'=>ZH (hK _ _ hk ρ' w' _ l' r' ((he.mono l').put o.dst hv) p')
  ·cases h
theorem L_ (hcb:PY lp P w0 ρ0 cb) {ops:List Oper} {o:Oper} {g:Bool} {e:AE} {env:Env} {s:St} {w:World} {ρ:Nm} {k:AE->St->Bool} {K:Env->b_} (h:IX P cb nt ops o e s k=true) (hl:Le ρ0 ρ) (hr:Rel w0 ρ s w) (he:ER ρ e env) (hK:KE lp w0 ρ s w k K):mY P nt ops o g env w K:=by
 unfold IX at h;unfold mY;split at h
 ·rename_i hg;rw[hg];exact YE hcb h hl hr he hK
 ·rename_i j want hg;rw[hg];dsimp only;split at h
  ·rename_i d hd;rw[hd];dsimp only;split at h
   ·rename_i t ht;obtain⟨u,h1,h2⟩:=he d _ ht
    cases h2
    rw[h1];dsimp only
    cases hw:(t==want) with
    |true=>rw[hw,cond_true] at h;exact YE hcb h hl hr he hK
    |false=>
     rw[hw,cond_false] at h;obtain⟨h3,h⟩:=f_ h;rw[cond_false,h3,cond_true];exact hK _ _ h ρ w _ (Le.refl ρ) hr (he.put o.dst (.kW .nil)) λ_=>Lp.refl ρ s w
   ·rename_i vs ht;obtain⟨u,h1,h2⟩:=he d _ ht
    cases h2
    rw[h1];dsimp only;obtain⟨h3,h⟩:=f_ h;rw[h3,cond_true];exact hK _ _ h ρ w _ (Le.refl ρ) hr (he.put o.dst (.kW .nil)) λ_=>Lp.refl ρ s w
   ·cases h
  ·cases h
theorem KE.step {ρ ρ':Nm} {s s':St} {w w':World} {k:AE->St->Bool} {K:Env->b_} (hK:KE lp w0 ρ s w k K) (l:Le ρ ρ') (p:lp=true->Lp ρ s w s' w'):KE lp w0 ρ' s' w' k K:=
 λe1 s1 h ρ1 w1 env1 l1 r1 he p1=>hK e1 s1 h ρ1 w1 env1 (l.trans l1) r1 he λhl=>(p hl).trans (p1 hl) l
theorem Xx (hcb:PY lp P w0 ρ0 cb) {ops:List Oper} {k:AE->St->Bool} {K:Env->b_}:∀{l:List Oper} {i:Nat} {e:AE} {env:Env} {s:St} {w:World} {ρ:Nm},adL P cb nt ops l e s k=true->Le ρ0 ρ->Rel w0 ρ s w->ER ρ e env->KE lp w0 ρ s w k K->RU P nt ops i l env w K
 |[],i,e,env,s,w,ρ,h,hl,hr,he,hK=>hK _ _ h ρ w env (Le.refl ρ) hr he λ_=>Lp.refl ρ s w
 |o::r,i,e,env,s,w,ρ,h,hl,hr,he,hK=>by
  rw[opsC_cons] at h;unfold RU;exact L_ hcb h hl hr he λe' s' hk ρ' w' env' l' r' he' p'=>Xx hcb hk (hl.trans l') r' he' (hK.step l' p')
def LdR (ρ:Nm) (ld:List (Nat×Shape×AV×AV)) (ld':List (Nat×Shape×Value×Value)):Prop:=∀i sh a v,(i,sh,a,v)∈ld'->∃b u,(i,sh,b,u)∈ld/\VR ρ b a/\VR ρ u v
theorem LdR.mono {ρ ρ':Nm} {ld:List (Nat×Shape×AV×AV)} {ld':List (Nat×Shape×Value×Value)} (h:LdR ρ ld ld') (hl:Le ρ ρ'):LdR ρ' ld ld':=λi sh a v hm=>by
 obtain⟨b,u,h1,h2,h3⟩:=h i sh a v hm;exact⟨b,u,h1,h2.mono hl,h3.mono hl⟩
theorem L6 {a:Addr} {w:World} {rest:Prop}:∀(vs:List Value) (i:Nat),(∀j,j<vs.length->w.cell? (a.add (i+j))=vs[j]?)->rest->zL vs w a i rest
 |[],_,_,h=>h
 |v::vs,i,hc,h=>⟨by have:=hc 0 (by simp);simpa using this,L6 vs (i+1) (λj hj=>by
   have:=hc (j+1) (by simpa using hj);rw[show i+1+j=i+(j+1) by omega];simpa using this) h⟩
theorem adW {ρ:Nm} {s:St} {w:World} {sh:Shape} {a u:AV} {a' u':Value} {rest:Prop} (h:XK sh a u s=true) (hr:Rel w0 ρ s w) (ha:VR ρ a a') (hu:VR ρ u u') (hp:rest):DC sh a' u' w rest:=by
 unfold XK at h;split at h
 ·rename_i kd i o
  cases ha with
  |ptr hx=>
  split at h
  ·rename_i v hv;obtain⟨us,g1,g2,g3,_⟩:=Eo hr hx hv
   cases g1 with
   |cons g g'=>
   cases g'
   obtain⟨rfl,hd⟩:=Bz _ _ h;have:=g3 0 (by simp);rw[fM] at this;refine⟨?_,hp⟩;rw[hd ρ _ _ hu g];exact this
  ·cases h
 ·rename_i ks i o
  cases ha with
  |ptr hx=>
  split at h
  ·rename_i vs
   cases hu with
   |agg hu=>
   split at h
   ·rename_i us hv;obtain⟨us',g1,g2,g3,_⟩:=Eo hr hx hv;obtain⟨rfl,hd⟩:=uU _ _ h;have:=hd ρ _ _ hu g1;subst this;exact L6 _ 0 (λj hj=>by rw[Nat.zero_add];exact g3 j hj) hp
   ·cases h
  ·cases h
 ·cases h
theorem JW {pb:Nat} {s:St}:∀{ld:List (Nat×Shape×AV×AV)},JV pb s ld=true->∀i sh a u,(i,sh,a,u)∈ld->Nat.testBit pb i=false->XK sh a u s=true
 |[],_,_,_,_,_,hm,_=>by cases hm
 |(j,sh',b,v)::ld,h,i,sh,a,u,hm,hb=>by
  unfold JV at h
  cases ht:Nat.testBit pb j with
  |true=>
   rw[ht,cond_true] at h;rcases List.mem_cons.1 hm with e|hm
   ·cases e;rw[ht] at hb;cases hb
   ·exact JW h i sh a u hm hb
  |false=>
   rw[ht,cond_false,and_eq_true] at h;rcases List.mem_cons.1 hm with e|hm
   ·cases e;exact h.1
   ·exact JW h.2 i sh a u hm hb
theorem SG {pb:Nat} {s:St} {w:World} {ρ:Nm} {ld:List (Nat×Shape×AV×AV)} {rest:Prop} (h:JV pb s ld=true) (hr:Rel w0 ρ s w) (hp:rest):∀{ld':List (Nat×Shape×Value×Value)},LdR ρ ld ld'->L8 pb w ld' rest
 |[],_=>hp
 |(i,sh,a,v)::ld',hl=>by
  have ih:=SG h hr hp (ld':=ld') λi sh a v hm=>hl i sh a v (mem_cons_of_mem _ hm);unfold L8
  cases ht:Nat.testBit pb i with
  |true=>exact ih
  |false=>
   obtain⟨b,u,h1,h2,h3⟩:=hl i sh a v (mem_cons_self ..);exact adW (JW h i sh b u h1 ht) hr h2 h3 ih
theorem afF {ops:List Oper} {i:Nat} {o:Oper} {e e':AE} {env env':Env} {ρ ρ':Nm} {ld ld1:List (Nat×Shape×AV×AV)} {ld':List (Nat×Shape×Value×Value)} (h:afE P ops i o e e' ld=some ld1) (hl:Le ρ ρ') (he:ER ρ e env) (he':ER ρ' e' env') (hd:LdR ρ ld ld'):LdR ρ' ld1 (FB P ops i o env env' ld'):=by
 unfold afE at h;unfold FB;split at h
 ·rename_i t x d ho z;rw[ho,z];dsimp only
  cases hg:Jq ops o env with
  |false=>
   rw[cond_false]
   cases hc:abX ops o e with
   |false=>rw[hc,cond_false] at h;cases h;exact hd.mono hl
   |true=>
    rw[hc,cond_true] at h;split at h
    ·split at h
     ·cases h
      intro j sh a v hm;obtain⟨b,u,h1,h2⟩:=(hd.mono hl) j sh a v hm;exact⟨b,u,mem_cons_of_mem _ h1,h2⟩
     ·cases h
    ·cases h;exact hd.mono hl
  |true=>
   have hc:abX ops o e=true:=by
    unfold Jq at hg;unfold abX;split
    ·rfl
    ·rename_i j want I;rw[I] at hg;dsimp only at hg;split
     ·rename_i d' hd';rw[hd'] at hg;dsimp only at hg;split
      ·rename_i b hb;obtain⟨u,h1,h2⟩:=he _ _ hb
       cases h2
       rw[h1] at hg;exact hg
      ·rename_i vs hb;obtain⟨u,h1,h2⟩:=he _ _ hb
       cases h2
       rw[h1] at hg
       cases hg
      ·rfl
     ·rfl
   rw[hc,cond_true] at h;rw[cond_true];split at h
   ·rename_i sh hs;rw[hs];dsimp only;split at h
    ·rename_i a v ha hv
     cases h
     obtain⟨a',g1,g2⟩:=QC he ha;obtain⟨v',g3,g4⟩:=he' _ _ hv;have e1:ev env x=a':=by unfold ev;rw[g1];rfl
     have e2:ev env' (.tmp d)=v':=by show (env'.get d).getD undef=v';rw[g3];rfl
     rw[e1,e2];intro j sh' b u hm;rcases List.mem_cons.1 hm with e|hm
     ·cases e
      exact⟨a,v,mem_cons_self ..,g2.mono hl,g4⟩
     ·obtain⟨b',u',h1,h2⟩:=(hd.mono hl) j sh' b u hm;exact⟨b',u',mem_cons_of_mem _ h1,h2⟩
    ·cases h
   ·rename_i hs
    cases h
    rw[hs];exact hd.mono hl
 ·rename_i hn
  cases h
  split
  ·rename_i t x d h1 h2;exact absurd h2 (hn t x d h1)
  ·exact hd.mono hl
theorem X7 {α:Type} {f:α->Prop}:∀{l:List α},(∀x∈l,f x)->allOf f l
 |[],_=>trivial
 |[x],h=>h x (mem_cons_self ..)
 |x::y::l,h=>⟨h x (mem_cons_self ..),X7 λz hz=>h z (mem_cons_of_mem _ hz)⟩
theorem abQ:∀{a b:List (AV×AV×Nat)},ahg a b=true->a=b
 |[],[],_=>rfl
 |[],_::_,h=>by cases h
 |_::_,[],h=>by cases h
 |(a,b,n)::l,(a',b',n')::l',h=>by
  unfold ahg at h;rw[and_eq_true,and_eq_true,and_eq_true] at h;rw[(Bz _ _ h.1).1,(Bz _ _ h.2.1).1,Nat.eq_of_beq_eq_true h.2.2.1,abQ h.2.2.2]
theorem ab7:∀{a b:List Nat},ah0 a b=true->a=b
 |[],[],_=>rfl
 |[],_::_,h=>by cases h
 |_::_,[],h=>by cases h
 |a::l,b::l',h=>by
  unfold ah0 at h;rw[and_eq_true] at h;rw[Nat.eq_of_beq_eq_true h.1,ab7 h.2]
theorem abD {a b:AB} (h:aac a b=true):a=b:=by
 cases a with
 |row cs z p=>
  cases b<;>first|cases h|skip
  unfold aac at h;rw[and_eq_true,and_eq_true] at h;rw[(uU _ _ h.1).1,Nat.eq_of_beq_eq_true h.2.1];have:∀a b:Bool,bEq a b=true->a=b:=by intro a b;cases a<;>cases b<;>intro h<;>first|rfl|cases h
  rw[this _ _ h.2.2]
 |map es c=>
  cases b<;>first|cases h|skip
  unfold aac at h;rw[and_eq_true] at h;rw[abQ h.1,Nat.eq_of_beq_eq_true h.2]
 |iter m a l c=>
  cases b<;>first|cases h|skip
  unfold aac at h;rw[and_eq_true,and_eq_true,and_eq_true] at h;have:∀a b:Option Nat,oEq a b=true->a=b:=by
   intro a b h
   cases a<;>cases b<;>first|rfl|cases h|skip
   rw[Nat.eq_of_beq_eq_true h]
  rw[this _ _ h.1,Nat.eq_of_beq_eq_true h.2.1,ab7 h.2.2.1,Nat.eq_of_beq_eq_true h.2.2.2]
 |loop st j=>
  cases b<;>first|cases h|skip
  unfold aac at h;rw[and_eq_true] at h;have h1:∀a b:LoopState,lsE a b=true->a=b:=by intro a b;cases a<;>cases b<;>intro h<;>first|rfl|cases h
  have h2:∀a b:Jmp,jEq a b=true->a=b:=by
   intro a b h
   cases a<;>cases b<;>first|rfl|cases h|skip
   unfold jEq at h;rw[Nat.eq_of_beq_eq_true h]
  rw[h1 _ _ h.1,h2 _ _ h.2]
 |mark=>cases b<;>first|rfl|cases h
 |dead=>cases b<;>first|rfl|cases h
theorem PV:∀{a b:Tr},UA a b=true->a=b
 | .lf,.lf,_=>rfl
 | .lf,.nd _ _ _,h=>by cases h
 | .nd _ _ _,.lf,h=>by cases h
 | .nd v l r,.nd v' l' r',h=>by
  unfold UA at h;rw[and_eq_true,and_eq_true] at h;rw[PV h.2.1,PV h.2.2];have h1:=h.1;split at h1
  ·rfl
  ·rw[abD h1]
  ·cases h1
theorem X3 {e e':AE}:∀{l:AE},NT e e' l=true->∀t v,(t,v)∈l->∃a,e.get t=some a/\e'.get t=some a
 |[],_,_,_,hm=>by cases hm
 |(t,v)::r,h,u,x,hm=>by
  unfold NT at h;rw[and_eq_true] at h;rcases List.mem_cons.1 hm with g|hm
  ·cases g
   have h1:=h.1;split at h1
   ·rename_i a b ha hb;have:=(Bz _ _ h1).1;subst this;exact⟨a,ha,hb⟩
   ·cases h1
  ·exact X3 h.2 u x hm
theorem AE.mem:∀{e:AE} {t:Nat} {v:AV},e.get t=some v->∃u,(t,u)∈e
 |[],t,v,h=>by rw[AE.get_nil] at h;cases h
 |(s,u)::e,t,v,h=>by
  rw[AE.jg] at h;split at h
  ·rename_i hs;subst hs;exact⟨u,mem_cons_self ..⟩
  ·obtain⟨u',hu⟩:=AE.mem h;exact⟨u',mem_cons_of_mem _ hu⟩
theorem ER.sub {ρ:Nm} {e e':AE} {env:Env} (h:NT e e' e=true) (he:ER ρ e' env):ER ρ e env:=λt v g=>by
 obtain⟨u,hu⟩:=AE.mem g;obtain⟨a,h1,h2⟩:=X3 h t u hu;rw[g] at h1
 cases h1
 exact he t v h2
def KD' (lp:Bool) (w0:World) (ρ:Nm) (s:St) (w:World) (k:KD) (K:Env->b_):Prop:=
 ∀e' s' a,k e' s' a=true->∀ρ' w' env',Le ρ ρ'->Rel w0 ρ' s' w'->ER ρ' e' env'->(lp=true->Lp ρ s w s' w')->K env' w'
theorem KD'.step {ρ ρ':Nm} {s s':St} {w w':World} {k:KD} {K:Env->b_} (hK:KD' lp w0 ρ s w k K) (l:Le ρ ρ') (p:lp=true->Lp ρ s w s' w'):KD' lp w0 ρ' s' w' k K:=
 λe1 s1 a h ρ1 w1 env1 l1 r1 he p1=>hK e1 s1 a h ρ1 w1 env1 (l.trans l1) r1 he λhl=>(p hl).trans (p1 hl) l
def amb (lp:Bool) (P:Program) (w0:World) (ρ0:Nm) (nt:Nat) (ops:List Oper) (pbs:List Nat) (n:Nat) (prev:DrT):Prop:=
 ∀rp acc done ld ld' e s k,prev rp acc done ld e s k=true->∀ρ w env K,Le ρ0 ρ->Rel w0 ρ s w->ER ρ e env->LdR ρ ld ld'->KD' lp w0 ρ s w k K->pV P nt ops pbs n done ld' env w K
theorem Qw (hcb:PY lp P w0 ρ0 cb) {ops:List Oper} {pbs:List Nat} {n:Nat} {prev:DrT} (hp:amb lp P w0 ρ0 nt ops pbs n prev) {l acc:List (Nat×Nat)} {done:List Nat} {ld:List (Nat×Shape×AV×AV)} {ld':List (Nat×Shape×Value×Value)} {e:AE} {s:St} {k:KD} {ρ:Nm} {w:World} {env:Env} {K:Env->b_}
  (hl:Le ρ0 ρ) (hr:Rel w0 ρ s w) (he:ER ρ e env) (hd:LdR ρ ld ld') (hK:KD' lp w0 ρ s w k K):∀{es:List (Nat×Oper)},IC P cb nt ops pbs prev l acc done ld e s k es=true->
   ∀x∈es,mY P nt ops x.2 (Lm ops x.1) env w λenv' w'=>L8 (pbs.getD x.1 0) w' ld' (pV P nt ops pbs n (x.1::done) ld' env' w' K)
 |[],_,x,hx=>by cases hx
 |y::r,h,x,hx=>by
  unfold IC at h;rw[and_eq_true] at h;rcases List.mem_cons.1 hx with rfl|hx
  ·refine L_ hcb h.1 hl hr.names he λe' s' hk ρ' w' env' l' r' he' p'=> ?_;obtain⟨h1,hk⟩:=f_ hk;exact SG h1 r' (hp _ _ _ _ _ _ _ _ hk ρ' w' env' K (hl.trans l') r' he' (hd.mono l') (hK.step l' p')) (hd.mono l')
  ·exact Qw hcb hp hl hr he hd hK h.2 x hx
theorem Yy (hcb:PY lp P w0 ρ0 cb) (u:CbF cb) {ops:List Oper} {pbs:List Nat}:∀n,amb lp P w0 ρ0 nt ops pbs n (Qy P cb nt ops pbs n)
 |0=>λrp acc done ld ld' e s k h=>by cases h
 |n+1=>by
  intro rp acc done ld ld' e s k h ρ w env K hl hr he hd hK;have ih:=Yy hcb u (ops:=ops) (pbs:=pbs) n;have ihf:=Wq P u nt ops pbs n;have h:Qx P cb nt ops pbs (Qy P cb nt ops pbs n) rp acc done ld e s k=true:=h;generalize Qy P cb nt ops pbs n=prev at ih ihf h;unfold pV;unfold Qx at h;split at h
  ·rename_i i o z;rw[z];dsimp only;refine L_ hcb h hl hr he λe' s' hk ρ' w' env' l' r' he' p'=> ?_;split at hk
   ·rename_i ld1 J;exact ih _ _ _ _ _ _ _ _ hk ρ' w' env' K (hl.trans l') r' he' (afF J l' he he' hd) (hK.step l' p')
   ·cases hk
  ·rename_i z;rw[z];dsimp only;split at h
   ·rename_i I;rw[I];dsimp only;obtain⟨h1,h⟩:=f_ h;rw[h1,cond_true];exact hK _ _ _ h ρ w env (Le.refl ρ) hr he λ_=>Lp.refl ρ s w
   ·rename_i i o es I;rw[I];dsimp only;refine X7 (f:=λ(x:Nat×Oper)=>mY P nt ops x.2 (Lm ops x.1) env w λenv' w'=>L8 (pbs.getD x.1 0) w' ld' (pV P nt ops pbs n (x.1::done) ld' env' w' K)) λx hx=> ?_;unfold aeU at h;split at h
    ·
     by_cases hQ:∃e0 s0 acc0,(IC P cb nt ops pbs prev acc0 [] done ld e s (λe1 s1 _=>NT e0 e1 e0 && UA s0.h s1.h) es && k e0 s0 acc0)=true
     ·obtain⟨e0,s0,acc0,hq⟩:=hQ;rw[and_eq_true] at hq;rcases List.mem_cons.1 hx with rfl|hx
      ·refine L_ hcb h hl hr he λe' s' hk ρ' w' env' l' r' he' p'=> ?_;obtain⟨h1,hk⟩:=f_ hk;refine SG h1 r' (ih _ _ _ _ _ _ _ _ hk ρ' w' env' K (hl.trans l') r' he' (hd.mono l') ?_) (hd.mono l');intro e1 s1 a1 hk1;rw[and_eq_true] at hk1;exact(hK.step l' p') e1 s1 a1 hk1.2
      ·refine Qw hcb ih hl hr he hd ?_ hq.1 x hx;intro e1 s1 a1 hk1 ρ1 w1 env1 l1 r1 he1 p1;rw[and_eq_true] at hk1;have hh:=PV hk1.2;have r2:Rel w0 ρ1 ⟨s1.h,s0.n⟩ w1:=r1.names;rw[<- hh] at r2;refine hK e0 s0 acc0 hq.2 ρ1 w1 env1 l1 r2 (he1.sub hk1.1) λU=> ?_;have:=p1 U;intro j y st p g1 g2;obtain⟨q1,q2⟩:=this j y st p g1 g2;rw[<- hh] at q1;exact⟨q1,q2⟩
     ·exfalso;have hz:∀e0 s0 acc0,(IC P cb nt ops pbs prev acc0 [] done ld e s (λe1 s1 _=>NT e0 e1 e0 && UA s0.h s1.h) es && k e0 s0 acc0)=false:=λe0 s0 acc0=>by
       cases hb:(IC P cb nt ops pbs prev acc0 [] done ld e s (λe1 s1 _=>NT e0 e1 e0 && UA s0.h s1.h) es && k e0 s0 acc0) with
       |false=>rfl
       |true=>exact absurd ⟨e0,s0,acc0,hb⟩ hQ
      simp only[hz,ihf,h_,L9 P u] at h
      cases h
    ·exact Qw hcb ih hl hr he hd hK h x hx
end
end Gp.Rn
end
section
namespace Gp.Rn
open Go Gp
def DR (ρ:Nm):List Nat->List Nat->Prop
 |[],[]=>True
 |i::l,b::m=>(∃x,ρ i=some x/\x.b=b)/\DR ρ l m
 |_,_=>False
theorem DR.mono {ρ ρ':Nm} (hl:Le ρ ρ'):∀{l m:List Nat},DR ρ l m->DR ρ' l m
 |[],[],_=>trivial
 |i::l,b::m,h=>by
  obtain⟨⟨x,h1,h2⟩,h3⟩:=h;exact⟨⟨x,hl _ _ h1,h2⟩,DR.mono hl h3⟩
 |[],_::_,h=>h.elim
 |_::_,[],h=>h.elim
def RR (ρ:Nm):Option Nat->Option Nat->Prop
 |none,none=>True
 |some l,some b=>∃x,ρ l=some x/\x.b=b
 |_,_=>False
theorem RR.mono {ρ ρ':Nm} (hl:Le ρ ρ') {r r':Option Nat} (h:RR ρ r r'):RR ρ' r r':=by
 cases r<;>cases r'<;>first|exact h|exact h.elim|skip
 obtain⟨x,h1,h2⟩:=h;exact⟨x,hl _ _ h1,h2⟩
def aiM (P:Program) (i:abA) (env:Env) (l:Nat) (x':zM i.ks) (W:World) (Kb:Exit->b_):Prop:=
 den P i.nt i.assign (some l) i.x (KY i.ps (encR i.ks x')++env) [] W λe env1 _ W1=>match e with
  | .normal=>W1.heap[l]? =W.heap[l]? /\den P i.nt i.body (some l) i.y env1 [] (fF W1 l) λe _ _ W2=>Kb e W2
  |_=>False
def YS (P:Program) (x:Loc) (i:abA) (env:Env):Prop:=∀(xs:zM i.ks) (W:World) (p:Option Code) (R:Bool->b_),x.L .ready p W->
 aiM P i env x.b xs W (λe W'=>x.L .busy p W'/\∃j,yM e=some j/\R (vM e) (gZ W' x.b (if vM e then .ready else .done) j))->BZ P x.b (encR i.ks xs) W R
def GR (P:Program) (ρ:Nm) (Γ:G9):Prop:=∀l i,Γ.get l=some i->∃x env,ρ l=some x/\ER ρ i.env env/\YS P x i env
theorem GR.mono {P:Program} {ρ ρ':Nm} {Γ:G9} (h:GR P ρ Γ) (hl:Le ρ ρ'):GR P ρ' Γ:=λl i g=>by
 obtain⟨x,env,h1,h2,h3⟩:=h l i g;exact⟨x,env,hl _ _ h1,h2.mono hl,h3⟩
def KCk (w0:World) (ρ:Nm) (k:KC) (K:Exit->Env->List Nat->b_):Prop:=
 ∀e ae ads s',k e ae ads s'=true->∀ρ' w' env' ds',Le ρ ρ'->Rel w0 ρ' s' w'->ER ρ' ae env'->DR ρ' ads ds'->K e env' ds' w'
theorem KCk.mono {w0:World} {ρ ρ':Nm} {k:KC} {K:Exit->Env->List Nat->b_} (h:KCk w0 ρ k K) (hl:Le ρ ρ'):KCk w0 ρ' k K:=
 λe ae ads s' hk ρ1 w' env' ds' l1=>h e ae ads s' hk ρ1 w' env' ds' (hl.trans l1)
def BU (P:Program) (w0:World) (prev:RunT):Prop:=∀nt c r r' an ae ads Γ s k,prev nt c r an ae ads Γ s k=true->∀ρ w env ds K,Rel w0 ρ s w->ER ρ ae env->DR ρ ads ds->GR P ρ Γ->RR ρ r r'->KCk w0 ρ k K->den P nt c r' an env ds w K
def abx (prev:RunT):Prop:=∀nt c r an ae ads Γ s,prev nt c r an ae ads Γ s (λ_ _ _ _=>false)=false
theorem Yi:∀(ds:List Nat) (s:St),DY ds s (λ_=>false)=false
 |[],_=>rfl
 |D::ds,s=>by
  unfold DY;simp only[Yi ds,CP];split<;>rfl
section
variable (P:Program) (A:Tab) {prev:RunT} (hp:abx prev)
 include hp
theorem abK (Γ:G9) (f:FuncId) (args:List AV) (s:St):Ak P A prev Γ f args s (λ_ _=>false)=false:=by
 unfold Ak;split
 ·rfl
 unfold VX;split
 ·split
  ·rename_i fn an _ _ _ c _;refine(congrArg (λq=>cond _ q false) ((congrArg (prev fn.ntmps c none an (aen 0 args) [] Γ s) (funext λe=>funext λenv=>funext λds=>funext λs'=> ?_)).trans (hp ..))).trans (h_ _);have h2:∀(rs:List ResultVar),(DY ds s' λs''=>match Sl P rs env s'' with
     |some vs=>false
     |none=>false)=false:=λrs=>by
     rw[show (λs''=>(match Sl P rs env s'' with
      |some vs=>false
      |none=>false:Bool))=λ_=>false from funext λs''=>by split<;>rfl]
     exact Yi _ _
   split<;>first|exact h2 _|rfl
  ·rfl
 ·rfl
 omit hp in
theorem akm (nt:Nat):∀(c:Code) (an:CY) (e:AE) (s:St),Tj P nt c an e s (λ_ _=>false)=false:=by
  intro c
  induction c with
  |region id ops draw=>intro an e s;unfold Tj;rw[aa5 P amJ];exact h_ draw|>.symm ▸ by cases draw<;>rfl
  |seq a b iha ihb=>
    intro an e s;unfold Tj;split
    ·simp only[ihb,iha]
    ·rfl
  |_=>intro an e s;rfl
theorem agx (Γ:G9) (l:Nat) (args:List AV) (s:St):SX P prev Γ l args s (λ_ _=>false)=false:=by
 unfold SX;split
 ·rename_i i p hi hl;refine(congrArg (λq=>cond _ q false) ?_).trans (h_ _);refine(congrArg (Tj P i.nt i.assign i.x (abS i.ps args++i.env) s) (funext λenv1=>funext λs1=> ?_)).trans (akm P ..);refine(congrArg (CO s1 l (.loop .busy p)) (funext λs2=> ?_)).trans (CP ..);refine(congrArg (prev i.nt i.body (some l) i.y env1 [] Γ s2) (funext λe=>funext λ_=>funext λ_=>funext λs3=> ?_)).trans (hp ..);simp only[CP]
  repeat' split
  all_goals simp only[h_]
  all_goals (repeat' split)
  all_goals simp only[h_]
 ·rfl
theorem aal (Γ:G9):CbF (aeD P A prev Γ):=⟨λf args s=>abK P A hp Γ f args s,λl args s=>agx P hp Γ l args s⟩
theorem afH (nt:Nat) (a:Code) (r:Option Nat) (x:CY) (st:List (Nat×Kind)) (base:AE) (Γ:G9):∀(n:Nat) (l:AE) (ds:List Nat) (s:St),Ub prev nt a r x st base Γ (λ_ _ _ _=>false) n l ds s=false
 |0,_,_,_=>rfl
 |n+1,l,ds,s=>by
  show Q9 prev nt a r x st base Γ (λ_ _ _ _=>false) (Ub prev nt a r x st base Γ (λ_ _ _ _=>false) n) l ds s=false;unfold Q9;refine(congrArg (prev nt a r x (l++base) ds Γ s) (funext λe=>funext λenv'=>funext λds'=>funext λs'=> ?_)).trans (hp ..);split
  ·split
   ·exact afH nt a r x st base Γ n ..
   ·rfl
  ·rfl
theorem aly (nt:Nat) (g:Operand) (ps:List Nat) (assign body:Code) (ks:List Shape) (x y:CY) (env:AE) (ds:List Nat) (Γ:G9) (m:Option Nat) (s:St):adR P A prev nt g ps assign body ks x y env ds Γ m s (λ_ _ _ _=>false)=false:=by
 unfold adR;split
 ·rename_i f first cap hv
  refine(congrArg (λq=>cond _ q false) ?_).trans (h_ _);refine(congrArg (Dv s (.loop .ready .no)) (funext λl=>funext λs1=> ?_)).trans (Nk ..);refine(congrArg (Ak P A prev ((l,⟨nt,ps,ks,x,y,assign,body,env⟩)::Γ) f (first++(.yld l::cap)) s1) (funext λrs=>funext λs2=> ?_)).trans (abK P A hp ..)
  split
  ·rename_i st p hg;have:(λ(s3:St)=>(match p with
      | .no=>false
      | .ret=>false
      | .ex id=>cond (vZ id (pX body)) false false:Bool))=λ_=>false:=by
    funext s3
    cases p<;>first|rfl|exact h_ _
   cases p<;>simp only[CP,h_]<;>cases lsE st .busy<;>rfl
  ·rfl
 ·rfl
theorem ag9:abx (abM P A prev):=by
 intro nt c r an ae ads Γ s
 cases c with
 |skip=>rfl
 |label _=>rfl
 |ret=>rfl
 |exit _=>rfl
 |region id ops draw=>
  unfold abM;dsimp only;unfold aie;rw[Wq P (aal P A hp Γ),aa5 P (aal P A hp Γ),h_,h_]
 |seq a b=>
  show af_ prev nt a b r an ae ads Γ s _=false;unfold af_;split
  ·rename_i x y;refine(congrArg (prev nt a r x ae ads Γ s) (funext λe=>funext λenv'=>funext λds'=>funext λs'=> ?_)).trans (hp ..);unfold alB;split
   ·exact hp ..
   ·rfl
  ·rfl
 |cond c a b=>
  show condC prev nt c a b r an ae ads Γ s _=false;unfold condC;split
  ·split
   ·rw[hp,hp,h_]
   ·rfl
  ·rfl
 |block id a=>
  show aey prev nt id a r an ae ads Γ s _=false;unfold aey;split
  ·rename_i x;refine(congrArg (prev nt a r x ae ads Γ s) (funext λe=>funext λenv'=>funext λds'=>funext λs'=> ?_)).trans (hp ..);unfold akH;split
   ·exact h_ _
   ·rfl
  ·rfl
 |scope a=>
  show prev nt a r an ae ads Γ s (af9 _)=false;refine(congrArg (prev nt a r an ae ads Γ s) (funext λe=>funext λenv'=>funext λds'=>funext λs'=> ?_)).trans (hp ..);unfold af9;split<;>rfl
 |loop a=>
  show lpC prev nt a r an ae ads Γ s _=false;unfold lpC;split
  ·split
   ·exact afH hp ..
   ·rfl
  ·rfl
 |rangeFunc g ps assign body=>
  show rfC P A prev nt g ps.toList assign body r an ae ads Γ s _=false;unfold rfC;simp only[aly P A hp,Nk]
  repeat' split
  all_goals simp only[h_]
  all_goals (repeat' split)
  all_goals simp only[h_]
 |_=>rfl
end
theorem aiW (P:Program) (A:Tab):∀n,abx (run P A n)
 |0=>λ_ _ _ _ _ _ _ _=>rfl
 |n+1=>ag9 P A (aiW P A n)
end Gp.Rn
end
section
namespace Gp.Rn
open Go Gp
theorem kS (x:Nat):∀l:List Nat,vZ x l=true↔x∈l
 |[]=>by simp[vZ]
 |y::r=>by
  unfold vZ;by_cases h:y=x
  ·rw[show Nat.beq y x=true by rw[h];exact beq_refl _,cond_true];simp[h]
  ·have hb:Nat.beq y x=false:=by
    cases hb:Nat.beq y x with
    |false=>rfl
    |true=>exact absurd (Nat.eq_of_beq_eq_true hb) h
   rw[hb,cond_false,kS x r,List.mem_cons];exact⟨.inr,λg=>g.resolve_left λe=>h e.symm⟩
inductive PE (ρ:Nm):AE->Env->Prop
 |nil:PE ρ [] []
 |cons {t a v l m} (h:VR ρ a v) (h':PE ρ l m):PE ρ ((t,a)::l) ((t,v)::m)
theorem PE.er {ρ:Nm} {l:AE} {m:Env} (h:PE ρ l m) {e:AE} {env:Env} (he:ER ρ e env):ER ρ (l++e) (m++env):=by
 induction h with
 |nil=>exact he
 |cons h _ ih=>exact ih.cons h _
section
variable {w0:World} {P:Program} {A:Tab} {prev:RunT}
theorem abG {ρ:Nm}:∀{i:Nat} {a:List AV} {v:List Value},lg ρ a v->PE ρ (aen i a) (DN i v)
 |_,[],_,h=>by cases h;exact .nil
 |i,x::a,_,h=>by
  cases h with
  |cons h h'=>exact .cons h (abG h')
theorem Yz {ρ:Nm}:∀{ps:List Nat} {a:List AV} {v:List Value},lg ρ a v->PE ρ (abS ps a) (KY ps v)
 |[],_,_,_=> .nil
 |p::ps,[],_,h=>by cases h;exact .nil
 |p::ps,x::a,_,h=>by
  cases h with
  |cons h h'=>exact .cons h (Yz h')
theorem UN {ρ:Nm} {K:b_}:∀{ads ds:List Nat} {s:St} {w:World} {k:St->Bool},DY ads s k=true->DR ρ ads ds->Rel w0 ρ s w->(∀s' w',k s'=true->Rel w0 ρ s' w'->K w')->wG ds w K
 |[],[],s,w,k,h,_,hr,hK=>hK s w h hr
 |D::ads,b::ds,s,w,k,h,hd,hr,hK=>by
  obtain⟨⟨x,hx,rfl⟩,hd⟩:=hd;unfold DY at h;split at h
  ·rename_i hg;obtain⟨s',h,p1,p2⟩:=pY h;refine⟨hr.br D _ x hg hx,UN h hd (hr.chg hx hg trivial p1 p2 (fV.jh w x.b _) trivial) hK⟩
  ·cases h
 |[],_::_,_,_,_,_,h,_,_=>h.elim
 |_::_,[],_,_,_,_,h,_,_=>h.elim
theorem PK {ρ:Nm} {s:St} {w:World} {e:AE} {env:Env} {φ:List Value->Prop} (hr:Rel w0 ρ s w) (he:ER ρ e env):∀{rs:List ResultVar} {vs:List AV},Sl P rs e s=some vs->(∀us,lg ρ vs us->φ us)->qL P rs env w φ
 |[],vs,h,hp=>by cases h;exact hp [] .nil
 | .tmp t::r,vs,h,hp=>by
  unfold Sl at h;split at h
  ·rename_i v l hv hl
   cases h
   obtain⟨u,h1,h2⟩:=he t v hv;unfold qL;rw[h1];exact PK (φ:=λvs=>φ (u::vs)) hr he hl λus z=>hp _ (.cons h2 z)
  ·cases h
 | .cell a t::r,vs,h,hp=>by
  unfold Sl at h;unfold qL;split at h
  ·rename_i i o kd n ha hs hn;obtain⟨u,h1,h2⟩:=he a _ ha
   cases h2 with
   |ptr hx=>
   rw[h1,hs,hn];dsimp only
   cases hb:Nat.beq 1 n with
   |false=>rw[hb] at h;cases h
   |true=>
    rw[hb,cond_true] at h;show cond (Nat.beq 1 n) _ _;rw[hb,cond_true];split at h
    ·rename_i v l hv hl
     cases hk:kOk kd v with
     |false=>rw[hk] at h;cases h
     |true=>
      rw[hk] at h
      cases h
      obtain⟨us,g1,g2,g3,_⟩:=Eo hr hx hv
      cases g1 with
      |cons g g'=>
      cases g'
      obtain⟨y,rfl⟩:=CB g hk;have:=g3 0 (by simp);rw[fM] at this;exact⟨y,this,PK (φ:=λvs=>φ (_::vs)) hr he hl λus z=>hp _ (.cons g z)⟩
    ·cases h
  ·rename_i i o ks n ha hs hn;obtain⟨u,h1,h2⟩:=he a _ ha
   cases h2 with
   |ptr hx=>
   rw[h1,hs,hn];dsimp only
   cases hb:Nat.beq ks.length n with
   |false=>rw[hb] at h;cases h
   |true=>
    rw[hb,cond_true] at h;show cond (Nat.beq ks.length n) _ _;rw[hb,cond_true];split at h
    ·rename_i v l hv hl
     cases hk:QY ks v with
     |false=>rw[hk] at h;cases h
     |true=>
      rw[hk] at h
      cases h
      obtain⟨us,g1,g2,g3,_⟩:=Eo hr hx hv;exact aed ks v us 0 g1 hk (λj hj=>by rw[Nat.zero_add];exact g3 j hj) (PK (φ:=λvs=>φ (_::vs)) hr he hl λus' z=>hp _ (.cons (.agg g1) z))
    ·cases h
  ·cases h
theorem adb (hP:ET P) {f:FuncId} {fn:Func} {c:Code} (hf:P.funcs[f]? =some fn) (hb:fn.body=some c) (an:CY) (args:List Value) (hl:args.length<=fn.ntmps) (w:World) (φ:List Value->b_)
  (h:den P fn.ntmps c none an (DN 0 args) [] w λe env ds w=>match e with
   | .normal=>wG ds w λw'=>qL P fn.results.toList env w' λvs=>φ vs w'
   | .ret=>wG ds w λw'=>qL P fn.results.toList env w' λvs=>φ vs w'
   |_=>False):Calls P f ⟨args⟩ w λe w'=>∃vs,e= .returned (kW vs)/\φ vs w':=by
 refine(callsIn_wide (n:=0)).1 ?_;refine callsIn_of_wp_marks (F:=Fr none) hf hb trivial ?_ rfl;have z:((⟨args⟩:Array Value)++Array.replicate (fn.ntmps - (⟨args⟩:Array Value).size) undef).size=fn.ntmps:=by
  simp;omega
 refine UW hP fn.ntmps c none an _ [] w _ 0 _ (writes c) _ _ h ⟨λs v hs=> ?_,z,rfl,λ_ _=>rfl⟩ (λs hs=>hs) ?_
 ·obtain⟨_,h2⟩:=P_ _ _ _ _ hs;have j:=(List.getElem?_eq_some_iff.1 h2).1;simp only[Nat.sub_zero] at h2 j;show ((⟨args⟩:Array Value)++Array.replicate (fn.ntmps - (⟨args⟩:Array Value).size) undef)[s]? =some v;rw[Array.getElem?_append_left (by simpa using j)];simpa using h2
 ·intro e env' ds' w' a' ha' _ hk;have u:∀w',wG ds' w' (λw'=>qL P fn.results.toList env' w' λvs=>φ vs w')->
    LeavesInM (Fr none) 0 P fn a'.tmps (λe w'=>∃vs,e= .returned (kW vs)/\φ vs w') a'.defers .returning w':=by
   intro w' hw';rw[ha'.defers];exact KF ha'.agr (φ:=φ) (λvs w hd=>⟨vs,rfl,hd⟩) ds' w' hw'
  cases e with
  |normal=>exact u w' hk
  |ret=>exact u w' hk
  |_=>exact hk.elim
theorem acO (hP:ET P) (hp:BU P w0 prev) {Γ:G9} {f:FuncId} {args:List AV} {s:St} {k:List AV->St->Bool} {ρ:Nm} {w:World} {args':List Value} {K:List Value->b_} (h:VX P A prev Γ f args s k=true) (hg:GR P ρ Γ) (hr:Rel w0 ρ s w) (ha:lg ρ args args')
  (hK:∀rs s',k rs s'=true->∀ρ' w' rs',Le ρ ρ'->Rel w0 ρ' s' w'->lg ρ' rs rs'->K rs' w'):Calls P f ⟨args'⟩ w λe w'=>∃vs,e= .returned (kW vs)/\K vs w':=by
 unfold VX at h;split at h
 ·rename_i fn an hf han;split at h
  ·rename_i c hb;obtain⟨hl,h⟩:=f_ h;have hl:=le_of_ble_eq_true hl;rw[ha.len] at hl;refine adb hP hf hb an args' hl w K ?_;have he:ER ρ (aen 0 args) (DN 0 args'):=by
    have:=(abG (i:=0) ha).er (e:=[]) (env:=[]) ER.nil;simpa using this
   refine hp _ _ _ none _ _ _ _ _ _ h ρ w _ [] _ hr he trivial hg trivial ?_;intro e ae ads s' hk ρ' w' env' ds' l' r' he' hd';have fin:(DY ads s' λs''=>match Sl P fn.results.toList ae s'' with
     |some vs=>k vs s''
     |none=>false)=true->wG ds' w' λw'=>qL P fn.results.toList env' w' λvs=>K vs w':=by
    intro hk;refine UN hk hd' r' λs'' w'' hk r''=> ?_;split at hk
    ·rename_i vs j;exact PK r'' he' j λus u=>hK _ _ hk ρ' w'' us l' r'' u
    ·cases hk
   cases e with
   |normal=>exact fin hk
   |ret=>exact fin hk
   |_=>cases hk
  ·cases h
 ·cases h
def tY (P:Program) (w0:World) (M:List P7):Prop:=∀m∈M,∀ρ w args',Rel w0 ρ m.s w->lg ρ m.args args'->
 Calls P m.f ⟨args'⟩ w λe w'=>∃ρ' vs,Le ρ ρ'/\Rel w0 ρ' m.t w'/\lg ρ' m.rs vs/\e= .returned (kW vs)
theorem Va {f:FuncId} {args:List AV} {s:St} {q:List AV×St}:∀{M:List P7},Ri M f args s=some q->∃m∈M,m.f=f/\m.args=args/\m.s.h=s.h/\q=(m.rs,m.t)
 |[],h=>by cases h
 |m::r,h=>by
  unfold Ri at h;have rest:Ri r f args s=some q->∃m'∈m::r,m'.f=f/\m'.args=args/\m'.s.h=s.h/\q=(m'.rs,m'.t):=λh=>by
   obtain⟨m',h1,h2⟩:=Va h;exact⟨m',mem_cons_of_mem _ h1,h2⟩
  cases h1:Nat.beq m.f f with
  |false=>rw[h1] at h;exact rest h
  |true=>
   cases h2:Nat.beq m.s.n s.n with
   |false=>rw[h1,h2] at h;exact rest h
   |true=>
    cases h3:wC m.args args && UA m.s.h s.h with
    |false=>rw[h1,h2,h3] at h;exact rest h
    |true=>
     rw[h1,h2,h3] at h;rw[and_eq_true] at h3;exact⟨m,mem_cons_self ..,Nat.eq_of_beq_eq_true h1,(uU _ _ h3.1).1,PV h3.2,(Option.some.inj h).symm⟩
theorem Kz (hP:ET P) (hp:BU P w0 prev) (hM:tY P w0 A.memo) {Γ:G9} {f:FuncId} {args:List AV} {s:St} {k:List AV->St->Bool} {ρ:Nm} {w:World} {args':List Value} {K:List Value->b_} (h:Ak P A prev Γ f args s k=true) (hg:GR P ρ Γ) (hr:Rel w0 ρ s w) (ha:lg ρ args args')
  (hK:∀rs s',k rs s'=true->∀ρ' w' rs',Le ρ ρ'->Rel w0 ρ' s' w'->lg ρ' rs rs'->K rs' w'):Calls P f ⟨args'⟩ w λe w'=>∃vs,e= .returned (kW vs)/\K vs w':=by
 unfold Ak at h;split at h
 ·rename_i rs t hm;obtain⟨m,j,h1,h2,h3,h4⟩:=Va hm
  cases h4
  have hr':Rel w0 ρ m.s w:=by
   have:=hr.names (n:=m.s.n);rw[<- h3] at this;exact this
  rw[<- h1];refine Calls.mono (hM m j ρ w args' hr' (by rw[h2];exact ha)) ?_;rintro e w' ⟨ρ',vs,l',r',v',rfl⟩;exact⟨vs,rfl,hK _ _ h ρ' w' vs l' r' v'⟩
 ·exact acO hP hp h hg hr ha hK
theorem agY {nt:Nat}:∀{c:Code} {an:CY} {r:Option Nat} {e:AE} {env:Env} {s:St} {w:World} {ρ:Nm} {ds:List Nat} {k:AE->St->Bool} {K:Exit->Env->List Nat->b_},Tj P nt c an e s k=true->Rel w0 ρ s w->ER ρ e env->KE true w0 ρ s w k (λenv' w'=>K .normal env' ds w')->den P nt c r an env ds w K:=by
 intro c
 induction c with
 |skip=>intro an r e env s w ρ ds k K h hr he hK;exact hK _ _ h ρ w env (Le.refl ρ) hr he λ_=>Lp.refl ρ s w
 |region id ops draw=>
  intro an r e env s w ρ ds k K h hr he hK;unfold Tj at h;unfold den
  cases draw with
  |true=>cases h
  |false=>
   rw[cond_false] at h;rw[cond_false];exact Xx (akK P w0 ρ) h (Le.refl ρ) hr he hK
 |seq a b iha ihb=>
  intro an r e env s w ρ ds k K h hr he hK;unfold Tj at h;unfold den;split at h
  ·rename_i x y;dsimp only;refine iha h hr he λe1 s1 hk ρ1 w1 env1 l1 r1 he1 p1=> ?_;dsimp only;exact ihb hk r1 he1 (hK.step l1 p1)
  ·cases h
 |_=>intro an r e env s w ρ ds k K h;cases h
theorem Vp {ρ:Nm}:∀{ks:List Shape} {a:List AV} {v:List Value},lg ρ a v->LZ ks a=true->∃x:zM ks,v=encR ks x
 |[],[],_,h,_=>by cases h;exact⟨(),rfl⟩
 |[],_::_,_,_,g=>by cases g
 |_::_,[],_,_,g=>by cases g
 |k::ks,y::a,_,h,g=>by
  cases h with
  |cons h h'=>
  rename_i v0 vs0;unfold LZ at g;rw[and_eq_true] at g;obtain⟨x',rfl⟩:=Vp h' g.2;have:∃x:ShT k,v0=abT k x:=by
   have g1:=g.1
   cases k with
   |one kd=>obtain⟨x,rfl⟩:=CB h g1;exact⟨x,rfl⟩
   |agg kk=>
    cases h with
    |agg h=>
     have j:∀{ks:List Kind} {a:List AV} {v:List Value},lg ρ a v->QY ks a=true->∃x:ZV ks,v=QA ks x:=by
      intro ks
      induction ks with
      |nil=>
       intro a v h g
       cases a with
       |nil=>cases h;exact⟨(),rfl⟩
       |cons _ _=>cases g
      |cons k ks ih=>
       intro a v h g
       cases h with
       |nil=>cases g
       |cons h h'=>
        unfold QY at g;rw[and_eq_true] at g;obtain⟨x,rfl⟩:=CB h g.1;obtain⟨x',rfl⟩:=ih h' g.2;exact⟨(x,x'),rfl⟩
     obtain⟨x,rfl⟩:=j h g1;exact⟨x,rfl⟩
    |_=>cases g1
  obtain⟨x,rfl⟩:=this;exact⟨(x,x'),rfl⟩
theorem ak9 {a b:Jmp} (h:jEq a b=true):a=b:=by
 cases a<;>cases b<;>first|rfl|cases h|skip
 unfold jEq at h;rw[Nat.eq_of_beq_eq_true h]
theorem ad5 (hp:BU P w0 prev) {Γ:G9} {l:Nat} {args:List AV} {s:St} {k:Bool->St->Bool} {ρ:Nm} {w:World} {args':List Value} {x:Loc} {K:Bool->b_} (h:SX P prev Γ l args s k=true) (hg:GR P ρ Γ) (hr:Rel w0 ρ s w) (hx:ρ l=some x) (ha:lg ρ args args')
  (hK:∀b s',k b s'=true->∀ρ' w',Le ρ ρ'->Rel w0 ρ' s' w'->K b w'):BZ P x.b args' w K:=by
 unfold SX at h;split at h
 ·rename_i i p hi hl;obtain⟨z,h⟩:=f_ h;obtain⟨xs,rfl⟩:=Vp ha z;obtain⟨x',env,hx',hE,hY⟩:=hg l i hi;rw[hx] at hx'
  cases hx'
  obtain⟨hL,u⟩:=hr.br l _ x hl hx;refine hY xs w (Qr p) K hL ?_;unfold aiM;refine agY h hr ((Yz ha).er hE) λenv1 s1 hk ρ1 w1 env1' l1 r1 he1 p1=> ?_;dsimp only;obtain⟨q1,q2⟩:=p1 rfl l x .ready p hl hx;refine⟨q2,?_⟩;have hx1:=l1 _ _ hx;obtain⟨s2,hk,a1,a2⟩:=pY hk;obtain⟨hL1,_⟩:=r1.br l _ x q1 hx1;have r2:Rel w0 ρ1 s2 (fF w1 x.b):=r1.chg hx1 q1 trivial a1 a2 (fV.fF w1 x.b) ⟨u.busy _ _ hL1,u⟩;refine hp _ _ _ (some x.b) _ _ _ _ _ _ hk ρ1 (fF w1 x.b) env1' [] _ r2 he1 trivial (hg.mono l1) ⟨x,hx1,rfl⟩ ?_;intro e ae ads s3 hk ρ3 w3 env3 ds3 l3 r3 he3 hd3;have hx3:=l3 _ _ hx1;dsimp only at hk;split at hk
  ·rename_i p3 hg3;obtain⟨hj,hq⟩:=f_ hk;clear hk;have:=ak9 hj;subst this;obtain⟨hL3,_⟩:=r3.br l _ x hg3 hx3;refine⟨hL3,?_⟩;have fin:∀(st:LoopState) (j:Jmp) (b:Bool),(CO s3 l (.loop st j) λs4=>k b s4)=true->K b (gZ w3 x.b st (Qr j)):=by
    intro st j b hk;obtain⟨s4,hk,b1,b2⟩:=pY hk;exact hK b s4 hk ρ3 _ (l1.trans l3) (r3.chg hx3 hg3 trivial b1 b2 (fV.gZ w3 x.b st (Qr j)) ⟨u.set _ _ _ _ _ hL3,u⟩)
   cases e with
   |normal=>exact⟨none,rfl,fin .ready .no true hq⟩
   |ret=>exact⟨some .ret,rfl,fin .done .ret false hq⟩
   |exit id=>exact⟨some (.exit id),rfl,fin .done (.ex id) false hq⟩
   |_=>cases hq
  ·cases hk
 ·cases h
theorem ag7 (hP:ET P) (hp:BU P w0 prev) (hM:tY P w0 A.memo) {Γ:G9} {ρ0:Nm} (hg:GR P ρ0 Γ):PY false P w0 ρ0 (aeD P A prev Γ):=
 ⟨λf args s k ρ w args' K h hl hr ha hK=>Kz hP hp hM h (hg.mono hl) hr ha λrs s' hk ρ' w' rs' l' r' v'=>hK rs s' hk ρ' w' rs' l' r' v' λe=>(by cases e),
  λl args s k ρ w args' x K h hl hr hx ha hK=>ad5 hp h (hg.mono hl) hr hx ha λb s' hk ρ' w' l' r'=>hK b s' hk ρ' w' l' r' λe=>(by cases e)⟩
theorem AE.mW (ws:List Nat):∀(e:AE) (t:Nat),(AE.without ws e).get t=if t∈ws then none else e.get t
 |[],t=>by unfold AE.without;rw[AE.get_nil];split<;>rfl
 |(s,v)::e,t=>by
  unfold AE.without;have ih:=AE.mW ws e t
  cases hm:vZ s ws with
  |true=>
   have hs:=(kS s ws).1 hm;rw[cond_true,ih,AE.jg];by_cases h:t∈ws
   ·rw[if_pos h,if_pos h]
   ·rw[if_neg h,if_neg h,if_neg λ(e:s=t)=>h (e ▸ hs)]
  |false=>
   have hs:s∉ws:=λh=>by rw[(kS s ws).2 h] at hm;cases hm
   rw[cond_false,AE.jg,AE.jg,ih];by_cases h:s=t
   ·subst h;rw[if_pos rfl,if_pos rfl,if_neg hs]
   ·rw[if_neg h,if_neg h]
theorem Env.mW (ws:List Nat):∀(e:Env) (t:Nat),t∉ws->(without ws e).get t=e.get t
 |[],t,_=>rfl
 |(s,v)::e,t,h=>by
  unfold without;have ih:=Env.mW ws e t h
  cases hm:vZ s ws with
  |true=>
   have hs:=(kS s ws).1 hm;rw[cond_true,ih,jg,if_neg λ(e:s=t)=>h (e ▸ hs)]
  |false=>
   rw[cond_false,jg,jg,ih]
theorem ER.without {ρ:Nm} {e:AE} {env:Env} (h:ER ρ e env) (ws:List Nat):ER ρ (AE.without ws e) (Gp.without ws env):=λt v g=>by
 rw[AE.mW] at g;split at g
 ·cases g
 ·rename_i ht;rw[Env.mW ws env t ht];exact h t v g
theorem Ll {ρ:Nm}:∀{st:List (Nat×Kind)} {e:AE} {env:Env} {l:AE} {φ:J6 st->Prop},YN st e=some l->ER ρ e env->(∀s:J6 st,PE ρ l (encS st s)->φ s)->TY st env φ
 |[],e,env,l,φ,h,he,hK=>by cases h;exact hK () .nil
 |(t,kd)::r,e,env,l,φ,h,he,hK=>by
  unfold YN at h;split at h
  ·rename_i v hv
   cases hk:kOk kd v with
   |false=>rw[hk] at h;cases h
   |true=>
    rw[hk,cond_true] at h;split at h
    ·rename_i m hm
     cases h
     obtain⟨u,h1,h2⟩:=he t v hv;obtain⟨y,rfl⟩:=CB h2 hk;unfold TY;rw[h1];dsimp only;rw[KR];exact Ll hm he λs hs=>hK (y,s) (.cons h2 hs)
    ·cases h
  ·cases h
theorem Y4 (hp:BU P w0 prev) {nt:Nat} {a:Code} {r r':Option Nat} {x:CY} {st:List (Nat×Kind)} {base:AE} {benv:Env} {Γ:G9} {k:KC} {ρ:Nm} {K:Exit->Env->List Nat->b_} (hg:GR P ρ Γ) (u:RR ρ r r') (hb:ER ρ base benv) (hK:KCk w0 ρ k K)
  {n:Nat} {l:AE} {ads:List Nat} {σ:St} {ρ1:Nm} {w:World} {env:Env} {ds:List Nat} (h:Ub prev nt a r x st base Γ k (n+1) l ads σ=true) (hl:Le ρ ρ1) (hr:Rel w0 ρ1 σ w) (hs:PE ρ1 l env) (hd:DR ρ1 ads ds)
  (next:J6 st->List Nat->b_) (j:∀l' ads' σ' ρ2 s' ds' w',Ub prev nt a r x st base Γ k n l' ads' σ'=true->Le ρ ρ2->Rel w0 ρ2 σ' w'->PE ρ2 l' (encS st s')->DR ρ2 ads' (cond (jH a) ds' ds)->next s' ds' w'):
  den P nt a r' x (env++benv) ds w λe env' ds' w'=>match e with
   | .normal=>TY st env' λs'=>next s' ds' w'
   |e=>K e env' ds' w':=by
 have h:Q9 prev nt a r x st base Γ k (Ub prev nt a r x st base Γ k n) l ads σ=true:=h;unfold Q9 at h;refine hp _ _ _ r' _ _ _ _ _ _ h ρ1 w _ ds _ hr (hs.er (hb.mono hl)) hd (hg.mono hl) (u.mono hl) ?_;intro e ae ads' s' hk ρ2 w' env' ds' l2 r2 he2 hd2
 cases e with
 |normal=>
  dsimp only at hk ⊢;split at hk
  ·rename_i l' hl';refine Ll hl' he2 λs1 hs1=>j l' _ s' ρ2 s1 ds' w' hk (hl.trans l2) r2 hs1 ?_
   cases jH a with
   |true=>exact hd2
   |false=>exact hd.mono l2
  ·cases hk
 |_=>exact hK _ _ _ _ hk ρ2 w' env' ds' (hl.trans l2) r2 he2 hd2
end
end Gp.Rn
end
section
namespace Gp.Rn
open Go Gp
section
variable {w0:World} {P:Program} {A:Tab} {prev:RunT}
theorem ala (hp:BU P w0 prev) {nt:Nat} {a:Code} {r r':Option Nat} {an:CY} {ae:AE} {ads:List Nat} {Γ:G9} {s:St} {k:KC} {ρ:Nm} {w:World} {env:Env} {ds:List Nat} {K:Exit->Env->List Nat->b_}
  (h:lpC prev nt a r an ae ads Γ s k=true) (hr:Rel w0 ρ s w) (he:ER ρ ae env) (hd:DR ρ ads ds) (hg:GR P ρ Γ) (j:RR ρ r r') (hK:KCk w0 ρ k K):den P nt (.loop a) r' an env ds w K:=by
 unfold lpC at h;split at h
 ·rename_i st x;split at h
  ·rename_i l hl;have hb:=he.without (writes a);unfold den;dsimp only;generalize 1000000=N at h
   cases u:jH a with
   |true=>
    rw[cond_true];refine Ll hl he λs0 hs0=> ?_;refine⟨λn S W=>∃l ads σ ρ1,Ub prev nt a r x st (AE.without (writes a) ae) Γ k n l ads σ=true/\Le ρ ρ1/\Rel w0 ρ1 σ W/\PE ρ1 l (encS st S.1)/\DR ρ1 ads S.2,⟨N,l,ads,s,ρ,h,Le.refl ρ,hr,hs0,hd⟩,?_⟩;rintro n ⟨S,D⟩ W ⟨l1,ads1,σ1,ρ1,h1,l2,r1,p1,d1⟩
    cases n with
    |zero=>cases h1
    |succ n=>
     refine Y4 hp hg j hb hK h1 l2 r1 p1 d1 (λs' ds' w'=>∃m,m<n+1/\∃l ads σ ρ1,Ub prev nt a r x st (AE.without (writes a) ae) Γ k m l ads σ=true/\Le ρ ρ1/\Rel w0 ρ1 σ w'/\PE ρ1 l (encS st s')/\DR ρ1 ads ds') λl' ads' σ' ρ2 s' ds' w' q1 q2 q3 q4 q5=> ?_;rw[u] at q5;exact⟨n,Nat.lt_succ_self n,l',ads',σ',ρ2,q1,q2,q3,q4,q5⟩
   |false=>
    rw[cond_false];refine Ll hl he λs0 hs0=> ?_;refine⟨λn S W=>∃l ads σ ρ1,Ub prev nt a r x st (AE.without (writes a) ae) Γ k n l ads σ=true/\Le ρ ρ1/\Rel w0 ρ1 σ W/\PE ρ1 l (encS st S)/\DR ρ1 ads ds,⟨N,l,ads,s,ρ,h,Le.refl ρ,hr,hs0,hd⟩,?_⟩;rintro n S W ⟨l1,ads1,σ1,ρ1,h1,l2,r1,p1,d1⟩
    cases n with
    |zero=>cases h1
    |succ n=>
     refine Y4 hp hg j hb hK h1 l2 r1 p1 d1 (λs' ds' w'=>∃m,m<n+1/\∃l ads σ ρ1,Ub prev nt a r x st (AE.without (writes a) ae) Γ k m l ads σ=true/\Le ρ ρ1/\Rel w0 ρ1 σ w'/\PE ρ1 l (encS st s')/\DR ρ1 ads ds) λl' ads' σ' ρ2 s' ds' w' q1 q2 q3 q4 q5=> ?_;rw[u] at q5;exact⟨n,Nat.lt_succ_self n,l',ads',σ',ρ2,q1,q2,q3,q4,q5⟩
  ·cases h
 ·cases h
theorem YH {id:Nat} {f:Nat->b_} {w:World}:∀{l:List Nat},vZ id l=true->f id w->Lh id (l.map λi=>(i,f i)) w
 |[],h,_=>by cases h
 |i::l,h,hf=>by
  rw[map_cons];unfold Lh;unfold vZ at h;by_cases hi:i=id
  ·rw[show Nat.beq i id=true by rw[hi];exact beq_refl _,cond_true,hi];exact hf
  ·have hb:Nat.beq i id=false:=by
    cases hb:Nat.beq i id with
    |false=>rfl
    |true=>exact absurd (Nat.eq_of_beq_eq_true hb) hi
   rw[hb,cond_false] at h;rw[hb,cond_false];exact YH h hf
theorem ab_ (hP:ET P) (hp:BU P w0 prev) (hM:tY P w0 A.memo) {nt:Nat} {g:Operand} {ps:List Nat} {assign body:Code} {ks:List Shape} {x y:CY} {r r':Option Nat} {ae:AE} {ads:List Nat} {Γ:G9} {m:Option Nat} {s s0:St} {k:KC} {ρ:Nm} {w:World} {env:Env} {ds:List Nat} {K:Exit->Env->List Nat->b_}
  (h:adR P A prev nt g ps assign body ks x y ae ads Γ m s k=true)
  (hm:(m=none/\s0=s/\r'≠none)\/∃i,m=some i/\r'=none/\s0.h.get i=none/\s.h.get i=some .mark/\∀j,j≠i->s.h.get j=s0.h.get j)
  (I:∀l₀,r'=some l₀->∃lp,w.heap[l₀]? =some (.loop lp)) (hr:Rel w0 ρ s0 w) (he:ER ρ ae env) (hd:DR ρ ads ds) (hg:GR P ρ Γ) (hK:KCk w0 ρ k K):
  Ez P r' ks (ev env g) w
   (λl x' W Kb=>den P nt assign (some l) x (KY ps (encR ks x')++env) [] W λe env1 _ W1=>match e with
    | .normal=>W1.heap[l]? =W.heap[l]? /\den P nt body (some l) y env1 [] (fF W1 l) λe _ _ W2=>Kb e W2
    |_=>False)
   (λw'=>K .normal env (cond r'.isNone (w.heap.size::ds) ds) w') (λw'=>K .ret env (cond r'.isNone (w.heap.size::ds) ds) w')
   ((pX body).map λid=>(id,λw'=>K (.exit id) env (cond r'.isNone (w.heap.size::ds) ds) w')):=by
 unfold adR at h;split at h
 ·rename_i f first cap hv
  obtain⟨v,hv1,hv2⟩:=QC he hv;have ag:ev env g=v:=by unfold ev;rw[hv1];rfl
  cases hv2 with
  | @fn _ _ first' _ cap' hf hc=>
  refine⟨I,?_⟩;rw[ag];obtain⟨hb,h⟩:=f_ h;refine⟨hb,λl L w1 cx=> ?_⟩;obtain⟨i,s2,h,q0,q1,q2⟩:=nZ h;have u:Ext w w1:=λS=>⟨by have:=cx.size;have:=cx.at_;split at this<;>omega,λb hb _=>cx.old b hb,cx.io⟩
  have ah:LOk ⟨l,0,L⟩:=⟨cx.frame,cx.set,cx.busy,cx.isLoop⟩;have ai:w.heap.size<=l/\l<w1.heap.size:=by have:=cx.size;have:=cx.at_;split at this<;>omega
  have aj:=hr.ext.size;have ac:∀j b z,s0.h.get j=some b->ρ j=some z->BR ρ w1 z b:=λj b z g1 g2=>(hr.br j b z g1 g2).same (cx.old _ (hr.new j z g2).2);have step:∃ρ1,Le ρ ρ1/\Rel w0 ρ1 s w1/\(∀j b z,s.h.get j=some b->live b->ρ1 j=some z->z.b≠l)/\DR ρ1 (m.toList++ads) (cond r'.isNone (w.heap.size::ds) ds):=by
   rcases hm with ⟨rfl,rfl,hn⟩|⟨j,rfl,rfl,g0,g1,g2⟩
   ·refine⟨ρ,Le.refl ρ,⟨hr.dom,hr.fresh,ac,λj z g=>⟨(hr.new j z g).1,by have:=(hr.new j z g).2;omega⟩,hr.inj,hr.ext.trans u⟩,λj b z g1 g2 g3=>by have:=(hr.new j z g3).2;omega,?_⟩
    cases r' with
    |none=>exact absurd rfl hn
    |some _=>exact hd
   ·have hl1:l=w.heap.size+1:=cx.at_;obtain⟨a1,a2⟩:=hr.add (w':=w1) (x:=⟨w.heap.size,0,λ_ _ _=>False⟩) g0 g1 g2 ⟨aj,by have:=cx.size;simp only;omega⟩ (cx.marks rfl) ac (λj b z g1 g2 g3=>by have:=(hr.new j z g3).2;simp only;omega) u.size (hr.ext.trans u);refine⟨_,a2,a1,λk b z g3 g4 g5=> ?_,⟨⟨_,jA ρ j _,rfl⟩,hd.mono a2⟩⟩;unfold upd at g5;split at g5
    ·cases g5;simp only;omega
    ·have:=(hr.new k z g5).2;omega
  obtain⟨ρ1,l1,r1,Z,hd1⟩:=step;obtain⟨r2,l2⟩:=r1.add (w':=w1) (x:=⟨l,0,L⟩) q0 q1 q2 ⟨by simp only;omega,ai.2⟩ ⟨cx.ready,ah⟩ (λj b z g1 g2=>r1.br j b z g1 g2) Z (Nat.le_refl _) r1.ext;have J:=l1.trans l2;have aa:=jA ρ1 i ⟨l,0,L⟩;have hΓ:GR P (upd ρ1 i ⟨l,0,L⟩) ((i,⟨nt,ps,ks,x,y,assign,body,ae⟩)::Γ):=by
   intro j info hj;unfold G9.get at hj;by_cases af:i=j
   ·subst af;rw[show Nat.beq i i=true from beq_refl _,cond_true] at hj
    cases hj
    exact⟨_,env,aa,he.mono J,λxs W p R h1 h2=>cx.yield xs W p R h1 h2⟩
   ·have ab:Nat.beq i j=false:=by
     cases ab:Nat.beq i j with
     |false=>rfl
     |true=>exact absurd (Nat.eq_of_beq_eq_true ab) af
    rw[ab,cond_false] at hj;exact(hg.mono J) j info hj
  refine Calls.mono (Kz hP hp hM (K:=λvs w2=>vs=[]/\∃st p,L st p w2/\st≠.busy/\ab2 (λw'=>K .normal env (cond r'.isNone (w.heap.size::ds) ds) w') (λw'=>K .ret env (cond r'.isNone (w.heap.size::ds) ds) w') ((pX body).map λid=>(id,λw'=>K (.exit id) env (cond r'.isNone (w.heap.size::ds) ds) w')) p (gZ w2 l .exhausted p)) h hΓ r2 ((hf.mono J).app (.cons (.yld aa) (hc.mono J))) λrs s3 hk ρ3 w3 rs' l3 r3 v3=> ?_) ?_
  ·split at hk
   ·rename_i st p hg3
    cases v3
    refine⟨rfl,?_⟩;have hx3:=l3 _ _ aa;obtain⟨hL3,_⟩:=r3.br i _ _ hg3 hx3
    cases U:lsE st .busy with
    |true=>rw[U] at hk;cases hk
    |false=>
     rw[U,cond_false] at hk;obtain⟨s4,hk,b1,b2⟩:=pY hk;refine⟨st,Qr p,hL3,λe=>(by rw[e] at U;cases U),?_⟩;have r4:Rel w0 ρ3 s4 (gZ w3 l .exhausted (Qr p)):=r3.chg hx3 hg3 trivial b1 b2 (fV.gZ w3 l .exhausted (Qr p)) trivial;have Y:=J.trans l3;have hd3:=hd1.mono (l2.trans l3);have he3:=he.mono Y
     cases p with
     |no=>exact hK _ _ _ _ hk ρ3 _ env _ Y r4 he3 hd3
     |ret=>exact hK _ _ _ _ hk ρ3 _ env _ Y r4 he3 hd3
     |ex id=>
      obtain⟨g1,hk⟩:=f_ hk;exact YH (f:=λid w'=>K (.exit id) env (cond r'.isNone (w.heap.size::ds) ds) w') g1 (hK _ _ _ _ hk ρ3 _ env _ Y r4 he3 hd3)
   ·cases hk
  ·rintro e w2 ⟨vs,rfl,rfl,hx⟩;exact⟨rfl,hx⟩
 ·cases h
theorem aeK (hP:ET P) (hp:BU P w0 prev) (hM:tY P w0 A.memo) (u:abx prev):BU P w0 (abM P A prev):=by
 intro nt c r r' an ae ads Γ s k h ρ w env ds K hr he hd hg j hK
 cases c with
 |skip=>exact hK _ _ _ _ h ρ w env ds (Le.refl ρ) hr he hd
 |label _=>exact hK _ _ _ _ h ρ w env ds (Le.refl ρ) hr he hd
 |ret=>exact hK _ _ _ _ h ρ w env ds (Le.refl ρ) hr he hd
 |exit id=>exact hK _ _ _ _ h ρ w env ds (Le.refl ρ) hr he hd
 |region id ops draw=>
  have h:aie P A prev nt ops.toList draw ae ads Γ s k=true:=h;unfold aie at h;unfold den;have hcb:PY false P w0 ρ (aeD P A prev Γ):=ag7 hP hp hM hg
  cases draw with
  |true=>
   rw[cond_true] at h;rw[cond_true];obtain⟨h1,h⟩:=f_ h;unfold KT;rw[h1,cond_true];exact Yy hcb (aal P A u Γ) _ _ _ _ _ [] _ _ _ h ρ w.drew env _ (Le.refl ρ) hr.drew he (λi sh a v hm=>by cases hm) λe' s' a hk ρ' w' env' l' r1 he' _=>hK _ _ _ _ hk ρ' w' env' ds l' r1 he' (hd.mono l')
  |false=>
   rw[cond_false] at h;rw[cond_false];exact Xx hcb h (Le.refl ρ) hr he λe' s' hk ρ' w' env' l' r1 he' _=>hK _ _ _ _ hk ρ' w' env' ds l' r1 he' (hd.mono l')
 |seq a b=>
  have h:af_ prev nt a b r an ae ads Γ s k=true:=h;unfold af_ at h;split at h
  ·rename_i x y;unfold den;dsimp only;refine hp _ _ _ r' _ _ _ _ _ _ h ρ w env ds _ hr he hd hg j λe ae' ads' s' hk ρ' w' env' ds' l' r1 he' hd'=> ?_;unfold alB at hk
   cases e with
   |normal=>exact hp _ _ _ r' _ _ _ _ _ _ hk ρ' w' env' ds' K r1 he' hd' (hg.mono l') (j.mono l') (hK.mono l')
   |_=>exact hK _ _ _ _ hk ρ' w' env' ds' l' r1 he' hd'
  ·cases h
 |cond c a b=>
  have h:condC prev nt c a b r an ae ads Γ s k=true:=h;unfold condC at h;split at h
  ·rename_i x y;unfold den;dsimp only;split at h
   ·rename_i t ht;obtain⟨v,h1,h2⟩:=QC he ht
    cases h2
    rw[h1];dsimp only
    cases t with
    |true=>exact hp _ _ _ r' _ _ _ _ _ _ h ρ w env ds K hr he hd hg j hK
    |false=>exact hp _ _ _ r' _ _ _ _ _ _ h ρ w env ds K hr he hd hg j hK
   ·cases h
  ·cases h
 |block id a=>
  have h:aey prev nt id a r an ae ads Γ s k=true:=h;unfold aey at h;split at h
  ·rename_i x;unfold den;dsimp only;refine hp _ _ _ r' _ _ _ _ _ _ h ρ w env ds _ hr he hd hg j λe ae' ads' s' hk ρ' w' env' ds' l' r1 he' hd'=> ?_;unfold akH at hk
   cases e with
   |exit id'=>
    dsimp only at hk ⊢
    cases hb:Nat.beq id' id with
    |true=>rw[hb,cond_true] at hk;rw[cond_true];exact hK _ _ _ _ hk ρ' w' env' ds' l' r1 he' hd'
    |false=>rw[hb,cond_false] at hk;rw[cond_false];exact hK _ _ _ _ hk ρ' w' env' ds' l' r1 he' hd'
   |_=>exact hK _ _ _ _ hk ρ' w' env' ds' l' r1 he' hd'
  ·cases h
 |scope a=>
  have h:prev nt a r an ae ads Γ s (af9 k)=true:=h;unfold den;refine hp _ _ _ r' _ _ _ _ _ _ h ρ w env ds _ hr he hd hg j λe ae' ads' s' hk ρ' w' env' ds' l' r1 he' hd'=> ?_;unfold af9 at hk
  cases e with
  |goto _=>cases hk
  |_=>exact hK _ _ _ _ hk ρ' w' env' ds' l' r1 he' hd'
 |loop a=>
  have h:lpC prev nt a r an ae ads Γ s k=true:=h;exact ala hp h hr he hd hg j hK
 |rangeFunc g ps assign body=>
  have h:rfC P A prev nt g ps.toList assign body r an ae ads Γ s k=true:=h;unfold rfC at h;split at h
  ·rename_i ks x y;obtain⟨h1,h⟩:=f_ h;unfold den;dsimp only;rw[h1,cond_true]
   cases r with
   |none=>
    dsimp only at h
    cases r' with
    |some _=>exact j.elim
    |none=>
    obtain⟨m,s1,h,q0,q1,q2⟩:=nZ h;exact ab_ (r:=none) hP hp hM h (.inr ⟨m,rfl,rfl,q0,q1,q2⟩) (λl₀ e=>by cases e) hr he hd hg hK
   |some l0=>
    dsimp only at h
    cases r' with
    |none=>exact j.elim
    |some b=>
    obtain⟨z,hz,rfl⟩:=j;split at h
    ·rename_i st p I;obtain⟨hL,J⟩:=hr.br l0 _ z I hz;exact ab_ (r:=some l0) hP hp hM h (.inl ⟨rfl,rfl,by simp⟩) (λl₀ e=>by cases e;exact J.isLoop _ _ _ hL) hr he hd hg hK
    ·cases h
  ·cases h
 |_=>cases h
theorem abd (hP:ET P) (hM:tY P w0 A.memo):∀n,BU P w0 (run P A n)
 |0=>λnt c r r' an ae ads Γ s k h=>by cases h
 |n+1=>aeK hP (abd hP hM n) hM (aiW P A n)
theorem aii (hP:ET P) (hM:∀w0,tY P w0 A.memo) {n:Nat} {f:FuncId} (h:alz P A n f (λrs _=>match rs with
  |[.bool true]=>true
  |_=>false)=true) (w:World):Calls P f ⟨[]⟩ w λe w'=>e= .returned (.bool true)/\Ext w w':=by
 unfold alz at h;have hr:Rel w (λ_=>none) ⟨.lf,0⟩ w:=⟨λi a g=>(by cases g),λi _=>rfl,λi a x g=>(by cases g),λi x g=>(by cases g),λi j a b x y g=>(by cases g),Ext.refl w⟩;refine Calls.mono (Kz (w0:=w) hP (abd hP (hM w) n) (hM w) (K:=λvs w'=>vs=[.bool true]/\Ext w w') h (λl i g=>by cases g) hr .nil λrs s' hk ρ' w' rs' l' r' v'=> ?_) ?_
 ·split at hk
  ·cases v' with
   |cons g g'=>
   cases g'
   cases g
   exact⟨rfl,r'.ext⟩
  ·cases hk
 ·rintro e w' ⟨vs,rfl,rfl,hx⟩;exact⟨rfl,hx⟩
theorem afM (P:Program) (w0:World):tY P w0 []:=λ_ h=>by cases h
end
end Gp.Rn
end
