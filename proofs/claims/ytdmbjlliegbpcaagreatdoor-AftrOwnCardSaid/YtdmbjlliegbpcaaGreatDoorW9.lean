import Derived.Test.YtdmbjlliegbpcaaGreatDoorW8
import Derived.Test.YtdmbjlliegbpcaaGreatDoorW7
import Derived.Test.YtdmbjlliegbpcaaGreatDoorW3
open List (append_assoc filter_append getElem?_cons_zero getElem?_eq_getElem length_cons mem_cons mem_singleton nodup_cons not_mem_nil take_add_one take_append_drop)
open Nat (mod_lt)
open Int (toNat_natCast)
open Array (getElem?_modify)
set_option maxRecDepth 100000
set_option maxHeartbeats 1000000
section
namespace Go.Proofs.PO
open Gp
open Gp.PoolN (stepL stepL_get alike cls oth)
abbrev vg (x:Int):Prop:=0<=x/\x<=70000
theorem mx (a c:Int):(if c>a then c else a)=max a c:=by rw[Int.max_def];split<;>split<;>omega
theorem mn (a c:Int):(if c<a then c else a)=min a c:=by rw[Int.min_def];split<;>split<;>omega
theorem Ye (a b c d:Int) (w:θ):gB a b c d w λx y w'=>x=max a c/\y=min b d/\Ext w w':=by
 apply Nl;refine gq λp w1 r1 e1 z1 f1=>gq λq w2 r2 e2 z2 f2=>gq λt w3 r3 e3 z3 f3=> ?_;have r1:=(r1.ext f2).ext f3;have r2:=r2.ext f3;simp only[sx,r1.cell,r2.cell];refine gY r3 rfl rfl λw4 r4 f4 z4=> ?_;simp only[d_,f_,gJ,r4.cell];refine⟨mx a c,mn b d,((f1.trans f2).trans f3).new (f4 (·=t) rfl) λx hx e=>by omega⟩
theorem Q9 (p:Int) (w:θ):kK p w λx y w'=>x=(cls p).1/\y=(cls p).2/\Ext w w':=by
 apply UZ;refine gq λt w1 r1 e1 z1 f1=> ?_;unfold cls;by_cases h:p<1024
 ·simp only[h,decide_true,cond_true,if_true];refine gY r1 rfl rfl λw4 r4 f4 z4=> ?_;simp only[sx,r4.cell];exact⟨by trivial,by trivial,f1.new (f4 (·=t) rfl) λx hx e=>by omega⟩
 ·simp only[h,decide_false,cond_false,if_false];refine gY r1 rfl rfl λw4 r4 f4 z4=> ?_;simp only[sx,r4.cell];exact⟨by trivial,by trivial,f1.new (f4 (·=t) rfl) λx hx e=>by omega⟩
theorem aeX (p:Int) (w:θ):iJ p w λx y w'=>x=(oth p).1/\y=(oth p).2/\Ext w w':=by
 apply U0;refine gq λt w1 r1 e1 z1 f1=> ?_;unfold oth;by_cases h:p<1024
 ·simp only[h,decide_true,cond_true,if_true];refine CJ (Q9 1024 w1) ?_;rintro _ _ w2 ⟨rfl,rfl,f2⟩;refine gY (r1.ext f2) rfl rfl λw4 r4 f4 z4=> ?_;simp only[sx,r4.cell];exact⟨by trivial,by trivial,(f1.trans f2).new (f4 (·=t) rfl) λx hx e=>by omega⟩
 ·simp only[h,decide_false,cond_false,if_false];refine CJ (Q9 0 w1) ?_;rintro _ _ w2 ⟨rfl,rfl,f2⟩;refine gY (r1.ext f2) rfl rfl λw4 r4 f4 z4=> ?_;simp only[sx,r4.cell];exact⟨by trivial,by trivial,(f1.trans f2).new (f4 (·=t) rfl) λx hx e=>by omega⟩
def yP (l:List Int):List (yu [.one ν]):=l.map λp=>(p,())
theorem Uf (l:List Int) (i:Nat):(yP l)[i]? =(l[i]?).map λp=>(p,()):=by simp[yP]
theorem step_iter {lo hi a b:Int} {f0 f1 f2:Nat} (hb:0<b) (hb2:b<=2) (hi':vg hi) (ha: -70000<=a) (ha2:a<=140000):
  oP υ [.one ν] (Value.func (.func UE) #[] #[(Value.pointer (some ⟨f0,0,none⟩)),(Value.pointer (some ⟨f1,0,none⟩)),(Value.pointer (some ⟨f2,0,none⟩))])
   (λW=>Row W f0 [Β a]/\Row W f1 [Β lo,Β hi]/\Row W f2 [Β b]) (yP (stepL hi a b)):=by
 refine⟨by kernel_rfl,λl Q D hC hQ hD hy w h0=> ?_⟩;refine Calls.mono (S_ (a0:= .func (.yield l) #[] #[]) (f0:=⟨f0,0,none⟩) (f1:=⟨f1,0,none⟩) (f2:=⟨f2,0,none⟩) (K:=λw'=>Q (yP (stepL hi a b)).length w'\/D w') ?_) (λe w' h=>h);have hlen:∀i:Nat,i<(yP (stepL hi a b)).length↔a+b * (i:Int)<=hi:=by
  intro i;rw[<- Gp.PoolN.lt_iff hb i];simp[yP,stepL]
 generalize hn:(yP (stepL hi a b)).length=n at hlen ⊢;obtain⟨r0,_,_⟩:=hC _ _ h0;simp only[sx,r0.cell];refine gX (λst W=>∃i:Nat,i<=n/\st.1=a+b * (i:Int)/\Q i W) (λst _=>(hi+1 - st.1).toNat) ⟨0,by omega,by simp,h0⟩ ?_;rintro⟨x,⟨⟩⟩ W ⟨i,hi2,hx,hq⟩ next u
 simp only at hx;obtain⟨_,r1,r2⟩:=hC _ _ hq;simp only[d_,f_,gJ,r1.cell];have J:=hlen i;rw[<- hx] at J;by_cases I:x<=hi
 ·have hin:=J.2 I;simp only[I,decide_true,cond_true];refine kR (hy i (x,()) W _ ?_ hq ?_ ?_)
  ·rw[Uf,stepL_get hb,<- hx,if_pos I];rfl
  ·intro W' hq';obtain⟨_,_,r2'⟩:=hC _ _ hq';refine⟨true,rfl,?_⟩;simp only[Bool.not_true,cond_false,cond_false,getElem?_cons_zero,f_,gJ,r2'.cell];have hx1:a<=x:=by
    have:=Int.mul_nonneg (show (0:Int)<=b by omega) (show (0:Int)<=(i:Int) by omega);omega
   rw[Α (by have:=hi'.2;omega) (by have:=hi'.2;omega)];refine u _ _ ⟨i+1,by omega,?_,hq'⟩ (by simp only;omega);simp only[hx,Int.natCast_add,Int.mul_add];omega
  ·intro W' hd;refine⟨false,rfl,?_⟩;simp only[Bool.not_false,cond_true];exact .inr hd
 ·simp only[I,decide_false,cond_false];have:i=n:=by
   have:¬i<n:=λh=>I (J.1 h);omega
  subst this;exact .inl hq
def uf (w0 w:θ) (v:Value) (l:List Int):Prop:=
 iL v=true/\∃C,oP υ [.one ν] v C (yP l)/\∀W S,gW w W S->(∀b,w0.heap.size<=b->b<w.heap.size->¬S b)->C W
theorem uf.ext {w0 w w':θ} {v:Value} {l:List Int} (h:uf w0 w v l) (hf:Ext w w'):uf w0 w' v l:=by
 obtain⟨h1,C,h2,h3⟩:=h;exact⟨h1,C,h2,λW S hF hS=>h3 W S ((hf S).trans hF λ_ _ e=>e) λb hb hlt=>hS b hb (by have:=hf.size;omega)⟩
theorem step_ok {lo hi a b:Int} (hb:0<b) (hb2:b<=2) (hi':vg hi) (ha: -70000<=a) (ha2:a<=140000) (w:θ):qK lo hi a b w λv w'=>Ext w w'/\uf w w' v (stepL hi a b):=by
 apply XI;refine gq λp w1 r1 e1 z1 f1=>⟨rfl,gq λq w2 r2 e2 z2 f2=>⟨rfl,gq λt w3 r3 e3 z3 f3=> ?_⟩⟩;have r1:=(r1.ext f2).ext f3;have r2:=r2.ext f3;refine⟨(f1.trans f2).trans f3,rfl,_,step_iter hb hb2 hi' ha ha2,λW S hf hs=>⟨r2.fr hf (hs _ ?_ ?_),r1.fr hf (hs _ ?_ ?_),r3.fr hf (hs _ ?_ ?_)⟩⟩<;>omega
theorem Yp {a b:Nat} (ha:a<2^63) (hb:b<2^63):Ue .i64 (a:Int) (b:Int)=((a^^^b:Nat):Int):=by
 unfold Ue;have h1:(BitVec.ofInt (IntKind.bits .i64) (a:Int)).toNat=a:=by rw[r_,BitVec.toNat_ofInt];omega
 have h2:(BitVec.ofInt (IntKind.bits .i64) (b:Int)).toNat=b:=by rw[r_,BitVec.toNat_ofInt];omega
 rw[BitVec.toNat_xor,h1,h2];have:a^^^b<2^63:=Nat.xor_lt_two_pow ha hb;rw[Α]
theorem ajm {a b:Int} (ha:0<=a) (hb:0<=b) (ha2:a<2^62) (hb2:b<2^62):kF .i64 (Ue .i64 a b) 1=(a+b) % 2:=by
 obtain⟨m,rfl⟩:∃m:Nat,a=(m:Int):=⟨a.toNat,by omega⟩;obtain⟨n,rfl⟩:∃n:Nat,b=(n:Int):=⟨b.toNat,by omega⟩;have hx:m^^^n<2^62:=Nat.xor_lt_two_pow (by omega) (by omega);rw[Yp (by omega) (by omega),show (1:Int)=((1:Nat):Int) from rfl,D7 (by omega) (by decide),Nat.and_one_is_mod];have h0:(m^^^n) % 2=(m+n) % 2:=by
  have:=Nat.xor_mod_two_pow (a:=m) (b:=n) (n:=1);rw[Nat.pow_one] at this;rw[this];rcases Nat.mod_two_eq_zero_or_one m with h1|h1<;>rcases Nat.mod_two_eq_zero_or_one n with h2|h2<;>rw[h1,h2]<;>simp<;>omega
 rw[h0];omega
theorem LJ {lo hi want:Int} (h1:vg lo) (h2:vg want) (w:θ):qZ lo hi want w λr w'=>r=alike lo want/\Ext w w':=by
 apply UY;refine gq λp w1 r1 e1 z1 f1=> ?_;simp only[sx,r1.cell];obtain⟨h1,h1'⟩:=h1;obtain⟨h2,h2'⟩:=h2;rw[ajm h1 h2 (by omega) (by omega),Α];exact⟨rfl,f1⟩
theorem Ι (lo hi p:Int) (w:θ):yA lo hi p w λr w'=>r=decide (lo<=p/\p<=hi)/\Ext w w':=by
 apply OO;refine gq λt w1 r1 e1 z1 f1=> ?_;simp only[sx,r1.cell];by_cases h:lo<=p
 ·simp only[h,decide_true,cond_true,cond_true,true_and];exact f1
 ·simp only[h,decide_false,cond_false,false_and,true_and];exact f1
theorem Ns (n:Int) (w:θ):rC n w λr w'=>r=decide (n=1\/n=6\/n=17)/\w'=w:=by
 apply JK;by_cases h1:n=1
 ·simp[h1]
 ·by_cases h2:n=6
  ·simp[h2]
  ·by_cases h3:n=17
   ·simp[h3]
   ·simp[h1,h2,h3]
abbrev ZR (lo hi:Int) (s:fU) (g:Nat):List Value:=[Β lo,Β hi,Δ s,.map (some g)]
theorem wu {w:θ} {p g:Nat} {lo hi:Int} {s:fU} (h:Row w p (ZR lo hi s g)):kJ (some ⟨p,0,none⟩) w λr w'=>r=true/\w'=w:=by
 apply Aw;simp only[sx,h.cell,Option.isNone_some,Bool.not_false,and_self]
structure QH (w W:θ) (rs:List (Nat×List Value)):Prop where
 ext:Ext w W
 rows:∀r∈rs,Row W r.1 r.2/\w.heap.size<=r.1
 nd:(rs.map Prod.fst).Nodup
theorem QH.step {w W W':θ} {rs:List (Nat×List Value)} (h:QH w W rs) (f:Ext W W'):QH w W' rs:=
 ⟨h.ext.trans f,λr hr=>⟨(h.rows r hr).1.ext f,(h.rows r hr).2⟩,h.nd⟩
theorem QH.al {w W:θ} {rs:List (Nat×List Value)} (h:QH w W rs) {T:TypeId} {l:List Value} {K:Addr->b_} (hK:∀b W',QH w W' ((b,l)::rs)->K ⟨b,0,none⟩ W'):Al W (.cells ⟨l⟩ T) K:=by
 refine gq λb W' r e z f=>hK b W' ⟨h.ext.trans f,λq hq=> ?_,?_⟩
 ·rcases List.mem_cons.1 hq with rfl|hq
  ·exact⟨r,by have:=h.ext.size;simp only;omega⟩
  ·exact⟨(h.rows q hq).1.ext f,(h.rows q hq).2⟩
 ·simp only[List.map_cons,nodup_cons];refine⟨λhm=> ?_,h.nd⟩;obtain⟨q,hq,hqe⟩:=List.mem_map.1 hm;have:=(h.rows q hq).1.lt;omega
theorem QH.aje {w W:θ} {rs:List (Nat×List Value)} (h:QH w W rs) {x y:Nat} {l m l' m':List Value} (hx:(x,l)∈rs) (hy:(y,m)∈rs) (u:x≠y) (hl:l'.length=l.length) (hm:m'.length=m.length)
  (ho:l'.all iL=true) (hp:m'.all iL=true) {K:b_} (hK:∀W',Ext w W'->Row W' x l'->Row W' y m'->w.heap.size<=x->w.heap.size<=y->K W'):iw l' W ⟨x,0,none⟩ 0 λW1=>iw m' W1 ⟨y,0,none⟩ 0 K:=by
 obtain⟨r1,h1⟩:=h.rows _ hx;obtain⟨r2,h2⟩:=h.rows _ hy;refine gY r1 ho hl λW1 q1 f1 z1=> ?_;refine gY (r2.fr (f1 (·=x) rfl) λe=>u e.symm) hp hm λW2 q2 f2 z2=> ?_;refine hK W2 ?_ (q1.fr (f2 (·=y) rfl) u) q2 h1 h2;exact(h.ext.new (f1 (·=x) rfl) λb hb e=>by simp only at h1;omega).new (f2 (·=y) rfl) λb hb e=>by simp only at h2;omega
theorem uf.back {w0 w1 w:θ} {v:Value} {l:List Int} (h:uf w1 w v l) (hf:w0.heap.size<=w1.heap.size):uf w0 w v l:=by
 obtain⟨h1,C,h2,h3⟩:=h;exact⟨h1,C,h2,λW S hF hS=>h3 W S hF λb hb u=>hS b (by omega) u⟩
theorem aix {p:Int} (_h:vg p):vg (cls p).1/\vg (cls p).2:=by unfold cls vg;split<;>simp
theorem aiO {p:Int} (_h:vg p):vg (oth p).1/\vg (oth p).2:=by unfold oth vg;split<;>simp
theorem QS {lo want:Int}:lo<=alike lo want/\alike lo want<=lo+1:=by unfold alike;omega
abbrev two (a b:Int):List Value:=[Β a,Β b]
theorem rows_ok {w:θ} {p g:Nat} {lo hi want n:Int} {s:fU} (h:Row w p (ZR lo hi s g)) (hn:n≠1) (h1:vg lo) (h2:vg hi) (h3:vg want) (h4:want<=65535):
  qY (some ⟨p,0,none⟩) n want w λr w'=>Ext w w'/\∃b v0 v1 v2 v3,r=⟨some ⟨b,0,none⟩,4,4⟩/\Row w' b [v0,v1,v2,v3]/\w.heap.size<=b/\
   uf w w' v0 (stepL (min hi (cls want).2) (max (want+2) (alike (max lo (cls want).1) want)) 2)/\uf w w' v1 (stepL (min hi (cls want).2) (alike (max lo (cls want).1) want) 2)/\
   uf w w' v2 (stepL (min hi (oth want).2) (alike (max lo (oth want).1) want) 2)/\uf w w' v3 (stepL hi (alike lo (want+1)) 2):=by
 apply BF;have hn':(n==1)=false:=by simp[hn]
 simp only[hn',cond_false];refine Pe.of λJ hJ=> ?_;have hJ':∀(x y:Nat) (W:θ),Ext w W->Row W x (two (max lo (cls want).1) (min hi (cls want).2))->Row W y (two (max lo (oth want).1) (min hi (oth want).2))->w.heap.size<=x->w.heap.size<=y->
   J ((⟨x,0,none⟩,⟨y,0,none⟩,()),W):=by
  intro x y W hE rx ry lx ly;refine hJ _ ?_;obtain⟨k1,k2⟩:=aix h3;obtain⟨k3,k4⟩:=aiO h3;have pn:vg (max lo (cls want).1):=⟨by have:=h1.1;omega,by have:=h1.2;have:=k1.2;omega⟩;have qn:vg (min hi (cls want).2):=⟨by have:=h2.1;have:=k2.1;omega,by have:=h2.2;omega⟩;have pf:vg (max lo (oth want).1):=⟨by have:=h1.1;omega,by have:=h1.2;have:=k3.2;omega⟩;have qf:vg (min hi (oth want).2):=⟨by have:=h2.1;have:=k4.1;omega,by have:=h2.2;omega⟩;generalize max lo (cls want).1=nl at pn rx ⊢;generalize min hi (cls want).2=nh at qn rx ⊢;generalize max lo (oth want).1=fl at pf ry ⊢;generalize min hi (oth want).2=fh at qf ry ⊢;have hd:=Ext.drew W;have hp:=h.ext hE;have x0:∀W',Ext W W'->W'.cell? ⟨x,0,none⟩=some (Β nl):=λW' f=>(rx.ext f).cell 0;have x1:∀W',Ext W W'->W'.cell? ⟨x,1,none⟩=some (Β nh):=λW' f=>(rx.ext f).cell 1;have y0:∀W',Ext W W'->W'.cell? ⟨y,0,none⟩=some (Β fl):=λW' f=>(ry.ext f).cell 0;have y1:∀W',Ext W W'->W'.cell? ⟨y,1,none⟩=some (Β fh):=λW' f=>(ry.ext f).cell 1;have p0:∀W',Ext W W'->W'.cell? ⟨p,0,none⟩=some (Β lo):=λW' f=>(hp.ext f).cell 0;have p1:∀W',Ext W W'->W'.cell? ⟨p,1,none⟩=some (Β hi):=λW' f=>(hp.ext f).cell 1;simp only[sx,Ci,Cj,x0 _ hd,x1 _ hd,y0 _ hd,y1 _ hd,p0 _ hd,p1 _ hd];have w2:ο.wrap (want+2)=want+2:=by have:=h3.1;rw[Α]
  have w1:ο.wrap (want+1)=want+1:=by have:=h3.1;rw[Α]
  have a1:=QS (lo:=nl) (want:=want);have a2:=QS (lo:=fl) (want:=want);have a3:=QS (lo:=lo) (want:=want+1);obtain⟨pn1,pn2⟩:=pn;obtain⟨pf1,pf2⟩:=pf;obtain⟨N,O⟩:=h1;obtain⟨u,I⟩:=h3;refine cmS1 (LJ ⟨pn1,pn2⟩ ⟨u,I⟩ _) ?_;rintro _ W1 ⟨rfl,g⟩;have e1:=hd.trans g;simp only[x0 _ e1,x1 _ e1,y0 _ e1,y1 _ e1,p0 _ e1,p1 _ e1,true_and,w1,w2,mx];refine cmS5 (step_ok (by omega) (by omega) qn (by omega) (by omega) _) ?_;rintro v0 W2 ⟨g,yv0⟩;have l0:=e1.size;have yv0:=yv0.back (w0:=w) (by have:=hE.size;omega);have e2:=e1.trans g;simp only[x0 _ e2,x1 _ e2,y0 _ e2,y1 _ e2,p0 _ e2,p1 _ e2,true_and];refine cmS1 (LJ ⟨pn1,pn2⟩ ⟨u,I⟩ _) ?_;rintro _ W3 ⟨rfl,g⟩;have yv0:=yv0.ext g;have e3:=e2.trans g;simp only[x0 _ e3,x1 _ e3,y0 _ e3,y1 _ e3,p0 _ e3,p1 _ e3,true_and];refine cmS5 (step_ok (by omega) (by omega) qn (by omega) (by omega) _) ?_;rintro v1 W4 ⟨g,yv1⟩;have l1:=e3.size;have yv1:=yv1.back (w0:=w) (by have:=hE.size;omega);have yv0:=yv0.ext g;have e4:=e3.trans g;simp only[y0 _ e4,y1 _ e4,p0 _ e4,p1 _ e4,true_and];refine cmS1 (LJ ⟨pf1,pf2⟩ ⟨u,I⟩ _) ?_;rintro _ W5 ⟨rfl,g⟩;have yv0:=yv0.ext g;have yv1:=yv1.ext g;have e5:=e4.trans g;simp only[y0 _ e5,y1 _ e5,p0 _ e5,p1 _ e5,true_and];refine cmS5 (step_ok (by omega) (by omega) qf (by omega) (by omega) _) ?_;rintro v2 W6 ⟨g,yv2⟩;have l2:=e5.size;have yv2:=yv2.back (w0:=w) (by have:=hE.size;omega);have yv0:=yv0.ext g;have yv1:=yv1.ext g;have e6:=e5.trans g;simp only[p0 _ e6,p1 _ e6,true_and];refine cmS1 (LJ ⟨N,O⟩ ⟨by omega,by omega⟩ _) ?_;rintro _ W7 ⟨rfl,g⟩;have yv0:=yv0.ext g;have yv1:=yv1.ext g;have yv2:=yv2.ext g;have e7:=e6.trans g;simp only[p0 _ e7,p1 _ e7,true_and];refine cmS5 (step_ok (by omega) (by omega) h2 (by omega) (by omega) _) ?_;rintro v3 W8 ⟨g,yv3⟩;have l3:=e7.size;have yv3:=yv3.back (w0:=w) (by have:=hE.size;omega);have yv0:=yv0.ext g;have yv1:=yv1.ext g;have yv2:=yv2.ext g;have e8:=e7.trans g;refine⟨⟨yv0.1,yv1.1,yv2.1,yv3.1,trivial⟩,gq λb W9 r9 hb z9 g=> ?_⟩;exact⟨(hE.trans e8).trans g,b,v0,v1,v2,v3,by trivial,r9,by have:=hE.size;have:=e8.size;omega,yv0.ext g,yv1.ext g,yv2.ext g,yv3.ext g⟩
 clear hJ;have c0:∀W,Ext w W->W.cell? ⟨p,0,none⟩=some (Β lo):=λW f=>(h.ext f).cell 0;have c1:∀W,Ext w W->W.cell? ⟨p,1,none⟩=some (Β hi):=λW f=>(h.ext f).cell 1;have hI:QH w w.drew []:=⟨Ext.drew w,λr hr=>by simp at hr,by simp⟩;simp only[sx,Ci,Cj,c0 _ (Ext.drew w),c1 _ (Ext.drew w)]
 repeat' (first
  |(with_reducible refine And.intro ?_ ?_)
  |(with_reducible exact c0 _ hI.ext)
  |(with_reducible exact c1 _ hI.ext)
  |((with_reducible refine CJ (Q9 _ _) ?_);rintro _ _ W' ⟨rfl,rfl,f⟩;replace hI:=hI.step f)
  |((with_reducible refine Ut (aeX _ _) ?_);rintro _ _ W' ⟨rfl,rfl,f⟩;replace hI:=hI.step f)
  |((with_reducible refine LV (Ye _ _ _ _ _) ?_);rintro _ _ W' ⟨rfl,rfl,f⟩;replace hI:=hI.step f)
  |((with_reducible refine QH.al hI ?_);clear hI;intro b W' hI))
 all_goals
  refine QH.aje (l:=two 0 0) (m:=two 0 0) hI ?_ ?_ ?_ ?_ ?_ ?_ ?_ λW' hE rx ry lx ly=>hJ' _ _ _ hE rx ry lx ly
  ·simp
  ·simp
  ·have:=hI.nd;simp at this;omega
  ·rfl
  ·rfl
  ·rfl
  ·rfl
theorem afw {w:θ} {b i:Nat} {l:List Value} {v:Value} {K:b_} (hr:Row w b l) (h1:iL v=true) (hi:l[i]? =some v) (h:∀w',Ext w w'->w'.heap.size=w.heap.size->K w'):St w ⟨b,i,none⟩ v K:=by
 refine⟨h1,by rw[hr.cell,hi];rfl,hr.frozen i,h _ (λS=> ?_) (by simp)⟩;have hf:gW w (w.setCell ⟨b,i,none⟩ v) (·=b):=gW.set w ⟨b,i,none⟩ v rfl;refine⟨hf.size,λc hc _=> ?_,hf.io⟩;by_cases e:c=b
 ·subst e;obtain⟨T,ht⟩:=hr;obtain⟨hlt,hv⟩:=List.getElem?_eq_some_iff.1 hi;show (w.heap.modify c _)[c]? =w.heap[c]?;rw[getElem?_modify,if_pos rfl,ht];subst hv;simp
 ·exact hf.same c hc e
theorem mask {x:Int} (h:0<=x) (h2:x<=65535):kF .i64 x 65535=x:=by
 obtain⟨m,rfl⟩:∃m:Nat,x=(m:Int):=⟨x.toNat,by omega⟩;rw[show (65535:Int)=((65535:Nat):Int) from rfl,D7 (by omega) (by decide),show (65535:Nat)=2^16 - 1 from rfl,Nat.and_two_pow_sub_one_eq_mod,Nat.mod_eq_of_lt (by omega)]
theorem ael {A B X:List Int} {f:Int->Bool} {i:Nat} {x:Int} (hx:X[i]? =some x) (hp:f x=true):(A++(X.filter f++B))[A.length+((X.take i).filter f).length]? =some x:=by
 obtain⟨u,rfl⟩:=List.getElem?_eq_some_iff.1 hx;have hX:X.filter f=(X.take i).filter f++(X[i]::(X.drop (i+1)).filter f):=by
  conv=>lhs;rw[<- take_append_drop i X,filter_append,List.drop_eq_getElem_cons u,List.filter_cons_of_pos hp]
 rw[List.getElem?_append_right (by omega),hX];simp
theorem Vz {X:List Int} {f:Int->Bool} {i:Nat} {x:Int} (hx:X[i]? =some x):((X.take (i+1)).filter f).length=((X.take i).filter f).length+(if f x then 1 else 0):=by
 rw[take_add_one,hx];by_cases h:f x=true<;>simp[filter_append,h]
def rowsL (lo hi want:Int) (cl cl':Int×Int):List (List Int):=
 [stepL (min hi cl.2) (max (want+2) (alike (max lo cl.1) want)) 2,stepL (min hi cl.2) (alike (max lo cl.1) want) 2,stepL (min hi cl'.2) (alike (max lo cl'.1) want) 2,stepL hi (alike lo (want+1)) 2]
def keepF (want:Int) (j:Nat) (p:Int):Bool:=decide (p≠want/\¬(j=1/\want<=p))
def headL (lo hi want:Int):List Int:=if lo<=want/\want<=hi then [want] else []
def fromL (want:Int):Nat->List (List Int)->List Int
 |_,[]=>[]
 |j,r::rs=>r.filter (keepF want j)++fromL want (j+1) rs
theorem VG (want:Int):∀(a b:List (List Int)) (k:Nat),fromL want k (a++b)=fromL want k a++fromL want (k+a.length) b:=by
 intro a
 induction a with
 |nil=>intro b k;simp[fromL]
 |cons x a ih=>
  intro b k;simp only[List.cons_append,fromL,ih,append_assoc,length_cons];rw[show k+1+a.length=k+(a.length+1) by omega]
def TM (want:Int) (h:List Int) (rs:List (List Int)) (j:Nat):List Int:=h++fromL want 0 (rs.take j)
theorem ae5 {want:Int} {h:List Int} {rs:List (List Int)} {j:Nat} {r:List Int} (hr:rs[j]? =some r):
  h++fromL want 0 rs=TM want h rs j++(r.filter (keepF want j)++fromL want (j+1) (rs.drop (j+1))):=by
 obtain⟨u,rfl⟩:=List.getElem?_eq_some_iff.1 hr;have e:rs=rs.take j++(rs[j]::rs.drop (j+1)):=by rw[<- List.drop_eq_getElem_cons u,take_append_drop]
 unfold TM
 conv=>lhs;rw[e,VG,List.length_take,Nat.min_eq_left (by omega),fromL,Nat.zero_add]
 simp only[append_assoc]
theorem acO {want:Int} {h:List Int} {rs:List (List Int)} {j:Nat} {r:List Int} (hr:rs[j]? =some r):
  (TM want h rs (j+1)).length=(TM want h rs j).length+(r.filter (keepF want j)).length:=by
 obtain⟨u,rfl⟩:=List.getElem?_eq_some_iff.1 hr;unfold TM;rw[take_add_one,getElem?_eq_getElem u,VG,List.length_take,Nat.min_eq_left (by omega)];simp[fromL];omega
def rowsG (n lo hi want:Int):List (List Int):=if n=1 then [stepL hi lo 1] else rowsL lo hi want (cls want) (oth want)
def wantsG (n lo hi want:Int):List Int:=headL lo hi want++fromL want 0 (rowsG n lo hi want)
theorem ac1 {n lo hi want:Int}:(rowsG n lo hi want).length<=4/\(n=1->(rowsG n lo hi want).length=1):=by
 unfold rowsG;split
 ·exact⟨by simp,λ_=>rfl⟩
 ·rename_i h;exact⟨by simp[rowsL],λh'=>absurd h' h⟩
theorem afe {w:θ} {p g:Nat} {lo hi want n:Int} {s:fU} (h:Row w p (ZR lo hi s g)) (h1:vg lo) (h2:vg hi) (h3:vg want) (h4:want<=65535):
  qY (some ⟨p,0,none⟩) n want w λr w'=>Ext w w'/\∃b vs,r=⟨some ⟨b,0,none⟩,(rowsG n lo hi want).length,(rowsG n lo hi want).length⟩/\Row w' b vs/\w.heap.size<=b/\
   ∀j,j<(rowsG n lo hi want).length->∃v r,(rowsG n lo hi want)[j]? =some r/\vs[j]? =some v/\uf w w' v r:=by
 by_cases hn:n=1
 ·subst hn;apply BF;have hd:=h.drew;have e:((1:Int)==1)=true:=rfl;simp only[e,cond_true,sx,hd.cell];refine cmS5 (step_ok (by have:=h1.1;omega) (by decide) h2 (by have:=h1.1;omega) (by have:=h1.2;omega) _) ?_;rintro v W ⟨f,y⟩;refine⟨⟨y.1,trivial⟩,gq λb W2 r2 e2 z2 f2=> ?_⟩;have hs:=f.size;refine⟨((Ext.drew w).trans f).trans f2,b,[v],rfl,r2,by have:w.drew.heap.size=w.heap.size:=rfl;omega,λj hj=> ?_⟩;have:j=0:=by simp[rowsG] at hj;omega
  subst this;exact⟨v,stepL hi lo 1,rfl,rfl,(y.ext f2).back (Nat.le_refl _)⟩
 ·refine cmS2 (rows_ok h hn h1 h2 h3 h4) ?_;rintro r W ⟨f,b,v0,v1,v2,v3,rfl,rb,lb,y0,y1,y2,y3⟩;have e:rowsG n lo hi want=rowsL lo hi want (cls want) (oth want):=if_neg hn;rw[e];refine⟨f,b,_,rfl,rb,lb,λj hj=> ?_⟩
  match j,hj with
  |0,_=>exact⟨v0,_,rfl,rfl,y0⟩
  |1,_=>exact⟨v1,_,rfl,rfl,y1⟩
  |2,_=>exact⟨v2,_,rfl,rfl,y2⟩
  |3,_=>exact⟨v3,_,rfl,rfl,y3⟩
theorem ό {p g f0 f1 f2:Nat} {lo hi want n:Int} {s:fU} (hn:n=1\/n=6\/n=17) (h1:vg lo) (h2:vg hi) (h3:0<=want) (h4:want<=65535):
  Qp υ [.one ν] (Value.func (.func Jc) #[] #[(Value.pointer (some ⟨f0,0,none⟩)),(Value.pointer (some ⟨f1,0,none⟩)),(Value.pointer (some ⟨f2,0,none⟩))])
   (λW=>Row W f0 [.pointer (some ⟨p,0,none⟩)]/\Row W f1 [Β n]/\Row W f2 [Β want]/\Row W p (ZR lo hi s g)) (yP (wantsG n lo hi want)):=by
 refine⟨by kernel_rfl,λl w Q D hC hQ hD hy h0=> ?_⟩;refine Calls.mono (Hl (a0:= .func (.yield l) #[] #[]) (f0:=⟨f0,0,none⟩) (f1:=⟨f1,0,none⟩) (f2:=⟨f2,0,none⟩) (K:=λw'=>Q (yP (wantsG n lo hi want)).length w'\/D w') ?_) (λe w' h=>h);obtain⟨hm4,hm1⟩:=ac1 (n:=n) (lo:=lo) (hi:=hi) (want:=want);have hlen:(yP (wantsG n lo hi want)).length=(TM want (headL lo hi want) (rowsG n lo hi want) (rowsG n lo hi want).length).length:=by
  simp only[yP,List.length_map,wantsG,TM,List.take_length]
 rw[hlen];refine⟨rfl,gq λb3 w1 r3 e3 z3 x3=> ?_⟩;have up:∀{i W W'},Q i W->Ext W W'->Q i W':=λhq hx=>hQ _ _ _ hq (hx _);have q1:=up h0 x3;intro J4
 suffices hJ4:J4 false w1 by
  obtain⟨c0,c1,c2,c3⟩:=hC _ _ q1;simp only[sx,c0.cell];refine cmS0 (wu c3) ?_;rintro _ w' ⟨rfl,hw⟩;subst hw;simp only[Bool.not_true,cond_false,getElem?_cons_zero,f_,gJ,c1.cell];refine cmS0 (Ns n _) ?_;rintro _ w' ⟨rfl,hw⟩;subst hw;have:(n=1\/n=6\/n=17):=hn;simp only[this,decide_true,Bool.not_true];exact hJ4
 obtain⟨c0,c1,c2,c3⟩:=hC _ _ q1;simp -zeta only[sx,J4,c2.cell,mask h3 h4];refine afw c2 rfl rfl λw8 x8 z8=> ?_;have q8:=up q1 x8;have r8:=r3.ext x8;intro J9;have hJ9:∀W,Q (headL lo hi want).length W->Row W b3 [.func (.yield l) #[] #[]]->w.heap.size<=W.heap.size->J9 false W:=by
  intro W hq hb3 hs;simp -zeta only[J9,cond_false];obtain⟨c0,c1,c2,c3⟩:=hC _ _ hq;simp -zeta only[getElem?_cons_zero,f_,gJ,EG,c0.cell,c1.cell,c2.cell];refine cmS2 (afe c3 h1 h2 ⟨h3,by omega⟩ h4) ?_;rintro _ W1 ⟨xr,b,vs,rfl,rb,lb,hy4⟩;have q1':=up hq xr;have hb3':=hb3.ext xr;have sr:=xr.size;unfold wantsG at hy;generalize rowsG n lo hi want=R at hy4 hy hm4 hm1 ⊢;generalize headL lo hi want=H at hq q1' hy ⊢;have b3w:b3<W1.heap.size:=hb3'.lt;refine gX (λst W'=>∃j:Nat,j<=R.length/\st.1.1=(j:Int)/\Q (TM want H R j).length W'/\gW W1 W' (·<w.heap.size)/\(∀d∈st.2,W1.heap.size<=d/\d<W'.heap.size/\W'.heap[d]? =some (.deferred (some [])))/\st.2.Nodup)
   (λst _=>((R.length:Int) - st.1.1).toNat) ⟨0,by omega,rfl,by simpa [TM,fromL] using q1',gW.refl _ _,by simp,by simp⟩ ?_
  rintro⟨⟨jj,⟨⟩⟩,ds⟩ W2 ⟨j,hj,ah,hq2,f2',hd2,nd2⟩ next J
  simp only at ah hd2 nd2;subst ah;have s2:=f2'.size;by_cases hj4:j<R.length
  ·obtain⟨v,r,hr,hv,aq⟩:=hy4 j hj4;have rb2:=rb.fr f2' (by omega);have O:((j:Int)<(R.length:Int)):=by omega
   simp only[O,decide_true,cond_true];refine zI (b:=b) (o:=0) rfl (by omega) (by simp only;omega) ?_;simp only[toNat_natCast,Nat.zero_add,Nat.mul_one];have rv:W2.cell? ⟨b,j,none⟩=some v:=by rw[rb2.cell];exact hv
   simp only[cond_false,f_,Iy,rv];refine gq λar W3 au e23 z23 av=> ?_;refine g_ au rfl (by simp) λW4 ai f24 z24=> ?_;have u:Ext W2 W4:=av.new (f24 (·=ar) rfl) λx hx e=>by omega
   simp only[List.set_cons_zero] at ai;have q4:=up hq2 u;have f4:gW W1 W4 (·<w.heap.size):=f2'.ext u;have Y:Row W4 b3 _:=hb3'.fr f4 (by omega);obtain⟨_,C,aw,ax⟩:=aq;refine wz aw (λi W'=>Q ((TM want H R j).length+((r.take i).filter (keepF want j)).length) W'/\gW W4 W' (·<w.heap.size)) (λe W'=>e= .ret/\D W'/\gW W4 W' (·<w.heap.size)) (by simp) ?_ ?_ ?_ ?_ ?_ ?_ ?_ ?_ ?_
   ·exact λW' hx _=>⟨by simpa using up q4 hx,hx _⟩
   ·exact λi W' hI=>ax W' _ (f4.trans hI.2 λ_ _ e=>e) λx hx O=>by omega
   ·exact λi W' W'' hI hf=>⟨hQ _ _ _ hI.1 (hf.mono λx e=>by simp only[lC] at e;simp at e;omega),hI.2.trans hf λx hx e=>by simp[lC] at e;omega⟩
   ·exact λe W' W'' hI hf=>⟨hI.1,hD _ _ hI.2.1 (hf.mono λx e=>by simp only[lC] at e;simp at e;omega),hI.2.2.trans hf λx hx e=>by simp[lC] at e;omega⟩
   ·exact λe W' hI=> .inl hI.1
   ·rintro i ⟨p',⟨⟩⟩ W' Kb hx ⟨Z,I⟩ aa hn2 hj2;rw[Uf] at hx;obtain⟨p'',hp,he⟩:=Option.map_eq_some_iff.1 hx;have ay:p''=p':=congrArg Prod.fst he;subst ay;have lq:lC none W4=W4.heap.size+1:=rfl;have aj:=u.size;rw[lq] at aa hn2 hj2 ⊢;refine⟨by trivial,?_⟩;have qb:Q _ (gG W' (W4.heap.size+1)):=hQ _ _ _ Z ((gW.gG W' _).mono λx e=>by omega);obtain⟨d0,d1,d2,d3⟩:=hC _ _ qb;have N:gW W4 (gG W' (W4.heap.size+1)) (·<w.heap.size):=I.trans (gW.gG W' _) λx hx e=>by omega
    have ra:=ai.fr N (by omega);have rb3:=Y.fr N (by omega);have skip:keepF want j p''=false->Kb .normal (gG W' (W4.heap.size+1)):=λhk=>
     hn2 _ (λ_=>False) (gW.refl _ _) (by simp) ⟨by rw[Vz hp,hk];simpa using qb,N⟩
    have go:keepF want j p''=true->jy υ [.one .bool] (.func (.yield l) #[] #[]) [Β p''] (gG W' (W4.heap.size+1)) λY ak=>
      ∃am:Bool,Y=(Value.bool am)/\(bif (!am) then Kb .ret ak else Kb .normal ak):=λhk=>
     kR (hy ((TM want H R j).length+((r.take i).filter (keepF want j)).length) (p'',()) _ _ (by rw[Uf,ae5 hr,ael hp hk];rfl) qb
      (λW'' hq'' hf''=>⟨true,rfl,hn2 W'' (·<w.heap.size) hf'' (λx h1 h2 h3=>by omega) ⟨by rw[Vz hp,hk];exact hq'',N.trans hf'' λ_ _ e=>e⟩⟩)
      (λW'' hd hf''=>⟨false,rfl,hj2 .ret W'' (·<w.heap.size) hf'' (λx h1 h2 h3=>by omega) ⟨rfl,hd,N.trans hf'' λ_ _ e=>e⟩⟩))
    simp only[getElem?_cons_zero,f_,gJ,Iy,ra.cell,rb3.cell,d1.cell,d2.cell];by_cases hw:p''=want
    ·have hb:(p''==want)=true:=by simp[hw]
     simp only[hb,cond_true,Bool.cond_self];exact skip (by simp[keepF,hw])
    ·have hb:(p''==want)=false:=by simp[hw]
     simp only[hb,cond_false];by_cases hj1:j=1
     ·have hb2:((j:Int)==1)=true:=by simp[hj1]
      have hn1:(n !=1)=true:=by
       rw[bne_iff_ne];intro hn1;have:=hm1 hn1;omega
      simp only[hb2,cond_true];by_cases an:p''>=want
      ·simp only[an,decide_true,cond_true,hn1];exact skip (by simp[keepF,hj1];omega)
      ·simp only[an,decide_false,cond_false];exact go (by simp[keepF,hw];omega)
     ·have hb2:((j:Int)==1)=false:=by simp;omega
      simp only[hb2,cond_false];exact go (by simp[keepF,hw,hj1])
   ·rintro W' ⟨Z,I⟩ hm;have hm:=hm rfl;have aj:=u.size;have s4:=I.size;rw[Α];refine J _ _ ⟨j+1,by omega,by simp,?_,f4.trans I λ_ _ e=>e,?_,?_⟩ (by simp only;omega)
    ·rw[acO hr]
     rwa [List.take_of_length_le (by simp[yP])] at Z
    ·intro d hd;rcases List.mem_cons.1 hd with rfl|hd
     ·exact⟨by omega,(Array.getElem?_eq_some_iff.1 hm).1,hm⟩
     ·obtain⟨g1,g2,g3⟩:=hd2 d hd;exact⟨g1,by omega,by rw[I.same d (by omega) (by omega),(u λ_=>False).same d (by omega) (by simp)];exact g3⟩
    ·simp only[nodup_cons];exact⟨λhd=>by have:=hd2 _ hd;omega,nd2⟩
   ·rintro W' ⟨_,hd,I⟩ hm;have hm:=hm rfl;have aj:=u.size;refine Dq (n:=w.heap.size) _ W' ?_ ?_ λw6 f6 z6=> .inr (hD _ _ hd f6)
    ·intro d hd;rcases List.mem_cons.1 hd with rfl|hd
     ·exact⟨by omega,hm⟩
     ·obtain⟨g1,g2,g3⟩:=hd2 d hd;exact⟨by omega,by rw[I.same d (by omega) (by omega),(u λ_=>False).same d (by omega) (by simp)];exact g3⟩
    ·simp only[nodup_cons];exact⟨λhd=>by have:=hd2 _ hd;omega,nd2⟩
   ·rintro id W' ⟨h,_⟩
    cases h
  ·have hj':j=R.length:=by omega
   subst hj';have O:¬((R.length:Int)<(R.length:Int)):=by omega
   simp only[O,decide_false,cond_false];refine Dq (n:=w.heap.size) ds W2 (λd hd=>⟨by have:=hd2 d hd;omega,(hd2 d hd).2.2⟩) nd2 λw6 f6 z6=> .inl (hQ _ _ _ hq2 f6)
 obtain⟨c0,c1,c2,c3⟩:=hC _ _ (up q8 (Ext.drew w8));simp only[sx,c0.cell,c2.cell,c3.cell];refine cmS0 (Ι lo hi want _) ?_;rintro _ ao ⟨rfl,ac⟩;have af:=up (up q8 (Ext.drew w8)) ac;have ag:=(r8.ext (Ext.drew w8)).ext ac;have s52:=ac.size;have s8:=x8.size;have s3:=x3.size;have sd:=(Ext.drew w8).size;by_cases U:lo<=want/\want<=hi
 ·have hh:headL lo hi want=[want]:=by unfold headL;rw[if_pos U]
  obtain⟨c0,c1,c2,c3⟩:=hC _ _ af;simp only[U,decide_true,and_self,cond_true,cond_true,getElem?_cons_zero,f_,gJ,Iy,ag.cell,c2.cell];refine kR (hy 0 (want,()) ao _ ?_ af ?_ ?_)
  ·rw[Uf,wantsG,hh];rfl
  ·intro W' hq' hf';exact⟨true,rfl,hJ9 W' (by rw[hh];exact hq') (ag.fr hf' (by omega)) (by have:=hf'.size;omega)⟩
  ·intro W' hd hf';refine⟨false,rfl,?_⟩;show (bif true then _ else _);exact .inr hd
 ·have hh:headL lo hi want=[]:=by unfold headL;rw[if_neg U]
  simp only[U,decide_false,cond_false];exact hJ9 ao (by rw[hh];exact af) ag (by omega)
theorem ade {w:θ} {p g:Nat} {lo hi want n:Int} {s:fU} (h:Row w p (ZR lo hi s g)) (hn:n=1\/n=6\/n=17) (h1:vg lo) (h2:vg hi) (h3:0<=want) (h4:want<=65535):
  vO (some ⟨p,0,none⟩) n want w λv w'=>Ext w w'/\∃C,Qp υ [.one ν] v C (yP (wantsG n lo hi want))/\
   ∀W S,gW w' W S->(∀b,w.heap.size<=b->b<w'.heap.size->¬S b)->¬S p->C W:=by
 apply Lc;refine⟨rfl,gq λa w1 r1 e1 z1 f1=>⟨rfl,gq λb w2 r2 e2 z2 f2=>⟨rfl,gq λt w3 r3 e3 z3 f3=> ?_⟩⟩⟩;have r1:=(r1.ext f2).ext f3;have r2:=r2.ext f3;have hp:=((h.ext f1).ext f2).ext f3;exact⟨(f1.trans f2).trans f3,_,ό hn h1 h2 h3 h4,λW S hf hs u=>⟨r1.fr hf (hs _ (by omega) (by omega)),r2.fr hf (hs _ (by omega) (by omega)),r3.fr hf (hs _ (by omega) (by omega)),hp.fr hf u⟩⟩
theorem Ip {w w':θ} {S:Nat->Prop} (h:gW w w' S) (l:Nat):gW (gG w l) (gG w' l) S:=by
 refine⟨by simpa [gG] using h.size,λb hb hn=> ?_,h.io⟩;have:=h.same b (by simpa [gG] using hb) hn;simp only[gG,getElem?_modify,this]
end Go.Proofs.PO
end
section
namespace Go.Proofs.PN
open Gp Go.Proofs.CN
abbrev O3:=Int×Int×Int
def Ϭ (x:O3):Value:= .agg ⟨[Β x.1,Β x.2.1,Β x.2.2]⟩
def evU (_:Unit):Value:= .bool true
theorem eqO (a b:O3):Fa υ 16 56 (Ϭ a) (Ϭ b)=some (decide (a=b)):=by
 have h:Fa υ 16 56 (Ϭ a) (Ϭ b)=some ((a.1==b.1) && ((a.2.1==b.2.1) && ((a.2.2==b.2.2) && true))):=by kernel_rfl
 rw[h];obtain⟨a1,a2,a3⟩:=a;obtain⟨b1,b2,b3⟩:=b;have ib:∀x y:Int,(x==y)=decide (x=y):=λ_ _=>rfl;simp[ib,Bool.decide_and]
theorem agf (a:O3):ny υ 56 (Ϭ a)=true:=by
 unfold ny;rw[eqO];rfl
structure PL (w:θ) (p g:Nat) (s:fU) (lo hi:Int) (pl:List Int) (G:List (O3×Unit)):Prop where
 hd:Row w p [Β lo,Β hi,Δ s,.map (some g)]
 ad:iV 1 eI w s pl
 gv:pY Ϭ evU w g G
 nd:(G.map (·.1)).Nodup
 ln:pl.length<=16
 pg:p≠g
 sp:¬fU.at s p
 sg:¬fU.at s g
def fp (p g:Nat) (s:fU) (b:Nat):Prop:=b=p\/b=g\/fU.at s b
variable {w w':θ} {p g:Nat} {s:fU} {lo hi:Int} {pl:List Int} {G:List (O3×Unit)}
theorem PL.fr {S:Nat->Prop} (h:PL w p g s lo hi pl G) (hf:gW w w' S) (hs:∀b,fp p g s b->¬S b):PL w' p g s lo hi pl G:=
 ⟨h.hd.fr hf (hs _ (.inl rfl)),h.ad.fr hf λ _ hb=>hs _ (.inr (.inr hb)),h.gv.fr hf (hs _ (.inr (.inl rfl))),h.nd,h.ln,h.pg,h.sp,h.sg⟩
theorem PL.ext (h:PL w p g s lo hi pl G) (hf:Ext w w'):PL w' p g s lo hi pl G:=h.fr (hf λ_=>False) (λ_ _=>by simp)
theorem PL.sl (h:PL w p g s lo hi pl G):mQ 1 eI w s pl:=h.ad.sl jX (by omega)
theorem PL.sln (h:PL w p g s lo hi pl G):s.len<=2^62:=by rw[h.sl.len];have:=h.ln;omega
theorem wu (h:PL w p g s lo hi pl G):kJ (some ⟨p,0,none⟩) w λr w'=>r=true/\w'=w:=by
 apply Aw;simp only[sx,h.hd.cell,Bool.not_false];exact⟨by trivial,by trivial⟩
theorem RQ (h:PL w p g s lo hi pl G) (x:Int):pV (some ⟨p,0,none⟩) x w λr w'=>r=decide (x∈pl)/\w'=w:=by
 apply OM;refine cmS0 (wu h) ?_;rintro r w' ⟨rfl,hw⟩;subst hw;simp only[sx,h.hd.cell];refine cmS0 (Bq h.sl h.sln x) ?_;rintro r w' ⟨rfl,hw⟩;exact⟨rfl,hw⟩
theorem Ns (n:Int) (w:θ):rC n w λr w'=>r=decide (n=1\/n=6\/n=17)/\w'=w:=by
 apply JK;by_cases h1:n=1
 ·subst h1;simp
 by_cases h6:n=6
 ·subst h6;simp
 by_cases u:n=17
 ·subst u;simp
 ·simp[h1,h6,u]
theorem agc (h:PL w p g s lo hi pl G) {x y z:Int} (h1:x=1\/x=6\/x=17) (h2:y∈pl) (h3:0<=z) (h4:z<65536) (hn:(x,y,z)∉G.map (·.1)):
  wR (some ⟨p,0,none⟩) x y z w λe w'=>e=0/\PL w' p g s lo hi pl (zn G (x,y,z) ())/\gW w w' (·=g):=by
 apply Nj;refine gq λt w1 r1 e1 z1 f1=> ?_;have hp:=h.ext f1;refine cmS0 (wu hp) ?_;rintro r w1 ⟨rfl,hw⟩;subst hw;simp only[Bool.not_true,cond_false,sx,r1.cell];refine cmS0 (Ns x w1) ?_;rintro r w1 ⟨rfl,hw⟩;subst hw;simp only[h1,decide_true,Bool.not_true,cond_false,sx,r1.cell];refine cmS0 (RQ hp y) ?_;rintro r w1 ⟨rfl,hw⟩;subst hw;have h3':¬(z<0):=by omega
 have h4':¬(z>=65536):=by omega
 simp only[h2,h3',h4',decide_true,decide_false,Bool.not_true,cond_false,sx,r1.cell,hp.hd.drew.cell,r1.drew.cell];have fd:=Ext.drew w1;refine FW (k:= .bool) ((hp.gv).ext fd) eqO (x,y,z) (agf _) (λ_=> ?_) (λb hb=>absurd hb (by rw[Bz.2 hn];simp));simp only[sx,hp.hd.drew.drew.cell,r1.drew.drew.cell];refine xP (ev:=evU) (((hp.gv).ext fd).ext (Ext.drew _)) eqO (x,y,z) () (agf _) λw2 g2 f2 z2=> ?_;have hp2:=(hp.ext fd).ext (Ext.drew _);exact⟨by trivial,⟨hp2.hd.fr f2 h.pg,hp2.ad.fr f2 (λb hb e=>h.sg (e ▸ hb)),g2,NM h.nd _ _,h.ln,h.pg,h.sp,h.sg⟩,((f1.trans fd).trans (Ext.drew _)).fr f2⟩
theorem aaq {s:fU} {lo hi:Int} {pl:List Int} (hs:mQ 1 eI w s pl) (h0:1<=pl.length) (U:pl.length<=16) (hn:pl.Nodup) (hh:∀a∈pl,rZ a) (h1:1<=lo) (h2:lo<=hi) (h3:hi<65536):
  Kq s lo hi w λr e w'=>e=0/\Ext w w'/\∃p g s',r=some ⟨p,0,none⟩/\PL w' p g s' lo hi pl []/\∀b,fp p g s' b->w.heap.size<=b:=by
 apply Zu;have hl:s.len=pl.length:=hs.len;intro J4;have a1:¬((s.len:Int)<1):=by omega
 have a2:¬((s.len:Int)>16):=by omega
 have a3:¬(lo<1):=by omega
 have a4:¬(hi<lo):=by omega
 have a5:¬(hi>=65536):=by omega
 simp -zeta only[a1,a2,a3,a4,a5,decide_false,cond_false];simp only[J4,cond_false];refine gX (λst W=>∃i:Nat,i<=pl.length/\st.1=(i:Int)/\Ext w W) (λst _=>pl.length - st.1.toNat) ⟨0,by omega,rfl,Ext.refl _⟩ ?_;rintro⟨i',⟨⟩⟩ W ⟨i,hi',hi2,hx⟩ next I
 simp only at hi2;subst hi2;by_cases N:i<pl.length
 ·have u:((i:Int)<(s.len:Int)):=by omega
  simp only[u,decide_true,cond_true];have O:pl[i]∈pl:=List.getElem_mem N;refine SN.Il (hs.ext hx) (getElem?_eq_getElem N) λa c0=> ?_;simp only[Vm,c0,f_,gJ];refine cmS0 (yY _ W) ?_;rintro _ w1 ⟨rfl,f1⟩;simp only[hh _ O,decide_true,Bool.not_true,cond_false];refine aaX jX (hs.ext (hx.trans f1)) (by omega) (by omega) (by omega) λs1 hs1=> ?_;have hl1:s1.len<=2^62:=by rw[hs1.len];simp;omega
  refine cmS0 (Bq hs1 hl1 _) ?_;rintro _ w2 ⟨rfl,hw⟩;subst hw;have Y:pl[i]∉(pl.take (i:Int).toNat).drop (0:Int).toNat:=by
   simp only[toNat_natCast,Int.toNat_zero,List.drop_zero];exact Gp.Cfg.Sr.1 hn i _ (getElem?_eq_getElem N)
  simp only[Y,decide_false,cond_false];rw[Α];exact I _ _ ⟨i+1,by omega,by simp,hx.trans f1⟩ (by simp only;omega)
 ·have u:¬((i:Int)<(s.len:Int)):=by omega
  simp only[u,decide_false,cond_false];refine cmS2 (SN.Ob (hs.ext hx) (by omega)) ?_;rintro s' w1 ⟨f1,hb,R⟩;refine SN.Ij (enc:=Ϭ) (ev:=evU) λw2 hm z2 f2=> ?_;refine gq λp w3 r3 e3 z3 f3=> ?_;have J:∀b,fU.at s' b->b<w1.heap.size:=λb hb'=>hb.lt hb';refine⟨by trivial,((hx.trans f1).trans f2).trans f3,p,w1.heap.size,s',rfl,⟨r3,(hb.ext f2).ext f3,hm.ext f3,by simp,U,by omega,λh=>by have:=J _ h;omega,λh=>by have:=J _ h;omega⟩,?_⟩;have hz:=(hx.trans f1).size;have hz1:=hx.size;rintro b (rfl|rfl|hb')
  ·omega
  ·omega
  ·have:=R b hb';omega
end Go.Proofs.PN
end
section
namespace Go.Proofs.EN
open Gp Go.Proofs
open Gp.Bind (Bnd Slots live GoodB freeN getS In64)
structure EA where
 x:Nat
 p:Nat
 g:Nat
 ps:fU
 qb:Nat
 qs:Nat
 B:Qm
 T:SN.Qm
 d:Nat
 m:Nat
 ss:List fU
def own (a:EA):Nat->Nat->Prop
 |0,b=>b=a.x
 |1,b=>PN.fp a.p a.g a.ps b
 |2,b=>b=a.qb\/b=a.qs
 |3,b=>fp a.B b
 |4,b=>SN.fp a.T b
 |5,b=>WN.Fz a.d a.m a.ss b
 |_,_=>False
structure Cf where
 C:List Value
 sw:fU
 pl:List Int
 lo:Int
 hi:Int
 q:Int
 nb:Int
 ns:Int
structure aij (c:Cf):Prop where
 len:c.C.length=36
 c16:c.C[16]? =some (.slice c.sw.a c.sw.len c.sw.cap)
 c20:c.C[20]? =some (Β c.q)
 c21:c.C[21]? =some (Β c.nb)
 c22:c.C[22]? =some (Β c.ns)
 sw:c.sw.len<=64
 b1:1<=c.nb/\c.nb<=4096
 q1:1<=c.q/\c.q<=4096
 s1:1<=c.ns/\c.ns<=4096
 hp:∀x∈c.pl,CN.rZ x
structure ES where
 now:Nat
 S:Slots
 Mi:ByteArray->Option Int
 Mo:ByteArray->Option Int
 Q:List Int
 G:List (PN.O3×Unit)
 SS:Gp.Ses.Slots
 M:ByteArray->Option Int
 l:WN.PL
 wn:Nat
 tn:Int
 F:Gp.Wh.Fs
structure nH (w:θ) (a:EA) (c:Cf) (e:ES):Prop where
 cf:aij c
 hd:Row w a.x ([.pointer (some ⟨a.p,0,none⟩),.pointer (some ⟨a.qb,0,none⟩),.pointer (some ⟨a.B.d,0,none⟩),.pointer (some ⟨a.T.d,0,none⟩),.pointer (some ⟨a.d,0,none⟩)]++c.C++[Β (e.now:Int)])
 pl:PN.PL w a.p a.g a.ps c.lo c.hi c.pl e.G
 qr:QN.QR w a.qb a.qs e.Q c.q
 qo:QN.QOk e.Q c.q
 db:DB w a.B c.nb.toNat e.S e.Mi e.Mo
 se:SN.TA w a.T c.ns.toNat e.SS e.M
 wh:WN.WS w a.d a.m a.ss e.l e.wn e.tn c.ns e.F
 ap:∀k k' b,own a k b->own a k' b->k=k'
 lt:∀k b,own a k b->b<w.heap.size
variable {w w':θ} {a:EA} {c:Cf} {e:ES}
theorem nH.fr {S:Nat->Prop} (h:nH w a c e) (hf:gW w w' S) (hs:∀k b,own a k b->¬S b):nH w' a c e:=
 ⟨h.cf,h.hd.fr hf (hs 0 _ rfl),h.pl.fr hf (hs 1),h.qr.fr hf (hs 2 _ (.inl rfl)) (hs 2 _ (.inr rfl)),h.qo,h.db.fr hf (hs 3),h.se.fr hf (hs 4),h.wh.fr hf (hs 5),h.ap,
  λk b hb=>Nat.lt_of_lt_of_le (h.lt k b hb) hf.size⟩
theorem nH.ext (h:nH w a c e) (hf:Ext w w'):nH w' a c e:=h.fr (hf λ_=>False) (λ_ _ _=>by simp)
theorem nH.c0 (h:nH w a c e):w.cell? ⟨a.x,0,none⟩=some (.pointer (some ⟨a.p,0,none⟩)):=by rw[h.hd.cell];rfl
theorem nH.c1 (h:nH w a c e):w.cell? ⟨a.x,1,none⟩=some (.pointer (some ⟨a.qb,0,none⟩)):=by rw[h.hd.cell];rfl
theorem nH.c2 (h:nH w a c e):w.cell? ⟨a.x,2,none⟩=some (.pointer (some ⟨a.B.d,0,none⟩)):=by rw[h.hd.cell];rfl
theorem nH.c3 (h:nH w a c e):w.cell? ⟨a.x,3,none⟩=some (.pointer (some ⟨a.T.d,0,none⟩)):=by rw[h.hd.cell];rfl
theorem nH.c4 (h:nH w a c e):w.cell? ⟨a.x,4,none⟩=some (.pointer (some ⟨a.d,0,none⟩)):=by rw[h.hd.cell];rfl
theorem nH.cC (h:nH w a c e) {j:Nat} (hj:j<36):w.cell? ⟨a.x,5+j,none⟩=c.C[j]? :=by
 rw[h.hd.cell,append_assoc,List.getElem?_append_right (by simp)];rw[List.getElem?_append_left (by have:=h.cf.len;simp;omega)];congr 1;simp
theorem nH.c21 (h:nH w a c e):w.cell? ⟨a.x,21,none⟩=some (.slice c.sw.a c.sw.len c.sw.cap):=(h.cC (j:=16) (by omega)).trans h.cf.c16
theorem nH.c25 (h:nH w a c e):w.cell? ⟨a.x,25,none⟩=some (Β c.q):=(h.cC (j:=20) (by omega)).trans h.cf.c20
theorem nH.c26 (h:nH w a c e):w.cell? ⟨a.x,26,none⟩=some (Β c.nb):=(h.cC (j:=21) (by omega)).trans h.cf.c21
theorem nH.c27 (h:nH w a c e):w.cell? ⟨a.x,27,none⟩=some (Β c.ns):=(h.cC (j:=22) (by omega)).trans h.cf.c22
theorem nH.c41 (h:nH w a c e):w.cell? ⟨a.x,41,none⟩=some (Β (e.now:Int)):=by
 rw[h.hd.cell,append_assoc,List.getElem?_append_right (by simp),List.getElem?_append_right (by have:=h.cf.len;simp;omega)];have:41 - [Value.pointer (some ⟨a.p,0,none⟩),.pointer (some ⟨a.qb,0,none⟩),.pointer (some ⟨a.B.d,0,none⟩),.pointer (some ⟨a.T.d,0,none⟩),.pointer (some ⟨a.d,0,none⟩)].length - c.C.length=0:=by rw[h.cf.len];rfl
 rw[this];rfl
theorem Dv (h:nH w a c e):jR (some ⟨a.x,0,none⟩) w λr w'=>r=true/\w'=w:=by
 apply Hg;simp only[sx,h.c0,Bool.not_false];exact⟨by trivial,by trivial⟩
def RV (c:Cf) (i:Int):Prop:=0<=i/\i<(c.sw.len:Int)
instance (c:Cf) (i:Int):Decidable (RV c i):=inferInstanceAs (Decidable (_/\_))
theorem BJ (h:nH w a c e) (i:Int):lX (some ⟨a.x,0,none⟩) i w λr w'=>r=decide (RV c i)/\w'=w:=by
 apply DK;unfold RV;by_cases h0:i>=0
 ·have h0':0<=i:=h0;simp only[h0,decide_true,sx,h.c21,true_and]
 ·have h0':¬0<=i:=h0;simp only[h0,decide_false,cond_false,false_and,and_self]
theorem abt (n:Int) (w:θ):Bc n w λr w'=>r=decide (0<=n/\n<=65535)/\w'=w:=by
 apply XF;by_cases h0:n>=0
 ·have h0':0<=n:=h0;simp only[h0,decide_true,cond_true,true_and]
 ·have h0':¬0<=n:=h0;simp only[h0,decide_false,cond_false,false_and,and_self]
theorem Qx (h:nH w a c e):pF (some ⟨a.x,0,none⟩) w λr w'=>r=decide (((live 0 e.S).length:Int)>=c.nb)/\Ext w w':=by
 apply Jr;have hd:=h.ext (Ext.drew w);simp only[sx,hd.c2,hd.c26];refine cmS1 (afP hd.db) ?_;rintro n w1 ⟨rfl,hw⟩;subst hw;exact⟨hd.c26,rfl,Ext.drew w⟩
def Xw (c:Cf) (b:Bnd):Prop:=
 (b.pr=1\/b.pr=6\/b.pr=17)/\CN.rZ b.ad/\b.oad∈c.pl/\(0<=b.po/\b.po<=65535)/\(0<=b.opo/\b.opo<=65535)/\b.pr=b.opr/\RV c b.sw
instance (c:Cf) (b:Bnd):Decidable (Xw c b):=inferInstanceAs (Decidable (_/\_))
theorem ahR (h:nH w a c e) (b:Bnd):vN (some ⟨a.x,0,none⟩) b.sw b.pr b.ad b.po b.opr b.oad b.opo w λr w'=>r=decide (Xw c b)/\Ext w w':=by
 apply La;refine gq λt w1 r1 e1 z1 f1=> ?_;have h1:=h.ext f1;simp -zeta only[sx,r1.cell];intro J6;have key:J6 (decide (b.pr=1\/b.pr=6\/b.pr=17)):=by
  by_cases hp:b.pr=1\/b.pr=6\/b.pr=17;rotate_left
  ·simp only[J6,hp,decide_false,cond_false];exact⟨(decide_eq_false λhm=>hp hm.1).symm,f1⟩
  simp only[J6,hp,decide_true,cond_true,sx,r1.drew.cell];refine cmS0 (CN.yY _ _) ?_;rintro r w2 ⟨rfl,f2⟩;have x2:=(Ext.drew w1).trans f2;have h2:=h1.ext x2;have r2:=r1.ext x2;by_cases c1:CN.rZ b.ad;rotate_left
  ·simp only[c1,decide_false,cond_false];exact⟨(decide_eq_false λhm=>c1 hm.2.1).symm,f1.trans x2⟩
  simp only[c1,decide_true,cond_true,sx,h2.c0,r2.cell];refine cmS0 (PN.RQ h2.pl _) ?_;rintro r w2 ⟨rfl,hw⟩;subst hw;by_cases c2:b.oad∈c.pl;rotate_left
  ·simp only[c2,decide_false,cond_false];exact⟨(decide_eq_false λhm=>c2 hm.2.2.1).symm,f1.trans x2⟩
  simp only[c2,decide_true,cond_true,sx,r2.cell];refine cmS0 (abt _ _) ?_;rintro r w2 ⟨rfl,hw⟩;subst hw;by_cases c3:0<=b.po/\b.po<=65535;rotate_left
  ·simp only[c3,decide_false,cond_false];exact⟨(decide_eq_false λhm=>c3 hm.2.2.2.1).symm,f1.trans x2⟩
  simp only[c3,and_self,decide_true,cond_true,sx,r2.cell];refine cmS0 (abt _ _) ?_;rintro r w2 ⟨rfl,hw⟩;subst hw;by_cases c4:0<=b.opo/\b.opo<=65535;rotate_left
  ·simp only[c4,decide_false,cond_false];exact⟨(decide_eq_false λhm=>c4 hm.2.2.2.2.1).symm,f1.trans x2⟩
  simp only[c4,and_self,decide_true,cond_true,sx,r2.cell];by_cases c5:b.pr=b.opr;rotate_left
  ·have c5':(b.pr==b.opr)=false:=by simpa using c5
   simp only[c5',cond_false];exact⟨(decide_eq_false λhm=>c5 hm.2.2.2.2.2.1).symm,f1.trans x2⟩
  have c5':(b.pr==b.opr)=true:=by simpa using c5
  simp only[c5',cond_true];refine cmS0 (BJ h2 _) ?_;rintro r w2 ⟨rfl,hw⟩;subst hw;refine⟨?_,f1.trans x2⟩;simp only[decide_eq_decide];exact⟨λhs=>⟨hp,c1,c2,c3,c4,c5,hs⟩,λhm=>hm.2.2.2.2.2.2⟩
 by_cases p1:b.pr=1
 ·have p1':(b.pr==1)=true:=by simpa using p1
  simp -zeta only[p1',cond_true];have q:decide (b.pr=1\/b.pr=6\/b.pr=17)=true:=by simp[p1]
  rw[q] at key;exact key
 have p1':(b.pr==1)=false:=by simpa using p1
 by_cases p6:b.pr=6
 ·have p6':(b.pr==6)=true:=by simpa using p6
  simp -zeta only[p1',p6',cond_true,cond_false];have q:decide (b.pr=1\/b.pr=6\/b.pr=17)=true:=by simp[p6]
  rw[q] at key;exact key
 have p6':(b.pr==6)=false:=by simpa using p6
 simp -zeta only[p1',p6',cond_false];have q:decide (b.pr=1\/b.pr=6\/b.pr=17)=(b.pr==17):=by
  have:(b.pr==17)=decide (b.pr=17):=rfl;rw[this];simp[p1,p6]
 rw[q] at key;exact key
end Go.Proofs.EN
end
section
namespace Go.Proofs.EN
open Gp Go.Proofs
open Gp.Bind (Bnd Slots live GoodB freeN getS In64)
theorem ϟ {o1 o2:Nat->Nat->Prop} {j n:Nat} (ap:∀k k' b,o1 k b->o1 k' b->k=k') (lt:∀k b,o1 k b->b<n) (same:∀k b,k≠j->o2 k b->o1 k b) (new:∀b,o2 j b->o1 j b\/n<=b):
  ∀k k' b,o2 k b->o2 k' b->k=k':=by
 intro k k' b h h';by_cases hk:k=j<;>by_cases hk':k'=j
 ·omega
 ·subst hk;have g':=same k' b hk' h';rcases new b h with g|g
  ·exact ap _ _ b g g'
  ·have:=lt _ b g';omega
 ·subst hk';have g:=same k b hk h;rcases new b h' with g'|g'
  ·exact ap _ _ b g g'
  ·have:=lt _ b g;omega
 ·exact ap _ _ b (same k b hk h) (same k' b hk' h')
variable {w w':θ} {a:EA} {c:Cf} {e:ES}
theorem nH.off (h:nH w a c e) {j k b:Nat} (hk:own a k b) (hn:k≠j):¬own a j b:=λhj=>hn (h.ap k j b hk hj)
theorem nH.setB (h:nH w a c e) {A:Qm} {S:Slots} {Mi Mo:ByteArray->Option Int} (hf:gW w w' (own a 3)) (u:DB w' A c.nb.toNat S Mi Mo) (hd:A.d=a.B.d) (I:∀x,fp A x->fp a.B x\/w.heap.size<=x) (J:∀x,fp A x->x<w'.heap.size):
  nH w' {a with B:=A} c {e with S:=S,Mi:=Mi,Mo:=Mo}:=by
 have same:∀k b,k≠3->own {a with B:=A} k b->own a k b:=by
  intro k b hk ho
  match k,ho with
  |0,ho=>exact ho
  |1,ho=>exact ho
  |2,ho=>exact ho
  |3,_=>exact absurd rfl hk
  |4,ho=>exact ho
  |5,ho=>exact ho
  |(n+6),ho=>exact ho
 have o:∀k b,own a k b->k≠3->¬own a 3 b:=λk b hk hn=>h.off hk hn;refine⟨h.cf,?_,h.pl.fr hf (λb hb=>o 1 b hb (by decide)),h.qr.fr hf (o 2 _ (.inl rfl) (by decide)) (o 2 _ (.inr rfl) (by decide)),h.qo,u,h.se.fr hf (λb hb=>o 4 b hb (by decide)),h.wh.fr hf (λb hb=>o 5 b hb (by decide)),ϟ (j:=3) h.ap h.lt same (λb hb=>I b hb),?_⟩
 ·have:=h.hd.fr hf (o 0 _ rfl (by decide));simp only[hd];exact this
 ·intro k b hb;by_cases hk:k=3
  ·subst hk;exact J b hb
  ·exact Nat.lt_of_lt_of_le (h.lt k b (same k b hk hb)) hf.size
theorem nH.aiR (h:nH w a c e) {G:List (PN.O3×Unit)} (hf:gW w w' (·=a.g)) (hp:PN.PL w' a.p a.g a.ps c.lo c.hi c.pl G):nH w' a c {e with G:=G}:=by
 have o:∀k b,own a k b->k≠1->¬b=a.g:=λk b hk hn he=>h.off hk hn (he ▸ .inr (.inl rfl));exact⟨h.cf,h.hd.fr hf (o 0 _ rfl (by decide)),hp,h.qr.fr hf (o 2 _ (.inl rfl) (by decide)) (o 2 _ (.inr rfl) (by decide)),h.qo,h.db.fr hf (λb hb=>o 3 b hb (by decide)),h.se.fr hf (λb hb=>o 4 b hb (by decide)),h.wh.fr hf (λb hb=>o 5 b hb (by decide)),h.ap,
  λk b hb=>Nat.lt_of_lt_of_le (h.lt k b hb) hf.size⟩
theorem nH.aiS (h:nH w a c e) {Q:List Int} (hf:gW w w' (·=a.qs)) (hq:QN.QR w' a.qb a.qs Q c.q) (ho:QN.QOk Q c.q):nH w' a c {e with Q:=Q}:=by
 have o:∀k b,own a k b->k≠2->¬b=a.qs:=λk b hk hn he=>h.off hk hn (he ▸ .inr rfl);exact⟨h.cf,h.hd.fr hf (o 0 _ rfl (by decide)),h.pl.fr hf (λb hb=>o 1 b hb (by decide)),hq,ho,h.db.fr hf (λb hb=>o 3 b hb (by decide)),h.se.fr hf (λb hb=>o 4 b hb (by decide)),h.wh.fr hf (λb hb=>o 5 b hb (by decide)),h.ap,
  λk b hb=>Nat.lt_of_lt_of_le (h.lt k b hb) hf.size⟩
theorem nH.setW (h:nH w a c e) {ss:List fU} {l:WN.PL} {wn:Nat} {tn:Int} {F:Gp.Wh.Fs} (hf:gW w w' (own a 5)) (hw:WN.WS w' a.d a.m ss l wn tn c.ns F) (u:∀x,WN.Fz a.d a.m ss x->WN.Fz a.d a.m a.ss x\/w.heap.size<=x):
  nH w' {a with ss:=ss} c {e with l:=l,wn:=wn,tn:=tn,F:=F}:=by
 have same:∀k b,k≠5->own {a with ss:=ss} k b->own a k b:=by
  intro k b hk ho
  match k,ho with
  |0,ho=>exact ho
  |1,ho=>exact ho
  |2,ho=>exact ho
  |3,ho=>exact ho
  |4,ho=>exact ho
  |5,_=>exact absurd rfl hk
  |(n+6),ho=>exact ho
 have o:∀k b,own a k b->k≠5->¬own a 5 b:=λk b hk hn=>h.off hk hn;refine⟨h.cf,h.hd.fr hf (o 0 _ rfl (by decide)),h.pl.fr hf (λb hb=>o 1 b hb (by decide)),h.qr.fr hf (o 2 _ (.inl rfl) (by decide)) (o 2 _ (.inr rfl) (by decide)),h.qo,h.db.fr hf (λb hb=>o 3 b hb (by decide)),h.se.fr hf (λb hb=>o 4 b hb (by decide)),hw,ϟ (j:=5) h.ap h.lt same (λb hb=>u b hb),?_⟩;intro k b hb;by_cases hk:k=5
 ·subst hk;exact hw.wm.lt hb
 ·exact Nat.lt_of_lt_of_le (h.lt k b (same k b hk hb)) hf.size
def jK (a:EA) (b:Nat):Prop:=∃k,own a k b
def ϥ (S:Slots) (i:Int):Nat:=((live 0 S).filter λx=>x.2.sw==i).length
def aeO (c:Cf) (b:Bnd):Prop:=
 (b.pr=1\/b.pr=6\/b.pr=17)/\(0<=b.ad/\b.ad<=4294967295)/\b.oad∈c.pl/\(0<=b.po/\b.po<=65535)/\(0<=b.opo/\b.opo<=65535)/\b.pr=b.opr/\RV c b.sw
theorem Xw.b {c:Cf} {b:Bnd} (h:Xw c b):aeO c b:=by
 obtain⟨h1,h2,h3⟩:=h;exact⟨h1,⟨by have:=h2.1;omega,by have:=h2.2.1;omega⟩,h3⟩
structure Inv (c:Cf) (e:ES):Prop where
 ql:e.Q.length=c.sw.len
 cn:∀i,RV c i->QN.at_ e.Q i=(ϥ e.S i:Int)
 gv:∀o:PN.O3,o∈e.G.map (·.1)↔∃(j:Nat) (b:Bnd),e.S[j]? =some (some b)/\(b.opr,b.oad,b.opo)=o
 mp:∀(j:Nat) (b:Bnd),e.S[j]? =some (some b)->aeO c b
end Go.Proofs.EN
end
section
namespace Go.Proofs.EN
open Gp Go.Proofs
open Gp.Bind (Bnd Slots live GoodB freeN getS In64)
theorem afH {S:Slots} {i:Nat} {b:Bnd} (h:freeN S=some i) (k:Int):ϥ (S.set i (some b)) k=ϥ S k+if b.sw=k then 1 else 0:=by
 obtain⟨_,_,_,_,_,_,h7⟩:=Gp.Bind.jr 0 h;have e:(live 0 S).filter (λx=>x.2.sw==k)=((live 0 S).take i).filter (λx=>x.2.sw==k)++((live 0 S).drop i).filter (λx=>x.2.sw==k):=by
  rw[<- filter_append,take_append_drop]
 unfold ϥ;rw[h7 b,e,filter_append,List.length_append,List.length_append,List.filter_cons];by_cases hb:b.sw=k
 ·subst hb;simp only[beq_self_eq_true,if_true,length_cons];omega
 ·have:(b.sw==k)=false:=by simpa using hb
  simp[this,hb]
theorem at_set {l:List Int} {i j v:Int} (hi:0<=i) (hl:i<(l.length:Int)) (hj:0<=j):QN.at_ (l.set i.toNat v) j=if i=j then v else QN.at_ l j:=by
 unfold QN.at_;rw[List.getD_eq_getElem?_getD,List.getD_eq_getElem?_getD,List.getElem?_set];by_cases h:i=j
 ·subst h;simp only[if_true];rw[if_pos (by omega)];rfl
 ·have:¬i.toNat=j.toNat:=by omega
  simp[this,h]
variable {c:Cf} {e:ES}
theorem Inv.add (h:Inv c e) {i:Nat} {b:Bnd} (hf:freeN e.S=some i) (hm:aeO c b) (Mi Mo:ByteArray->Option Int):
  Inv c {e with S:=e.S.set i (some b),Mi:=Mi,Mo:=Mo,Q:=e.Q.set b.sw.toNat (QN.at_ e.Q b.sw+1),G:=zn e.G (b.opr,b.oad,b.opo) ()}:=by
 have J:=hm.2.2.2.2.2.2;obtain⟨s0,s1⟩:=J;obtain⟨N,O,_⟩:=Gp.Bind.jr 0 hf;have R:=h.ql;have hg:∀(j:Nat) (x:Bnd),(e.S.set i (some b))[j]? =some (some x)↔(j=i/\x=b)\/(j≠i/\e.S[j]? =some (some x)):=by
  intro j x;rw[List.getElem?_set];by_cases hj:i=j
  ·subst hj;simp[N,eq_comm]
  ·have:j≠i:=λh=>hj h.symm;simp[hj,this]
 refine⟨by simp[R],λk hk=> ?_,λo=> ?_,λj x hx=> ?_⟩
 ·rw[at_set s0 (by omega) hk.1,afH hf];by_cases hb:b.sw=k
  ·subst hb;simp only[if_true];rw[h.cn _ ⟨s0,s1⟩];omega
  ·simp only[hb,if_false];rw[h.cn _ hk];omega
 ·have u:o∈e.G.map (·.1)↔∃(j:Nat) (x:Bnd),j≠i/\e.S[j]? =some (some x)/\(x.opr,x.oad,x.opo)=o:=by
   rw[h.gv];constructor
   ·rintro⟨j,x,hx,ho⟩;exact⟨j,x,(λhj=>by rw[hj,O] at hx;cases hx),hx,ho⟩
   ·rintro⟨j,x,_,hx,ho⟩;exact⟨j,x,hx,ho⟩
  have hm':o∈(zn e.G (b.opr,b.oad,b.opo) ()).map (·.1)↔o∈e.G.map (·.1)\/(b.opr,b.oad,b.opo)=o:=by
   rw[QC];split
   ·rename_i I;exact⟨.inl,λh=>h.elim id λh=>h ▸ I⟩
   ·rw[List.mem_append,mem_singleton,eq_comm (a:=o)]
  show o∈(zn e.G (b.opr,b.oad,b.opo) ()).map (·.1)↔_;rw[hm',u];constructor
  ·rintro(⟨j,x,hj,hx,ho⟩|ho)
   ·exact⟨j,x,(hg j x).2 (.inr ⟨hj,hx⟩),ho⟩
   ·exact⟨i,b,(hg i b).2 (.inl ⟨rfl,rfl⟩),ho⟩
  ·rintro⟨j,x,hx,ho⟩;rcases(hg j x).1 hx with ⟨rfl,rfl⟩|⟨hj,hx⟩
   ·exact .inr ho
   ·exact .inl ⟨j,x,hj,hx,ho⟩
 ·rcases(hg j x).1 hx with ⟨rfl,rfl⟩|⟨_,hx⟩
  ·exact hm
  ·exact h.mp j x hx
end Go.Proofs.EN
end
section
namespace Go.Proofs.EN
open Gp Go.Proofs
open Gp.Bind (Bnd Slots live GoodB freeN getS In64)
theorem Xw.ok {c:Cf} {b:Bnd} (h:Xw c b) (hc:aij c):b.ok:=by
 obtain⟨h1,h2,h3,h4,h5,h6,h7,h8⟩:=h;obtain⟨h2a,h2b,_⟩:=h2;obtain⟨h3a,h3b,_⟩:=hc.hp _ h3;have hl:=hc.sw;constructor
 ·intro n hn;simp only[Bnd.i,mem_cons,not_mem_nil,or_false] at hn;unfold In64;rcases hn with rfl|rfl|rfl|rfl<;>omega
 ·intro n hn;simp only[Bnd.o,mem_cons,not_mem_nil,or_false] at hn;unfold In64;rcases hn with rfl|rfl|rfl<;>omega
theorem KF:∀{S:Slots} (k:Nat),freeN S=none->(live k S).length=S.length
 |[],_,_=>rfl
 |none::r,_,h=>by simp[freeN] at h
 |some c::r,k,h=>by
  simp only[freeN,Option.map_eq_none_iff] at h;simp only[live,length_cons,KF (k+1) h]
def Xv (c:Cf) (e:ES) (b:Bnd):Int:=
 if ¬Xw c b then 1 else if (e.Mi (Bind.keyS b.i)).isSome||(e.Mo (Bind.keyS b.o)).isSome then 9 else if QN.CO e.Q b.sw>=c.q then 10 else if ((live 0 e.S).length:Int)>=c.nb then 7 else 0
variable {w w':θ} {a:EA} {c:Cf} {e:ES}
theorem map_ok (h:nH w a c e) (hi:Inv c e) (b:Bnd) (ac:b.st=true):
  vM (some ⟨a.x,0,none⟩) b.sw b.pr b.ad b.po b.opr b.oad b.opo w λr w'=>r=Xv c e b/\
   ((r≠0/\Ext w w')\/(r=0/\Xw c b/\gW w w' (jK a)/\∃A i Mi Mo Q G,freeN e.S=some i/\(∀x,fp A x->fp a.B x\/w.heap.size<=x)/\
    nH w' {a with B:=A} c {e with S:=e.S.set i (some b),Mi:=Mi,Mo:=Mo,Q:=Q,G:=G}/\Inv c {e with S:=e.S.set i (some b),Mi:=Mi,Mo:=Mo,Q:=Q,G:=G})):=by
 apply KZ;refine gq λt w1 r1 e1 z1 f1=> ?_;have h1:=h.ext f1;refine cmS0 (Dv h1) ?_;rintro r w1 ⟨rfl,hw⟩;subst hw;simp -zeta only[Bool.not_true,cond_false,sx,r1.cell];refine cmS0 (ahR h1 b) ?_;rintro r w2 ⟨rfl,f2⟩;by_cases hm:Xw c b;rotate_left
 ·simp only[hm,decide_false,Bool.not_false,cond_true];refine⟨by unfold Xv;rw[if_pos hm],.inl ⟨by decide,f1.trans f2⟩⟩
 have bok:=hm.ok h.cf;have x2:=f2.trans (Ext.drew w2);have h2:=h1.ext x2;have r2:=r1.ext x2;simp -zeta only[hm,decide_true,Bool.not_true,cond_false,sx,h2.c2,r2.cell];refine cmS4 (L_ h2.db b.sw b.pr b.ad b.po bok.1) ?_;rintro n1 t1 w3 ⟨rfl,rfl,f3⟩;have x3:=f3.trans (Ext.drew w3);have h3:=h2.ext x3;have r3:=r2.ext x3;simp -zeta only[sx,h3.c2,r3.cell];refine cmS4 (LY h3.db b.opr b.oad b.opo bok.2) ?_;rintro n2 t2 w4 ⟨rfl,rfl,f4⟩;have x4:=((f1.trans x2).trans x3).trans f4;intro J;have hJ:J ((e.Mi (Bind.keyS b.i)).isSome||(e.Mo (Bind.keyS b.o)).isSome):=by
  cases hd:((e.Mi (Bind.keyS b.i)).isSome||(e.Mo (Bind.keyS b.o)).isSome)
  rotate_left
  ·simp only[J,cond_true];exact⟨by unfold Xv;rw[if_neg (not_not_intro hm),if_pos hd],.inl ⟨by decide,x4⟩⟩
  have x5:=f4.trans (Ext.drew w4);have h5:=h3.ext x5;have r5:=r3.ext x5;simp only[J,cond_false,sx,h5.c1,h5.c25,r5.cell];refine cmS1 (QN.YT h5.qr _) ?_;rintro n w5 ⟨rfl,hw⟩;subst hw;refine⟨h5.c25,?_⟩;by_cases hq:QN.CO e.Q b.sw>=c.q
  ·simp only[hq,decide_true,cond_true];exact⟨by unfold Xv;rw[if_neg (not_not_intro hm),if_neg (by rw[hd];decide),if_pos hq],.inl ⟨by decide,x4.trans (Ext.drew w4)⟩⟩
  simp only[hq,decide_false,cond_false];refine cmS0 (Qx h5) ?_;rintro n w6 ⟨rfl,f6⟩;have x6:=(x4.trans (Ext.drew w4)).trans f6;by_cases u:((live 0 e.S).length:Int)>=c.nb
  ·simp only[u,decide_true,cond_true];exact⟨by unfold Xv;rw[if_neg (not_not_intro hm),if_neg (by rw[hd];decide),if_neg hq,if_pos u],.inl ⟨by decide,x6⟩⟩
  have y6:=f6.trans (Ext.drew w6);have h6:=h5.ext y6;have r6:=r5.ext y6;have xx:=x6.trans (Ext.drew w6);simp only[u,decide_false,cond_false,sx,h6.c1,r6.cell];obtain⟨s0,s1⟩:=hm.2.2.2.2.2.2;have Y:QN.ϸ e.Q b.sw:=⟨s0,by rw[hi.ql];exact s1⟩;have af:QN.CO e.Q b.sw=QN.at_ e.Q b.sw:=by unfold QN.CO;rw[if_pos Y]
  have Z:QN.DV e.Q c.q b.sw=(0,e.Q.set b.sw.toNat (QN.at_ e.Q b.sw+1)):=by
   unfold QN.DV;rw[if_pos Y,if_neg (by rw[<- af];exact hq)]
  have ht:t<w.drew.heap.size\/w.heap.size<=t:= .inr (by omega);refine cmS1 (QN.NG h6.qr h6.qo _) ?_;rintro n w7 ⟨rfl,q7,f7⟩;rw[Z] at q7;have o7:QN.QOk (e.Q.set b.sw.toNat (QN.at_ e.Q b.sw+1)) c.q:=by
   have:=QN.Λ h6.qo b.sw;rw[Z] at this;exact this
  have h7:=(h6.aiS f7 q7 o7).ext (Ext.drew w7);have r7:=(r6.fr f7 (λhe=>by have:=h.lt 2 a.qs (.inr rfl);omega)).drew;simp only[sx,h7.c0,r7.cell];have ag:(b.opr,b.oad,b.opo)∉e.G.map (·.1):=by
   intro hc;obtain⟨j,x,hx,ho⟩:=(hi.gv _).1 hc;have:e.Mo (Bind.keyS b.o)=some (j:Int):=(h.db.good.o _ _).2 ⟨j,x,hx,by simp only[Prod.mk.injEq] at ho;unfold Bnd.o;rw[ho.1,ho.2.1,ho.2.2],rfl⟩;rw[this] at hd;simp at hd
  have ah:b.opr=1\/b.opr=6\/b.opr=17:=by rw[<- hm.2.2.2.2.2.1];exact hm.1
  refine cmS1 (PN.agc h7.pl ah hm.2.2.1 hm.2.2.2.2.1.1 (by have:=hm.2.2.2.2.1.2;omega) ag) ?_;rintro n w8 ⟨rfl,p8,f8⟩;have h8:=(h7.aiR f8 p8).ext (Ext.drew w8);have r8:=(r7.fr f8 (λhe=>by have:=h.lt 1 a.g (.inr (.inl rfl));omega)).drew;simp only[sx,h8.c2,r8.cell];have I:=aa5 h8.db b bok (h8.lt 3);rw[ac] at I;refine cmS9 I ?_;rintro n m w9 ⟨hr,f9,A,S',Mi',Mo',d9,ai,aa,R,hS'⟩;have N:∃i,freeN e.S=some i:=by
   cases aj:freeN e.S with
   |some i=>exact⟨i,rfl⟩
   |none=>
    have h10:=KF 0 aj;have h11:=h.db.len;have:=h.cf.b1;omega
  obtain⟨i,U⟩:=N;have O:vG e.S e.Mi e.Mo b=((i:Int),0):=by
   unfold vG;rw[hd,if_neg (by decide),U]
  simp only[O] at hr hS';simp only[if_true,toNat_natCast] at hS'
  cases hr
  subst hS';have h9:=h8.setB f9 d9 ai (λx hx=>aa x hx) R;have m0:Xv c e b=0:=by
   unfold Xv;rw[if_neg (not_not_intro hm),if_neg (by rw[hd];decide),if_neg hq,if_neg u]
  refine⟨m0.symm,.inr ⟨rfl,by trivial,?_,A,i,Mi',Mo',_,_,U,λx hx=> ?_,h9,hi.add U hm.b Mi' Mo'⟩⟩
  ·have g7:gW w w7 (jK a):=(xx.fr f7).mono λy hy=>⟨2,.inr hy⟩;have g8:gW w w8 (jK a):=(g7.ext (Ext.drew _)).trans f8 λy _ hy=>⟨1,.inr (.inl hy)⟩;exact(g8.ext (Ext.drew _)).trans f9 λy _ hy=>⟨3,hy⟩
  ·rcases aa x hx with hx|hx
   ·exact .inl hx
   ·refine .inr ?_;have e7:=f7.size;have e8:=f8.size;have ex:=xx.size;have d7:w7.drew.heap.size=w7.heap.size:=rfl;have d8:w8.drew.heap.size=w8.heap.size:=rfl;omega
 cases hd1:(e.Mi (Bind.keyS b.i)).isSome
 ·rw[hd1,Bool.false_or] at hJ;have:(e.Mi (Bind.keyS [b.sw,b.pr,b.ad,b.po])).isSome=false:=hd1;simp -zeta only[this,cond_false];exact hJ
 ·rw[hd1,Bool.true_or] at hJ;have:(e.Mi (Bind.keyS [b.sw,b.pr,b.ad,b.po])).isSome=true:=hd1;simp -zeta only[this,cond_true];exact hJ
end Go.Proofs.EN
end
section
namespace Gp
open Go Go.Proofs
def Wj (P:Program) (ks:List Shape) (v:Value) (C:Nat->b_) (xs:List (yu ks)):Prop:=
 match v with
 | .func (.func f) first cap=>ni P f=true/\∀(l:Nat) (w:θ) (Q:Nat->Nat->b_) (D:b_),
   (∀N i W,Q N i W->C i W)->(∀N i W W',Q N i W->gW W W' (λb=>w.heap.size<=b/\b<N)->Q N i W')->(∀W W',D W->gW W W' (w.heap.size<=·)->D W')->
   (∀N i x W (K:Bool->b_),xs[i]? =some x->Q N i W->w.heap.size<=N->N<=W.heap.size->(∀W' S,Q N (i+1) W'->gW W W' S->(∀b,w.heap.size<=b->b<N->¬S b)->K true W')->(∀W' S,D W'->gW W W' S->(∀b,w.heap.size<=b->b<N->¬S b)->K false W')->JW P l (encR ks x) W K)->
   (∀W,Ext w W->Q W.heap.size 0 W)->FV P [] f (first.toList++(Value.func (.yield l) #[] #[]::cap.toList)) w λ_ w'=>(∃N,Q N xs.length w')\/D w'
 |_=>False
theorem acY {P:Program} {ks:List Shape} {v:Value} {C:Nat->b_} {xs:List (yu ks)} {w:θ} {body:Nat->yu ks->θ->(Exit->b_)->Prop} {Kn Kr:b_} {Kx:List (Nat×(b_))}
  (hv:Wj P ks v C xs) (I:Nat->Nat->b_)
  (h0:∀W,Ext w W->w.heap.size+2<=W.heap.size->I W.heap.size 0 W)
  (hC:∀N i W,I N i W->C i W)
  (stI:∀N i W W',I N i W->gW W W' (λb=>w.heap.size<b/\b<N)->I N i W')
  (step:∀N i x W Kb,xs[i]? =some x->I N i W->w.heap.size+1<N->N<=W.heap.size->(∀W' S,gW (gG W (w.heap.size+1)) W' S->(∀b,w.heap.size<=b->b<N->¬S b)->I N (i+1) W'->Kb .normal W')->body (w.heap.size+1) x W Kb)
  (fn:∀N W,I N xs.length W->Mark none w W->Kn W):
  yI P none ks v w body Kn Kr Kx:=by
 unfold yI;refine⟨by simp,?_⟩;unfold Wj at hv;split at hv
 ·rename_i f first cap
  obtain⟨hb,hv⟩:=hv;refine⟨hb,λl L w1 ctx=> ?_⟩;have hl:l=w.heap.size+1:=ctx.at_;subst hl;have hz0:w1.heap.size=w.heap.size+1+1:=ctx.size;have ls:∀W st p,gW W (iQ W (w.heap.size+1) st p) (·=w.heap.size+1):=λW st p=>gW.iQ W _ st p;have mset:∀W st p,Mark none w W->Mark none w (iQ W (w.heap.size+1) st p):=λW st p hm hn=>by
   rw[show (iQ W (w.heap.size+1) st p).heap[w.heap.size]? =W.heap[w.heap.size]? by simp[iQ,getElem?_modify]];exact hm hn
  have mbody:∀W W' S,Mark none w W->w.heap.size+1<W.heap.size->gW (gG W (w.heap.size+1)) W' S->¬S w.heap.size->Mark none w W':=λW W' S hm J hf hs hn=>by
   rw[hf.same _ (by simp[gG];omega) hs];rw[show (gG W (w.heap.size+1)).heap[w.heap.size]? =W.heap[w.heap.size]? by simp[gG,getElem?_modify]];exact hm hn
  have llt:∀st p W,L st p W->w.heap.size+1<W.heap.size:=λst p W hL=>by
   obtain⟨lp,h⟩:=ctx.isLoop st p W hL;exact(Array.getElem?_eq_some_iff.1 h).1
  have lext:∀st p W W',L st p W->Ext W W'->L st p W':=λst p W W' hL he=>
   ctx.frame st p W W' hL ((he λ_=>False).same _ (llt st p W hL) (by simp))
  have hx1:Ext w w1:=λS=>⟨by omega,λb hb _=>ctx.old b hb,ctx.io⟩;have mext:∀W W',Mark none w W->w.heap.size+1<W.heap.size->Ext W W'->Mark none w W':=λW W' hm J he hn=>by
   rw[(he λ_=>False).same _ (by omega) (by simp)];exact hm hn
  refine Calls.mono (hv (w.heap.size+1) w1 (λN i W=>I N i W/\L .ready none W/\Mark none w W/\w.heap.size+1<N) (λ_=>False)
   (λN i W h=>hC N i W h.1) (λN i W W' h he=>⟨stI N i W W' h.1 (he.mono λb hb=>⟨by omega,hb.2⟩),ctx.frame _ _ _ _ h.2.1 (he.same _ (llt _ _ _ h.2.1) (by omega)),λhn=>by rw[he.same _ (by have:=llt _ _ _ h.2.1;omega) (by omega)];exact h.2.2.1 hn,h.2.2.2⟩)
   (λW W' h he=>h) ?_ ?_) ?_
  ·intro N i x W K hx ⟨hI,hL,hm,hN⟩ hN1 hN2 ht _;refine ctx.yield x W none K hL (step N i x W _ hx hI (by omega) hN2 ?_);intro W' S u hS hI';have hs:∀b,w.heap.size<=b->b<=w.heap.size+1->¬S b:=λb h1 h2=>hS b h1 (by omega);have hL':L .busy none W':=ctx.frame _ _ _ _ (ctx.busy _ _ hL) (u.same _ (by simpa [gG] using llt _ _ _ hL) (hs _ (by omega) (Nat.le_refl _)));refine⟨hL',none,rfl,ht _ (λb=>S b\/b=w.heap.size+1) ⟨stI _ _ _ _ hI' ((ls _ _ _).mono λb hb=>⟨by omega,by omega⟩),ctx.set _ _ _ _ _ hL',mset _ _ _ (mbody W W' S hm (llt _ _ _ hL) u (hs _ (Nat.le_refl _) (by omega))),hN⟩ ?_ ?_⟩
   ·exact((((gW.gG W (w.heap.size+1)).mono λb e=> .inr e).trans (u.mono λb e=> .inl e) λ_ _ e=>e).trans ((gW.iQ W' (w.heap.size+1) _ _).mono λb e=> .inr e) λ_ _ e=>e)
   ·rintro b hb1 hb2 (h|h)
    ·exact hS b (by omega) hb2 h
    ·omega
  ·intro W hW;exact⟨h0 W (hx1.trans hW) (by have:=hW.size;omega),lext _ _ _ _ ctx.ready hW,mext _ _ ctx.marks (by omega) hW,by have:=hW.size;omega⟩
  ·rintro e w2 ⟨he,h⟩;refine⟨he,?_⟩;rcases h with ⟨N,hI,hL,hm,hN⟩|h
   ·exact⟨.ready,none,hL,by simp,fn N _ (stI _ _ _ _ hI ((ls _ _ _).mono λb hb=>⟨by omega,by omega⟩)) (mset _ _ _ hm)⟩
   ·exact h.elim
 ·exact hv.elim
end Gp
namespace Go.Proofs.SN
open Gp Gp.Ses Go.Proofs
theorem aeT (most:Nat) (S:Slots) (A:Qm) (f0 f1:Nat) (k:Int):
  Wj υ yK (Value.func (.func yc) #[] #[(Value.pointer (some ⟨f0,0,none⟩)),(Value.pointer (some ⟨f1,0,none⟩))])
   (λi W=>Row W f0 [.pointer (some ⟨A.d,0,none⟩)]/\Row W f1 [Β k]/\∃A' S' M',TA W A' most S' M'/\A'.d=A.d/\(i=0->S'=S)/\∀x∈(Uh S k).drop i,getS S' x.1=some x.2) (yS (Uh S k)):=by
 refine⟨by kernel_rfl,λn w Q D hC hQ hD hy h0=> ?_⟩;refine Calls.mono (FQ (a0:= .func (.yield n) #[] #[]) (f0:=⟨f0,0,none⟩) (f1:=⟨f1,0,none⟩) (K:=λw'=>(∃N,Q N (yS (Uh S k)).length w')\/D w') ?_) (λe w' h=>h);obtain⟨r0,r1,A1,S1,M1,ta,tA,hS,_⟩:=hC _ _ _ (h0 w (Ext.refl _));obtain rfl:=hS rfl;have hl:=ta.len;have hm:=ta.mx;have hr:=zH ta;rw[tA] at hr;simp only[sx,r0.cell];refine cmS0 hr ?_;rintro _ w2 ⟨rfl,hw⟩;subst hw;obtain⟨r0,r1,A2,S2,M2,h,hA,hS,_⟩:=hC _ _ _ (h0 w2.drew (Ext.drew _));obtain rfl:=hS rfl;have hh:=h.hd;rw[hA] at hh;simp only[sx,Bool.not_true,r0.cell,r1.cell,hh.cell];refine h.own.get k ?_;have hil:=Gp.Ses.abf S2 k;refine cmS2 (Ob ((h.own.buf k).sl jX (by omega)) (by omega)) ?_;rintro s3 w3 ⟨f3,b3,n3⟩;have q3:=h0 w3 ((Ext.drew _).trans f3);have z3:w2.heap.size<=w3.heap.size:=f3.size;have J:(yS (Uh S2 k)).length=(Uh S2 k).length:=by simp[yS]
 have hol:(Uh S2 k).length=(ids S2 k).length:=by rw[<- abo,List.length_map]
 rw[J];have l3:=b3.len;refine gX (λst W=>∃i:Nat,i<=(Uh S2 k).length/\st.1=(i:Int)/\Q w3.heap.size i W/\iV 1 eI W s3 (ids S2 k)/\w3.heap.size<=W.heap.size) (λst _=>(Uh S2 k).length - st.1.toNat) ⟨0,by omega,rfl,q3,b3,Nat.le_refl _⟩ ?_;rintro⟨x,⟨⟩⟩ W ⟨i,hi,rfl,hq,hb,hz⟩ next I
 obtain⟨r0,r1,A3,S3,M3,h,hA,_,hx⟩:=hC _ _ _ hq;have hh:=h.hd;rw[hA] at hh;have hl3:=h.len;by_cases O:i<(Uh S2 k).length
 ·have u:((i:Int)<(s3.len:Int)):=by omega
  have hS:(Uh S2 k)[i]? =some (Uh S2 k)[i]:=getElem?_eq_getElem O;have hx:=hx (Uh S2 k)[i] (by rw[List.mem_iff_getElem?];exact⟨0,by rw[List.getElem?_drop];exact hS⟩);generalize (Uh S2 k)[i]=y at hS hx;obtain⟨v,b⟩:=y;have hv:(ids S2 k)[i]? =some v:=by rw[<- abo,List.getElem?_map,hS];rfl
  obtain⟨hv0,hj⟩:=Gp.Ses.rH.1 hx;obtain⟨j,rfl⟩:∃j:Nat,v=(j:Int):=⟨v.toNat,by omega⟩;rw[toNat_natCast] at hj;have gl:=(List.getElem?_eq_some_iff.1 hj).1;have c:∀m,m<6->_:=h.slot hj;have c0:=c 0 (by omega);have c1:=c 1 (by omega);have c2:=c 2 (by omega);have c3:=c 3 (by omega);have c4:=c 4 (by omega);simp only[Nat.add_zero,iR,d_] at c0 c1 c2 c3 c4;rw[decide_eq_true u,cond_true];refine Il (hb.sl jX (by omega)) hv λa hc=> ?_;simp only[sx,hc,r0.cell,hh.cell,toNat_natCast,c0,c1,c2,c3,c4];refine⟨by omega,by omega,?_⟩;refine kR (hy w3.heap.size i ((j:Int),(b.bd,b.st,b.un,b.ra,b.rp,()),()) W _ ?_ hq z3 hz ?_ ?_)
  ·simp only[yS,List.getElem?_map,hS,Option.map_some]
  ·intro W' T hq' hf hT;refine⟨true,rfl,?_⟩;simp only[Bool.not_true,cond_false];rw[Α];refine I _ _ ⟨i+1,by omega,by simp,hq',hb.fr hf λc hc=>hT c (n3 c hc) (b3.lt hc),by have:=hf.size;omega⟩ (by simp only;omega)
  ·intro W' _ hd _ _;refine⟨false,rfl,?_⟩;simp only[Bool.not_false,cond_true];exact .inr hd
 ·have u:¬((i:Int)<(s3.len:Int)):=by omega
  rw[decide_eq_false u,cond_false];have:i=(Uh S2 k).length:=by omega
  subst this;exact .inl ⟨_,hq⟩
end Go.Proofs.SN
end
section
namespace Go.Proofs.WN
end Go.Proofs.WN
namespace Go.Proofs.EN
open Gp Go.Proofs
open Gp.Bind (Bnd Slots live GoodB freeN getS In64)
open Gp.Ses (Ses)
variable {w w':θ} {a:EA} {c:Cf} {e:ES}
theorem nH.aiV (h:nH w a c e) {A:SN.Qm} {SS:Gp.Ses.Slots} {M:ByteArray->Option Int} (hf:gW w w' (own a 4)) (u:SN.TA w' A c.ns.toNat SS M) (hd:A.d=a.T.d) (I:∀x,SN.fp A x->SN.fp a.T x\/w.heap.size<=x) (J:∀x,SN.fp A x->x<w'.heap.size):
  nH w' {a with T:=A} c {e with SS:=SS,M:=M}:=by
 have same:∀k b,k≠4->own {a with T:=A} k b->own a k b:=by
  intro k b hk ho
  match k,ho with
  |0,ho=>exact ho
  |1,ho=>exact ho
  |2,ho=>exact ho
  |3,ho=>exact ho
  |4,_=>exact absurd rfl hk
  |5,ho=>exact ho
  |(n+6),ho=>exact ho
 have o:∀k b,own a k b->k≠4->¬own a 4 b:=λk b hk hn=>h.off hk hn;refine⟨h.cf,?_,h.pl.fr hf (λb hb=>o 1 b hb (by decide)),h.qr.fr hf (o 2 _ (.inl rfl) (by decide)) (o 2 _ (.inr rfl) (by decide)),h.qo,h.db.fr hf (λb hb=>o 3 b hb (by decide)),u,h.wh.fr hf (λb hb=>o 5 b hb (by decide)),ϟ (j:=4) h.ap h.lt same (λb hb=>I b hb),?_⟩
 ·have:=h.hd.fr hf (o 0 _ rfl (by decide));simp only[hd];exact this
 ·intro k b hb;by_cases hk:k=4
  ·subst hk;exact J b hb
  ·exact Nat.lt_of_lt_of_le (h.lt k b (same k b hk hb)) hf.size
def Grow (a a':EA) (n:Nat):Prop:=∀b,jK a' b->jK a b\/n<=b
theorem Grow.refl (a:EA) (n:Nat):Grow a a n:=λ_ h=> .inl h
theorem Grow.trans {a a' a'':EA} {n n':Nat} (h:Grow a a' n) (h':Grow a' a'' n') (hn:n<=n'):Grow a a'' n:=λb hb=>(h' b hb).elim (h b) λhb=> .inr (by omega)
theorem aeZ {ss':List fU} {n:Nat} (hs:∀x,WN.Fz a.d a.m ss' x->WN.Fz a.d a.m a.ss x\/n<=x):Grow a {a with ss:=ss'} n:=by
 rintro b ⟨k,hk⟩
 match k,hk with
 |0,hk=>exact .inl ⟨0,hk⟩
 |1,hk=>exact .inl ⟨1,hk⟩
 |2,hk=>exact .inl ⟨2,hk⟩
 |3,hk=>exact .inl ⟨3,hk⟩
 |4,hk=>exact .inl ⟨4,hk⟩
 |5,hk=>exact(hs b hk).imp (λh=>⟨5,h⟩) id
theorem VX {A:SN.Qm} {n:Nat} (hs:∀x,SN.fp A x->SN.fp a.T x\/n<=x):Grow a {a with T:=A} n:=by
 rintro b ⟨k,hk⟩
 match k,hk with
 |0,hk=>exact .inl ⟨0,hk⟩
 |1,hk=>exact .inl ⟨1,hk⟩
 |2,hk=>exact .inl ⟨2,hk⟩
 |3,hk=>exact .inl ⟨3,hk⟩
 |4,hk=>exact(hs b hk).imp (λh=>⟨4,h⟩) id
 |5,hk=>exact .inl ⟨5,hk⟩
theorem acL {A:Qm} {n:Nat} (hs:∀x,fp A x->fp a.B x\/n<=x):Grow a {a with B:=A} n:=by
 rintro b ⟨k,hk⟩
 match k,hk with
 |0,hk=>exact .inl ⟨0,hk⟩
 |1,hk=>exact .inl ⟨1,hk⟩
 |2,hk=>exact .inl ⟨2,hk⟩
 |3,hk=>exact(hs b hk).imp (λh=>⟨3,h⟩) id
 |4,hk=>exact .inl ⟨4,hk⟩
 |5,hk=>exact .inl ⟨5,hk⟩
theorem ah5 (w:θ) (d:Nat) (k:Int):uI (some ⟨d,0,none⟩) k w λv w'=>Ext w w'/\∃f0 f1,v=Value.func (.func yc) #[] #[(Value.pointer (some ⟨f0,0,none⟩)),(Value.pointer (some ⟨f1,0,none⟩))]/\Row w' f0 [.pointer (some ⟨d,0,none⟩)]/\Row w' f1 [Β k]/\w.heap.size<=f0/\w.heap.size<=f1:=by
 apply Jz;refine⟨rfl,?_⟩;refine gq λf0 w1 r1 e1 z1 g1=>⟨rfl,?_⟩;refine gq λf1 w2 r2 e2 z2 g2=> ?_;exact⟨g1.trans g2,f0,f1,rfl,r1.ext g2,r2,by omega,by omega⟩
theorem nH.ndl (h:nH w a c e):(e.l.map (·.1)).Nodup:=h.wh.wm.nd
theorem ahW {SS:Gp.Ses.Slots} {id:Int} {x:Int×Ses} (hx:x∈SN.Uh SS id):∃j:Nat,x.1=(j:Int)/\SS[j]? =some (some x.2)/\x.2.bd=id:=by
 obtain⟨v,b⟩:=x;obtain⟨h1,h2⟩:=List.mem_filter.1 hx;obtain⟨j,hj,hv⟩:=Gp.Ses.oJ.1 h1;exact⟨j,by omega,hj,by simpa using h2⟩
def NoS (e:ES):Prop:=live0 e.SS=[] where live0:=Gp.Ses.live 0
end Go.Proofs.EN
end
section
namespace Go.Proofs.PN
open Gp Go.Proofs.PO
open Gp.PoolN (stepL stepL_get alike cls oth)
theorem Ie {hi a b x:Int} (hb:0<b) (h:x∈stepL hi a b):a<=x/\x<=hi:=by
 obtain⟨i,hi'⟩:=List.getElem?_of_mem h;rw[stepL_get hb] at hi';split at hi'
 ·rename_i hle;simp only[Option.some.injEq] at hi';have:0<=b * (i:Int):=Int.mul_nonneg (by omega) (by omega);omega
 ·cases hi'
theorem Y9 {want lo hi:Int}:∀(rs:List (List Int)) (k:Nat),(∀r∈rs,∀x∈r,lo<=x/\x<=hi)->∀x∈fromL want k rs,lo<=x/\x<=hi
 |[],_,_,x,hx=>by simp[fromL] at hx
 |r::rs,k,h,x,hx=>by
  simp only[fromL,List.mem_append] at hx;rcases hx with hx|hx
  ·exact h r (by simp) x ((List.mem_filter.1 hx).1)
  ·exact Y9 rs (k+1) (λr' hr'=>h r' (by simp[hr'])) x hx
theorem QO (lo want:Int):lo<=alike lo want:=by unfold alike;omega
theorem adb {n lo hi want x:Int} (hx:x∈wantsG n lo hi want):lo<=x/\x<=hi:=by
 unfold wantsG at hx;rcases List.mem_append.1 hx with hx|hx
 ·unfold headL at hx;split at hx
  ·simp only[mem_singleton] at hx;omega
  ·simp at hx
 ·refine Y9 _ _ (λr hr y hy=> ?_) x hx;unfold rowsG at hr;split at hr
  ·simp only[mem_singleton] at hr;subst hr;exact Ie (by decide) hy
  ·simp only[rowsL,mem_cons,not_mem_nil,or_false] at hr;have a1:=QO (max lo (cls want).1) want;have a2:=QO (max lo (oth want).1) want;have a3:=QO lo (want+1);rcases hr with rfl|rfl|rfl|rfl
   ·have:=Ie (by decide) hy;omega
   ·have:=Ie (by decide) hy;omega
   ·have:=Ie (by decide) hy;omega
   ·have:=Ie (by decide) hy;omega
def GH (n ad:Int) (G:List (O3×Unit)) (xs:List Int):Option Int:=xs.find? λq=>decide ((n,ad,q)∉G.map (·.1))
def Ν (n:Int) (G:List (O3×Unit)) (xs:List Int):List Int->Option O3
 |[]=>none
 |ad::r=>match GH n ad G xs with
  |some q=>some (n,ad,q)
  |none=>Ν n G xs r
theorem Yg {n:Int} {G:List (O3×Unit)} {xs:List Int}:∀(a b:List Int),Ν n G xs a=none->Ν n G xs (a++b)=Ν n G xs b
 |[],_,_=>rfl
 |x::a,b,h=>by
  unfold Ν at h
  cases hf:GH n x G xs with
  |some q=>rw[hf] at h;cases h
  |none=>
   rw[hf] at h;show Ν n G xs (x::(a++b))=_;rw[Ν,hf];exact Yg a b h
theorem Ϸ {n ad q:Int} {G:List (O3×Unit)} {xs:List Int} (h:GH n ad G xs=some q):(n,ad,q)∉G.map (·.1)/\q∈xs:=by
 have h1:=List.find?_some h;exact⟨by simpa using h1,List.mem_of_find?_eq_some h⟩
theorem Ξ {n:Int} {G:List (O3×Unit)} {xs:List Int} {o:O3}:∀{l:List Int},Ν n G xs l=some o->o.1=n/\o.2.1∈l/\o.2.2∈xs/\o∉G.map (·.1)
 |[],h=>by simp[Ν] at h
 |x::l,h=>by
  rw[Ν] at h
  cases hf:GH n x G xs with
  |some q=>
   rw[hf] at h;simp only[Option.some.injEq] at h;subst h;have:=Ϸ hf;exact⟨rfl,by simp,this.2,this.1⟩
  |none=>
   rw[hf] at h;have:=Ξ (l:=l) h;exact⟨this.1,by simp[this.2.1],this.2.2⟩
def P6 (f m:Int):Int:=Int.tmod (Int.tmod f m+m) m
theorem afZ {f m:Int} (h:0<m):0<=P6 f m/\P6 f m<m/\ -m<Int.tmod f m/\Int.tmod f m<m:=by
 have h1:Int.tmod f m<m:=Int.tmod_lt_of_pos f h;have h2: -m<Int.tmod f m:=Int.lt_tmod_of_pos f h;have h3:0<=Int.tmod f m+m:=by omega
 exact⟨Int.tmod_nonneg _ h3,Int.tmod_lt_of_pos _ h,h2,h1⟩
def rotL (f:Int) (pl:List Int):List Int:=(List.range pl.length).map λi=>pl.getD (((P6 f pl.length).toNat+i) % pl.length) 0
def yH (n want f lo hi:Int) (pl:List Int) (G:List (O3×Unit)):Option O3:=Ν n G (wantsG n lo hi want) (rotL f pl)
theorem agH {f:Int} {pl:List Int} {x:Int} (h:x∈rotL f pl):x∈pl:=by
 unfold rotL at h;obtain⟨i,hi,rfl⟩:=List.mem_map.1 h;have hl:=List.mem_range.1 hi;rw[List.getD_eq_getElem?_getD,getElem?_eq_getElem (mod_lt _ (by omega))];exact List.getElem_mem _
theorem ac0 {f:Int} {pl:List Int} {i:Nat} (h:i<pl.length):(rotL f pl).take (i+1)=(rotL f pl).take i++[pl.getD (((P6 f pl.length).toNat+i) % pl.length) 0]:=by
 have hl:(rotL f pl).length=pl.length:=by simp[rotL]
 rw[take_add_one,getElem?_eq_getElem (by omega)];simp[rotL]
theorem TW {n want f lo hi:Int} {pl:List Int} {G:List (O3×Unit)} {o:O3} (h:yH n want f lo hi pl G=some o):o.1=n/\o.2.1∈pl/\(lo<=o.2.2/\o.2.2<=hi)/\o∉G.map (·.1):=by
 have:=Ξ h;exact⟨this.1,agH this.2.1,adb this.2.2.1,this.2.2.2⟩
end Go.Proofs.PN
end
section
namespace Go.Proofs.PN
open Gp Go.Proofs.PO
variable {w w':θ} {p g:Nat} {s:fU} {lo hi:Int} {pl:List Int} {G:List (O3×Unit)}
theorem PL.lt (h:PL w p g s lo hi pl G) {b:Nat} (hb:fp p g s b):b<w.heap.size:=by
 rcases hb with rfl|rfl|hb
 ·exact h.hd.lt
 ·exact h.gv.lt
 ·exact h.ad.lt hb
theorem ajg {f:Int} {m i:Nat} (h0:0<m) (h1:m<=16) (hi:i<m):
  Int.tmod (ο.wrap (Int.tmod (ο.wrap (Int.tmod f (m:Int)+(m:Int))) (m:Int)+(i:Int))) (m:Int)=((((P6 f m).toNat+i) % m:Nat):Int):=by
 obtain⟨a1,a2,a3,a4⟩:=afZ (f:=f) (m:=(m:Int)) (by omega);rw[Α (n:=Int.tmod f (m:Int)+(m:Int)) (by omega) (by omega)];show Int.tmod (ο.wrap (P6 f m+(i:Int))) (m:Int)=_;rw[Α];rw[Int.tmod_eq_emod_of_nonneg (by omega)];have:P6 f m+(i:Int)=(((P6 f m).toNat+i:Nat):Int):=by push_cast;omega
 rw[this];norm_cast
theorem aes {n ad q:Int} {G:List (O3×Unit)} {xs:List Int} {i:Nat} (hq:∀x∈xs.take i,(n,ad,x)∈G.map (·.1)) (hx:xs[i]? =some q) (hn:(n,ad,q)∉G.map (·.1)):GH n ad G xs=some q:=by
 obtain⟨u,rfl⟩:=List.getElem?_eq_some_iff.1 hx;unfold GH;rw[List.find?_eq_some_iff_append];refine⟨by simpa using hn,xs.take i,xs.drop (i+1),by rw[<- List.drop_eq_getElem_cons u,take_append_drop],λx hx=> ?_⟩;simpa using hq x hx
theorem ϵ {n ad:Int} {G:List (O3×Unit)} {xs:List Int} (hq:∀x∈xs,(n,ad,x)∈G.map (·.1)):GH n ad G xs=none:=by
 unfold GH;rw[List.find?_eq_none];intro q hq';have:=hq q hq';simpa using this
theorem NG (h:PL w p g s lo hi pl G) {n want f:Int} (hn:n=1\/n=6\/n=17) (h1:vg lo) (h2:vg hi) (h3:0<=want) (h4:want<=65535) (h0:1<=pl.length):
  qX (some ⟨p,0,none⟩) n want f w λx y z e w'=>gW w w' (·=g)/\
   ((∃o,yH n want f lo hi pl G=some o/\x=o.1/\y=o.2.1/\z=o.2.2/\e=0/\PL w' p g s lo hi pl (zn G o ()))\/
    (yH n want f lo hi pl G=none/\e=12/\Ext w w')):=by
 apply Nk;have hsl:s.len=pl.length:=h.sl.len;have ax:=h.ln;refine⟨rfl,gq λb6 w1 r6 e6 z6 f1=>gq λb8 w2 r8 e8 z8 f2=>gq λu w3 an e10 z10 f3=> ?_⟩;have x3:=(f1.trans f2).trans f3;have r6:=(r6.ext f2).ext f3;have r8:=r8.ext f3;have hp3:=h.ext x3;have lg:=h.gv.lt;have lp:=h.hd.lt;simp only[sx,r6.cell];refine cmS0 (PN.wu hp3) ?_;rintro _ w' ⟨rfl,hw⟩;subst hw;simp only[Bool.not_true,cond_false];refine cmS0 (PN.Ns n _) ?_;rintro _ w' ⟨rfl,hw⟩;subst hw;simp only[hn,decide_true,Bool.not_true,sx,r6.cell,hp3.hd.cell];refine⟨by omega,by omega,?_⟩;have hm:(s.len:Int)=(pl.length:Int):=by omega
 rw[hm];generalize ar:wantsG n lo hi want=xs;have ao:yH n want f lo hi pl G=Ν n G xs (rotL f pl):=by unfold yH;rw[ar]
 rw[ao];have hrl:(rotL f pl).length=pl.length:=by simp[rotL]
 refine gX (λst W=>∃i:Nat,i<=pl.length/\st.1.1=(i:Int)/\gW w' W (λ_=>False)/\Ν n G xs ((rotL f pl).take i)=none/\(∀d∈st.2,w'.heap.size<=d/\W.heap[d]? =some (.deferred (some [])))/\st.2.Nodup)
  (λst _=>((pl.length:Int) - st.1.1).toNat) ⟨0,by omega,rfl,gW.refl _ _,rfl,by simp,by simp⟩ ?_
 rintro⟨⟨ii,⟨⟩⟩,ds⟩ W ⟨i,hi1,hi2,f4,J,hd,nd⟩ next aa
 simp only at hi2 hd nd;subst hi2;have x4:Ext w' W:=(Ext.refl w').new f4 (by simp);have r6W:=r6.ext x4;have r8W:=r8.ext x4;have r10W:=an.ext x4;have ac:=hp3.ext x4;have sW:=x4.size;by_cases au:i<pl.length
 ·have O:((i:Int)<(pl.length:Int)):=by omega
  have ak:=Ext.drew W;simp only[O,decide_true,cond_true,sx,r6W.drew.cell,ac.hd.drew.cell];refine⟨by omega,?_⟩;rw[ajg (by omega) ax au];have aq:((P6 f pl.length).toNat+i) % pl.length<pl.length:=mod_lt _ (by omega);have af:pl[((P6 f pl.length).toNat+i) % pl.length]? =some (pl.getD (((P6 f pl.length).toNat+i) % pl.length) 0):=by
   rw[List.getD_eq_getElem?_getD,getElem?_eq_getElem aq];rfl
  have R:=ac0 (f:=f) au;generalize pl.getD (((P6 f pl.length).toNat+i) % pl.length) 0=ad at af R;refine SN.Il (ac.ext ak).sl af λay c0=> ?_;simp only[sx,c0];refine gq λI w4 ag e40 z40 g4=> ?_;have hp4:=(ac.ext ak).ext g4;have az:=(r6W.ext ak).ext g4;have cA:w4.cell? ay=some (Β ad):=mJ c0 g4;have l6:=r6.lt;have l8:=r8.lt;have l10:=an.lt;have hdz:W.drew.heap.size=W.heap.size:=rfl;simp only[cA,hp4.hd.cell,az.cell,true_and,sx];refine gY ag rfl rfl λw5 ag f5 z5=> ?_;have x5:Ext W w5:=(ak.trans g4).new (f5 (·=I) rfl) λx hx e=>by omega
  have aA:=r6W.ext x5;have hp5:=ac.ext x5;simp only[sx,aA.cell];refine cmS5 (ade (s:=s) hp5.hd hn h1 h2 h3 h4) ?_;rintro v w6 ⟨x6,C,av,hC⟩;rw[ar] at av;have ag:=ag.ext x6;have s5:=x5.size;have s6:=x6.size;have s1:=f1.size;have s2:=f2.size;have s3:=f3.size;have U:=x5.trans x6;have l40:W.heap.size<=I:=by omega
  have l40':I<w5.heap.size:=by omega
  have lq:lC none w6=w6.heap.size+1:=rfl;refine acX av (λj W'=>∃z:Int,Row W' I [Β n,Β ad,Β z]/\gW w6 W' (·=I)/\∀q∈xs.take j,(n,ad,q)∈G.map (·.1))
   (λe W'=>e= .ret/\∃q,GH n ad G xs=some q/\Row W' b8 [Β n,Β ad,Β q]/\Row W' u [Β 0]/\PL W' p g s lo hi pl (zn G (n,ad,q) ())/\gW w6 W' (λb=>b=I\/b=g\/b=b8\/b=u)) (by simp) ?_ ?_ ?_ ?_ ?_ ?_ ?_ ?_ ?_
  ·exact λW' hx _=>⟨0,ag.ext hx,hx _,by simp⟩
  ·rintro j W' ⟨z,_,hf,_⟩;exact hC W' _ hf (λb h1 h2 e=>by omega) (by omega)
  ·rintro j W' W'' ⟨z,hr,hf,hq⟩ hf';rw[lq] at hf';exact⟨z,hr.fr hf' (by omega),hf.trans hf' λx hx e=>by omega,hq⟩
  ·rintro e W' W'' ⟨he,q,q1,q2,q3,q4,q5⟩ hf';rw[lq] at hf';refine⟨he,q,q1,q2.fr hf' (by omega),q3.fr hf' (by omega),q4.fr hf' (λb hb=> ?_),q5.trans hf' λx hx e=>by omega⟩;have:=h.lt hb;have:=x3.size;omega
  ·exact λe W' hJ=> .inl hJ.1
  ·rintro j ⟨q,⟨⟩⟩ W' Kb hx ⟨z,hr,hf,hq⟩ ah hn2 hj2;rw[Uf] at hx;obtain⟨q',hq',he⟩:=Option.map_eq_some_iff.1 hx;have aB:q'=q:=congrArg Prod.fst he;subst aB;rw[lq] at ah hn2 hj2 ⊢;simp only[];refine g_ hr rfl (by simp) λW2 r2 f2' z2=> ?_;refine⟨(f2' (·=I) rfl).same _ ah (by omega),?_⟩;simp only[List.set_cons_succ,List.set_cons_zero] at r2;have fb:gW w6 (gG W2 (w6.heap.size+1)) (·=I):=(hf.trans (f2' (·=I) rfl) λ_ _ e=>e).trans (gW.gG W2 _) λx hx e=>by omega
   have fc:gW (gG W' (w6.heap.size+1)) (gG W2 (w6.heap.size+1)) (·=I):=Ip (f2' (·=I) rfl) _;have rb40:Row (gG W2 (w6.heap.size+1)) I _:=r2.fr (gW.gG W2 _) (by omega);generalize gG W2 (w6.heap.size+1)=W3 at fb fc rb40 ⊢;have k6:=(r6W.ext U).fr fb (by omega);have k8:=(r8W.ext U).fr fb (by omega);have aC:=(r10W.ext U).fr fb (by omega);have kp:PL W3 p g s lo hi pl G:=(ac.ext U).fr fb λb hb e=>by have:=h.lt hb;have:=x3.size;omega
   have fd:gW W3 W3.drew (·=I):=gW.drew _ _;have kpd:=kp.ext (Ext.drew W3);have kpd2:=kpd.ext (Ext.drew W3.drew);simp only[sx,k6.drew.cell,kpd.hd.cell,rb40.drew.cell];have sz:W.heap.size<=W3.heap.size:=by have:=fb.size;omega
   refine FW (k:= .bool) kpd.gv eqO (n,ad,q') (agf _) (λhm=> ?_) (λb hb=> ?_)
   ·have hm:=Bz.1 hm;simp only[iY,cond_false,sx,k6.drew.drew.cell,kpd2.hd.cell,rb40.drew.drew.cell];refine xP (ev:=evU) kpd2.gv eqO (n,ad,q') () (agf _) λW4 m4 f4' z4=> ?_;have gb:∀x,I<=x\/x=b6\/x=b8\/x=u->x≠g:=λx hx=>by omega
    have aD:=rb40.drew.drew.fr f4' (gb _ (by omega));simp only[sx,aD.cell];refine gY (k8.drew.drew.fr f4' (gb _ (by omega))) rfl rfl λW5 q8 g8 z8'=> ?_;have aE:=(aC.drew.drew.fr f4' (gb _ (by omega))).fr (g8 (·=b8) rfl) (by omega);refine g_ aE rfl (by simp) λW6 aw ai z10'=> ?_;simp only[List.set_cons_zero] at aw;have ft:gW W3 W6 (λb=>b=I\/b=g\/b=b8\/b=u):=
     ((((gW.drew W3 _).trans (gW.drew _ _) λ_ _ e=>e).trans (f4'.mono (S':=λb=>b=I\/b=g\/b=b8\/b=u) λb e=>by omega) λ_ _ e=>e).trans ((g8 (·=b8) rfl).mono (S':=λb=>b=I\/b=g\/b=b8\/b=u) λb e=>by omega) λ_ _ e=>e).trans
      ((ai (·=u) rfl).mono (S':=λb=>b=I\/b=g\/b=b8\/b=u) λb e=>by omega) λ_ _ e=>e
    have p4:PL W4 p g s lo hi pl (zn G (n,ad,q') ()):=⟨kpd2.hd.fr f4' h.pg,kpd2.ad.fr f4' (λb hb e=>h.sg (e ▸ hb)),m4,NM h.nd _ _,h.ln,h.pg,h.sp,h.sg⟩;have nb:∀b,fp p g s b->b≠b8/\b≠u:=λb hb=>by have:=h.lt hb;omega
    have p6:=(p4.fr (g8 (·=b8) rfl) (λb hb=>(nb b hb).1)).fr (ai (·=u) rfl) (λb hb=>(nb b hb).2);refine hj2 .ret W6 (λb=>b=I\/b=g\/b=b8\/b=u) ((fc.mono λb e=> .inl e).trans ft λ_ _ e=>e) (λb e=>by omega) ⟨rfl,q',aes hq hq' hm,q8.fr (ai (·=u) rfl) (by omega),aw,p6,(fb.mono λb e=> .inl e).trans ft λ_ _ e=>e⟩
   ·have hm:(n,ad,q')∈G.map (·.1):=Classical.byContradiction λhc=>by rw[Bz.2 hc] at hb;cases hb
    simp only[evU,iY,cond_true];refine hn2 _ (·=I) (fc.trans fd λ_ _ e=>e) (λb e=>by omega) ⟨q',rb40.drew,fb.trans fd λ_ _ e=>e,λx hx'=> ?_⟩;rw[take_add_one,hq'] at hx';rcases List.mem_append.1 hx' with hx'|hx'
    ·exact hq x hx'
    ·have:x=q':=by simpa using hx'
     rw[this];exact hm
  ·rintro W' ⟨z,hr,hf,hq⟩ Y;have Y:=Y rfl;have aF:GH n ad G xs=none:=ϵ λx hx=>hq x (by rw[List.take_of_length_le (by simp[yP])];exact hx);have fz:gW W W' (λ_=>False):=(U.new hf λb hb e=>by omega) _;refine aa _ _ ⟨i+1,by omega,by rw[Α];push_cast;rfl,f4.trans fz λ_ _ e=>e,?_,?_,?_⟩ ?_
   ·rw[R,Yg _ _ J,Ν,aF];rfl
   ·intro d N;rcases List.mem_cons.1 N with rfl|N
    ·exact⟨by omega,Y⟩
    ·obtain⟨d1,d2⟩:=hd d N;have Z:d<W.heap.size:=(Array.getElem?_eq_some_iff.1 d2).1;exact⟨d1,by rw[fz.same d Z (by simp)];exact d2⟩
   ·simp only[nodup_cons];refine⟨λN=> ?_,nd⟩;have Z:w6.heap.size<W.heap.size:=(Array.getElem?_eq_some_iff.1 (hd _ N).2).1;omega
   ·simp only;rw[Α];omega
  ·rintro W' ⟨_,q,q1,q2,q3,q4,q5⟩ Y;have Y:=Y rfl;have q5s:=q5.size;refine Dq (n:=w'.heap.size) _ W' (λd N=> ?_) ?_ λw7 f7 z7=> ?_
   ·rcases List.mem_cons.1 N with rfl|N
    ·exact⟨by omega,Y⟩
    ·obtain⟨d1,d2⟩:=hd d N;have Z:d<W.heap.size:=(Array.getElem?_eq_some_iff.1 d2).1;exact⟨d1,by rw[q5.same d (by omega) (by omega),(U λ_=>False).same d Z (by simp)];exact d2⟩
   ·simp only[nodup_cons];refine⟨λN=> ?_,nd⟩;have Z:w6.heap.size<W.heap.size:=(Array.getElem?_eq_some_iff.1 (hd _ N).2).1;omega
   ·have g8:=q2.fr f7 (by omega);have ai:=q3.fr f7 (by omega);simp only[sx,g8.cell,ai.cell];have aj:Ν n G xs (rotL f pl)=some (n,ad,q):=by
     have e:rotL f pl=(rotL f pl).take i++(ad::(rotL f pl).drop (i+1)):=by
      conv=>lhs;rw[<- take_append_drop (i+1) (rotL f pl),R,append_assoc]
      rfl
     rw[e,Yg _ _ J,Ν,q1]
    refine⟨?_,.inl ⟨(n,ad,q),aj,by trivial,by trivial,by trivial,by trivial,q4.fr f7 λb hb=>by have:=h.lt hb;have:=x3.size;omega⟩⟩;have t1:gW w W' (λb=>b=I\/b=g\/b=b8\/b=u):=((x3.trans x4).trans U).fr q5;have ha:gW w w7 (λb=>b=I\/b=g\/b=b8\/b=u\/w'.heap.size<=b):=(t1.mono λb e=>by omega).trans (f7.mono λb e=>by omega) λ_ _ e=>e;exact⟨ha.size,λb hb hne=>ha.same b hb (by omega),ha.io⟩
  ·rintro id W' ⟨hc,_⟩
   cases hc
 ·have aG:i=pl.length:=by omega
  have O:¬((i:Int)<(pl.length:Int)):=by omega
  simp only[O,decide_false,cond_false];have s1:=f1.size;have s2:=f2.size;have s3:=f3.size;refine gY r8W rfl rfl λw5 r5 f5 z5=> ?_;refine g_ (r10W.fr (f5 (·=b8) rfl) (by omega)) rfl (by simp) λw6 r6' f6 z6'=> ?_;have r5:=r5.fr (f6 (·=u) rfl) (by omega);simp only[List.set_cons_zero] at r6';have fz:gW w' w6 (λb=>b=b8\/b=u):=((f4.mono (S':=λb=>b=b8\/b=u) λ_ e=>e.elim).trans ((f5 (·=b8) rfl).mono (S':=λb=>b=b8\/b=u) λb e=> .inl e) λ_ _ e=>e).trans ((f6 (·=u) rfl).mono (S':=λb=>b=b8\/b=u) λb e=> .inr e) λ_ _ e=>e;have lb8:=r8.lt;have lb10:=an.lt;refine Dq (n:=w'.heap.size) ds w6 (λd am=>⟨(hd d am).1,?_⟩) nd λw7 f7 z7=> ?_
  ·have Z:d<W.heap.size:=(Array.getElem?_eq_some_iff.1 (hd d am).2).1;have:=(hd d am).1;rw[(f6 (·=u) rfl).same d (by omega) (by omega),(f5 (·=b8) rfl).same d Z (by omega)];exact(hd d am).2
  ·have g5:=r5.fr f7 (by omega);have g6:=r6'.fr f7 (by omega);simp only[sx,g5.cell,g6.cell];have aH:gW w' w7 (λb=>b=b8\/b=u):=fz.trans f7 λx hx e=>by omega
   have hx7:Ext w w7:=x3.new aH λb hb e=>by omega
   rw[aG,List.take_of_length_le (by omega)] at J;exact⟨hx7 _,.inr ⟨J,by trivial,hx7⟩⟩
end Go.Proofs.PN
end
