import Derived.Test.YtfndjkoiappemaaGreatW15
import Derived.Shelf.SlSortCmp.Whole1
open List (getElem?_eq_getElem getElem?_map length_append length_attach length_drop length_map length_set length_take map_append map_cons map_map map_nil mem_append mem_cons mem_cons_of_mem mem_cons_self mem_of_getElem? mem_singleton pairwise_map)
open Int (toNat_natCast)
open Option (map_some)
set_option maxRecDepth 100000
set_option maxHeartbeats 2000000
section
namespace Go.Proofs.XS
open Gp Go.Proofs Go.Proofs.EN Go.Proofs.XN Go.Proofs.PS
open Go.Proofs.CN (SlN_ix)
open Gp.Bind (Bnd Slots live GoodB freeN getS In64)
variable {w w':World} {a:V6} {c:Cf} {SS:Gp.Ses.Slots} {x:XV} {v v':SV}
theorem acw (n:Int) (w:World):zH n w λr w'=>r=codeF n/\w'=w:=by
 apply Xb;unfold codeF;by_cases h0:n=0
 ·subst h0;exact⟨rfl,rfl⟩
 have e0:(n==0)=false:=by simpa using h0
 rw[e0,cond_false,if_neg h0];by_cases h1:n=10
 ·subst h1;exact⟨rfl,rfl⟩
 have e1:(n==10)=false:=by simpa using h1
 rw[e1,cond_false,if_neg h1];by_cases h2:n=7
 ·subst h2;exact⟨rfl,rfl⟩
 have e2:(n==7)=false:=by simpa using h2
 rw[e2,cond_false,if_neg h2];by_cases h3:n=9
 ·subst h3;exact⟨rfl,rfl⟩
 have e3:(n==9)=false:=by simpa using h3
 rw[e3,cond_false,if_neg h3];exact⟨rfl,rfl⟩
structure Fit (c:Cf) (v:SV) (x:XV):Prop where
 cf:adb c
 inv:Inv c v.e
 gb:GoodB v.e.S v.e.Mi v.e.Mo
 kk:∀y∈v.L,∀z∈v.L,y.k=z.k->y=z
 bb:∀y∈v.L,∀z∈v.L,y.blk=z.blk->y=z
 eb:∀y∈v.L,y.b.st=true/\∃i:Nat,v.e.S[i]? =some (some y.b)
 len:x.M.length=v.L.length
 most:v.most<=4096/\(v.L.length:Int)<=v.most
 now:v.now<=2^40
theorem Fit.inn (f:Fit c v x) {j:Nat} {b:Bnd} (hj:v.e.S[j]? =some (some b)):∀(k:Nat) (y:Bnd),v.e.S[k]? =some (some y)->y.i=b.i->k=j:=by
 intro k y hk he;have h1:v.e.Mi (Bind.keyS b.i)=some (j:Int):=(f.gb.i _ _).2 ⟨j,b,hj,rfl,rfl⟩;have h2:v.e.Mi (Bind.keyS b.i)=some (k:Int):=(f.gb.i _ _).2 ⟨k,y,hk,by rw[he],rfl⟩;rw[h1] at h2;simp at h2;omega
theorem acs (a b c a' b' c':Int):((a==a') && ((b==b') && ((c==c') && true)))=decide ((a,b,c)=(a',b',c')):=by
 rw[Bool.eq_iff_iff,decide_eq_true_iff];simp only[Bool.and_eq_true,beq_iff_eq,and_true,Prod.mk.injEq]
theorem zq {k:Kind} {w:World} {ad:Addr} {y:k.T} {K:k.T->Prop} (h:w.cell? ad=some (k.enc y)) (hK:K y):Ld k w ad K:=⟨y,h,hK⟩
theorem afw {w:World} {s:iq} {M:List I7} (h:iW 8 eL w s M) {i:Nat} {p:I7} (hi:M[i]? =some p) {K:Addr->Prop} (hK:∀ad:Addr,iq.at s ad.block->(∀j v,(eL p)[j]? =some v->w.cell? (ad.add j)=some v)->K ad):iO s 8 (i:Int) K:=by
 have u:=h.sl nS (by omega);obtain⟨a,ha,hc⟩:=u.at_ nS (by omega) hi;have hil:i<M.length:=(List.getElem?_eq_some_iff.1 hi).1;have hlen:=u.len;refine⟨a,ha,by omega,by omega,?_⟩;rw[toNat_natCast];obtain⟨o,ho⟩:=h.at_eq ha;generalize a.block=bb at ho;rw[ho] at ha
 cases ha
 exact hK _ (by rw[kK];exact⟨o,ho⟩) λj v hj=>by rw[kW];exact hc j v hj
theorem uh.stU {v:XV} (h:uh w a c SS v) {i:Nat} {p:I7} (hi:v.M[i]? =some p) (un:Int) {K:b_} (hK:∀w',iG w w' (iq.at a.sl)->uh w' a c SS {v with M:=v.M.set i ⟨p.b,un⟩}->K w'):
  iO a.sl 8 (i:Int) λad=>St w (ad.add 7) (.int .i64 un) K:=by
 have u:i<v.M.length:=(List.getElem?_eq_some_iff.1 hi).1;have hlen:=h.sl.len;obtain⟨bb,pad,hb1,hb2,hb3⟩:∃bb pad,a.sl.a=some ⟨bb,0,none⟩/\a.sl.cap * 8=v.M.length * 8+pad.length/\Row w bb (v.M.flatMap eL++pad):=by
  rcases h.ls.mem with ⟨_,e,_⟩|e
  ·rw[e] at u;simp at u
  ·exact e
 have hfl:=jU eL 8 nS v.M;refine⟨⟨bb,0,none⟩,hb1,by omega,by omega,?_⟩;show St w (Addr.add (Addr.add ⟨bb,0,none⟩ ((i:Int).toNat * 8)) 7) _ K;rw[kK,kK,toNat_natCast];refine iK (i:=0+i * 8+7) hb3 rfl (by rw[length_append];omega) λw2 r2 f2 z2=> ?_;have f2:iG w w2 (·=bb):=f2 _ rfl;have e1:(v.M.flatMap eL++pad).set (0+i * 8+7) (.int .i64 un)=(v.M.set i ⟨p.b,un⟩).flatMap eL++pad:=by
  rw[List.set_append_left _ _ (by omega),Nat.zero_add,Ej eL 8 nS v.M i 7 p ⟨p.b,un⟩ _ (by omega) hi rfl]
 rw[e1] at r2;have I:iq.at a.sl bb:=⟨0,hb1⟩;have o:∀k z,IZ a k z->k≠1->¬z=bb:=λk z hk J he=>h.off hk J (he ▸ I);refine hK w2 (f2.mono λy hy=>by rw[hy];exact I) ⟨h.hd.fr f2 (o 0 _ rfl (by decide)),⟨by rw[length_set];exact hlen,.inr ⟨bb,pad,hb1,by rw[length_set];exact hb2,r2⟩⟩,h.en.fr f2 λk z hz=>o 2 z ⟨k,hz⟩ (by decide),by rw[length_set];exact h.ll,h.ap,λk z hk=>Nat.lt_of_lt_of_le (h.lt k z hk) f2.size⟩
theorem mem_set {M:List I7} (h:Srt M) {i:Nat} {p q r:I7} (hi:M[i]? =some p):r∈M.set i q↔(r∈M/\r≠p)\/r=q:=by
 have u:i<M.length:=(List.getElem?_eq_some_iff.1 hi).1;rw[<- YL h hi,List.set_eq_take_append_cons_drop,if_pos u,mem_append,mem_append,mem_cons];constructor
 ·rintro(h|h|h)
  ·exact .inl (.inl h)
  ·exact .inr h
  ·exact .inl (.inr h)
 ·rintro((h|h)|h)
  ·exact .inl h
  ·exact .inr (.inr h)
  ·exact .inr (.inl h)
theorem Srt.set {M:List I7} (h:Srt M) {i:Nat} {p q:I7} (hi:M[i]? =some p) (hk:kB q.b=kB p.b):Srt (M.set i q):=by
 have e:(M.set i q).map (λp=>kB p.b)=M.map λp=>kB p.b:=by
  rw[List.map_set];refine List.ext_getElem? λj=> ?_;rw[List.getElem?_set];split
  ·rename_i hj;subst hj;have u:i<M.length:=(List.getElem?_eq_some_iff.1 hi).1;rw[if_pos (by simpa using u),getElem?_map,hi,hk];rfl
  ·rfl
 have h':(M.map λp=>kB p.b).Pairwise kLt:=by rw[pairwise_map];exact h
 rw[<- e,pairwise_map] at h';exact h'
theorem aeV {n:Int} (h:n≠0):codeF n≠0:=by
 unfold codeF;rw[if_neg h];split
 ·decide
 ·split
  ·decide
  ·split<;>decide
theorem ah8 (n:Int):(if (86400:Int)<n then 86400 else n)=min n 86400:=by rw[Int.min_def];split<;>split<;>omega
structure I9 (c:Cf) (SS:Gp.Ses.Slots) (w:World) (a:V6) (w':World) (a':V6) (v':SV) (x':XV):Prop where
 srv:uh w' a' c SS x'
 lnk:Lnk v' x'
 fr:iG w w' (qA a)
 s:a'.s=a.s
 x:a'.x.x=a.x.x
 sub:∀z,qA a' z->qA a z\/w.heap.size<=z
theorem agO (h:uh w a c SS x) (hs:NoX SS) (f:Fit c v x) (l:Lnk v x) {sw pr ad po d0 d1 d2 d3 d4 d5 d6 d7 d8 d9 d10 d11 d12 d13 d14 d15 d16 d17 d18 d19 d20 d21 d22 d23 d24 d25 d26 d27 d28 d29 d30 d31 d32:Int} (hl:0<=d0/\d0<4294967296) {r e0 N O:Int} (hR:Fq c v ⟨sw,pr,ad,po,d29,d32,d31,true⟩ d0 r e0 N O v')
  (Y:v'.now=v.now) (I:v'.most=v.most) (am:v'.e.now=v.e.now) {K:Int->Int->Int->Int->Int->Int->Int->Int->Int->Int->Int->Int->Int->Int->Int->Int->Int->Int->Int->Int->Int->Int->Int->Int->Int->Int->Int->Int->Int->Int->Int->Int->Int->Int->b_}
  (hK:∀w' a' x',I9 c SS w a w' a' v' x'->K r e0 d1 d2 d3 d4 d5 d6 d7 d8 d9 d10 d11 d12 d13 d14 d15 d16 d17 d18 d19 d20 d21 d22 d23 d24 d25 d26 d27 d28 d29 d30 N O w'):
  yM (some ⟨a.s,0,none⟩) sw pr ad po d0 d1 d2 d3 d4 d5 d6 d7 d8 d9 d10 d11 d12 d13 d14 d15 d16 d17 d18 d19 d20 d21 d22 d23 d24 d25 d26 d27 d28 d29 d30 d31 d32 w K:=by
 apply MV;refine iI λp w1 r1 e1 z1 f1=> ?_;refine iI λq w2 r2 e2 z2 f2=> ?_;refine iI λt w3 r3 e3 z3 f3=> ?_;have r1:=(r1.ext f2).ext f3;have r2:=r2.ext f3;have x3:=(f1.trans f2).trans f3;refine iC (k:= .int .i64) (i:=0) (x:=sw) r1 rfl (iC (k:= .int .i64) (i:=1) (x:=pr) r1 rfl (iC (k:= .int .i64) (i:=2) (x:=ad) r1 rfl (iC (k:= .int .i64) (i:=3) (x:=po) r1 rfl ?_)));refine Jv (find_ok (h.ext x3) _ _ _ _) ?_;rintro bq w4 ⟨f4,hr14⟩;have r1:=r1.ext f4;have r2:=r2.ext f4;have r3:=r3.ext f4;have x4:=x3.trans f4;have h4:=h.ext x4;have hz4:=x4.size;have an:w.heap.size<=t:=by have:=f1.size;have:=f2.size;omega
 have ao:w.heap.size<=q:=by have:=f1.size;omega
 have hqt:q<t:=by omega
 have U:∀y,w.heap.size<=y->¬qA a y:=λy hy ⟨k,hk⟩=>by have:=h.lt k y hk;omega
 have fin:∀W r,Row W q (iU d0 d1 d2 d3 d4 d5 d6 d7 d8 d9 d10 d11 d12 d13 d14 d15 d16 d17 d18 d19 d20 d21 d22 d23 d24 d25 d26 d27 d28 d29 d30 d31 d32)->Row W t (iU 0 0 0 0 0 0 0 0 0 0 0 0 0 0 0 0 0 0 0 0 0 0 0 0 0 0 0 0 0 0 0 0 0)->(∀w',iG W w' (·=t)->K r d0 d1 d2 d3 d4 d5 d6 d7 d8 d9 d10 d11 d12 d13 d14 d15 d16 d17 d18 d19 d20 d21 d22 d23 d24 d25 d26 d27 d28 d29 d30 d31 d32 w')->jD W ⟨q,0,none⟩ λy0 y1 y2 y3 y4 y5 y6 y7 y8 y9 aq ar au av aw ax ay az aA aB aC aD aE aF aG aH aI aJ aK aL aM aN aO=>lM (iU y0 y1 y2 y3 y4 y5 y6 y7 y8 y9 aq ar au av aw ax ay az aA aB aC aD aE aF aG aH aI aJ aK aL aM aN aO) W ⟨t,0,none⟩ 0 λaf=>jD af ⟨t,0,none⟩ λx0 x1 x2 x3 x4 x5 x6 x7 x8 x9 aP aQ aR aS aT aU aV aW aX aY aZ a6 a7 a8 ba bc be bf bg bh bj bk bl=>K r x0 x1 x2 x3 x4 x5 x6 x7 x8 x9 aP aQ aR aS aT aU aV aW aX aY aZ a6 a7 a8 ba bc be bf bg bh bj bk bl af:=by
  intro W r hr ht hK;simp only[sx,hr.cell];refine iJ ht rfl rfl λw5 r5 f5 z5=> ?_;simp only[sx,r5.cell];exact hK w5 (f5 (·=t) rfl)
 have rdA:∀{e0 N O:Int} W (Q:Int->Int->Int->Int->Int->Int->Int->Int->Int->Int->Int->Int->Int->Int->Int->Int->Int->Int->Int->Int->Int->Int->Int->Int->Int->Int->Int->Int->Int->Int->Int->Int->Int->Prop),Row W q (iU e0 d1 d2 d3 d4 d5 d6 d7 d8 d9 d10 d11 d12 d13 d14 d15 d16 d17 d18 d19 d20 d21 d22 d23 d24 d25 d26 d27 d28 d29 d30 N O)->Q e0 d1 d2 d3 d4 d5 d6 d7 d8 d9 d10 d11 d12 d13 d14 d15 d16 d17 d18 d19 d20 d21 d22 d23 d24 d25 d26 d27 d28 d29 d30 N O->jD W ⟨q,0,none⟩ λy0 y1 y2 y3 y4 y5 y6 y7 y8 y9 aq ar au av aw ax ay az aA aB aC aD aE aF aG aH aI aJ aK aL aM aN aO=>Q y0 y1 y2 y3 y4 y5 y6 y7 y8 y9 aq ar au av aw ax ay az aA aB aC aD aE aF aG aH aI aJ aK aL aM aN aO:=by
  intro e0 N O W Q hr hq;simp only[sx,hr.cell];exact hq
 have fin2:∀{e0 N O:Int} W r,Row W t (iU 0 0 0 0 0 0 0 0 0 0 0 0 0 0 0 0 0 0 0 0 0 0 0 0 0 0 0 0 0 0 0 0 0)->(∀w',iG W w' (·=t)->K r e0 d1 d2 d3 d4 d5 d6 d7 d8 d9 d10 d11 d12 d13 d14 d15 d16 d17 d18 d19 d20 d21 d22 d23 d24 d25 d26 d27 d28 d29 d30 N O w')->lM (iU e0 d1 d2 d3 d4 d5 d6 d7 d8 d9 d10 d11 d12 d13 d14 d15 d16 d17 d18 d19 d20 d21 d22 d23 d24 d25 d26 d27 d28 d29 d30 N O) W ⟨t,0,none⟩ 0 λaf=>jD af ⟨t,0,none⟩ λx0 x1 x2 x3 x4 x5 x6 x7 x8 x9 aP aQ aR aS aT aU aV aW aX aY aZ a6 a7 a8 ba bc be bf bg bh bj bk bl=>K r x0 x1 x2 x3 x4 x5 x6 x7 x8 x9 aP aQ aR aS aT aU aV aW aX aY aZ a6 a7 a8 ba bc be bf bg bh bj bk bl af:=by
  intro e0 N O W r ht hK;refine iJ ht rfl rfl λw5 r5 f5 z5=> ?_;simp only[sx,r5.cell];exact hK w5 (f5 (·=t) rfl)
 have outT:∀{W W' a' x'},I9 c SS w a W a' v' x'->t<W.heap.size->(∀y,qA a' y->¬y=t)->iG W W' (·=t)->I9 c SS w a W' a' v' x':=by
  intro W W' a' x' o htW ho hf;refine⟨o.srv.fr hf λk y hy e=>ho y ⟨k,hy⟩ e,o.lnk,?_,o.s,o.x,o.sub⟩;exact o.fr.trans hf λy hy e=>by omega
 have same:Lnk v x->v'=v->∀W,Ext w W->I9 c SS w a W a v' x:=λl e W hx=>⟨h.ext hx,e ▸ l,hx _,rfl,rfl,λz hz=> .inl hz⟩;have nt:¬qA a t:=U t an;have ak:(∀y∈v.L,y.k≠(sw,pr,ad,po))->bq= -1:=by
  intro hy;rcases hr14 with ⟨e,_⟩|⟨i,p,e,hi,hk⟩
  ·exact e
  ·obtain⟨y,bu,bv,_⟩:=(l.mem p).1 (mem_of_getElem? hi);exact absurd (by show (y.b.sw,y.b.pr,y.b.ad,y.b.po)=_;rw[bv];exact hk) (hy y bu)
 have aa:∀y∈v.L,y.k=(sw,pr,ad,po)->∃i:Nat,bq=(i:Int)/\x.M[i]? =some ⟨y.b,y.un⟩:=by
  intro y hy hk;have hm:(⟨y.b,y.un⟩:I7)∈x.M:=(l.mem _).2 ⟨y,hy,rfl,rfl⟩;rcases hr14 with ⟨_,e⟩|⟨i,p,e,hi,hk'⟩
  ·exact absurd hk (e _ hm)
  ·refine⟨i,e,?_⟩;rw[hi,l.so.one (mem_of_getElem? hi) hm (hk'.trans hk.symm)]
 refine iC (k:= .int .i64) (i:=0) (x:=d0) r2 rfl ?_;have kB0:kB ⟨sw,pr,ad,po,d29,d32,d31,true⟩=(sw,pr,ad,po):=rfl;have subT:∀{t':iq} {A:XA} {n:Nat},(∀z,iq.at t' z->w.heap.size<=z)->(∀z,Ak A z->Ak a.x z\/w.heap.size<=z)->∀z,qA {a with sl:=t',x:=A} z->qA a z\/w.heap.size<=z:=by
  rintro t' A n h1 h2 z ⟨k,hk⟩
  match k,hk with
  |0,hk=>exact .inl ⟨0,hk⟩
  |1,hk=>exact .inr (h1 z hk)
  |2,hk=>exact(h2 z hk).imp (λh=>⟨2,h⟩) id
  |(n+3),hk=>exact hk.elim
 have qq:¬qA a q:=U q ao;by_cases h0:d0=0
 ·have:(d0==0)=true:=by simpa using h0
  rw[this,cond_true];rcases hR with ⟨ae,hk⟩|⟨ae,hx,hk,hj,hL',hS'⟩|⟨hh,hx,hk,hz,R⟩|⟨hh,hx,hk,hz,hL',he'⟩|⟨hh,hk,hf⟩|⟨hh,hk,hf,hm⟩|⟨hh,hk,hf,hm,hL',br,hS'⟩
  ·rw[ak hk];simp only[show ¬((-1:Int)>=0) by decide,decide_false,cond_false];refine fin _ _ r2.drew r3.drew λw' f'=>hK w' a x (outT (same l rfl _ (x4.trans (Ext.drew w4))) r3.drew.lt (λy hy e=>nt (e ▸ hy)) f')
  ·rename_i y j;obtain⟨i,rfl,hi⟩:=aa y hx hk;have ag:((i:Int)>=0):=by omega
   simp only[ag,decide_true,cond_true];have est:=(f.eb y hx).1;refine Cc (La (j:=j) h4 hs hi (by rw[l.S];exact hj) est (f.inv.mp j _ hj) (by rw[l.S];exact f.inn hj) (by rw[l.S];exact λk z hz he=>DU f.gb hj hz he)) ?_;rintro w5 ⟨f5,t',A,hA,ht',ah,h5⟩;have o:I9 c SS w a w5 {a with sl:=t',x:=A} v' {x with M:=x.M.take i++x.M.drop (i+1),S:=x.S.set j none}:=by
    refine⟨h5,⟨l.so.rem i,λp=> ?_,?_,?_,?_,?_⟩,x4.fr f5,rfl,hA,subT (n:=0) (λz hz=>by have:=ht' z hz;omega) λz hz=>(ah z hz).imp id λh=>by omega⟩
    ·rw[show (∃y∈v'.L,y.b=p.b/\y.un=p.un)↔(∃z∈v.L.filter (λz=> !(z.blk==y.blk)),z.b=p.b/\z.un=p.un) by rw[hL']];rw[YL l.so hi,l.mem];constructor
     ·rintro⟨⟨z,hz,e1,e2⟩,R⟩;refine⟨z,List.mem_filter.2 ⟨hz,?_⟩,e1,e2⟩;rw[Bool.not_eq_true',beq_eq_false_iff_ne];intro he;have:=f.bb z hz y hx he;subst this;exact R (by cases p;simp only at e1 e2;rw[e1,e2])
     ·rintro⟨z,hz,e1,e2⟩;obtain⟨hz,hb⟩:=List.mem_filter.1 hz;refine⟨⟨z,hz,e1,e2⟩,λhe=> ?_⟩;subst he;have:=f.kk z hz y hx (by unfold iR.k;rw[e1]);subst this;simp at hb
    ·rw[hS'];show x.S.set j none=_;rw[l.S]
    ·exact l.en.trans am.symm
    ·exact l.now.trans Y.symm
    ·exact l.most.trans I.symm
   have r2':=r2.fr f5 qq;have r3':=r3.fr f5 nt;have o2:I9 c SS w a w5.drew {a with sl:=t',x:=A} v' _:=⟨o.srv.ext (Ext.drew w5),o.lnk,o.fr.ext (Ext.drew w5),o.s,o.x,o.sub⟩;refine fin _ _ r2'.drew r3'.drew λw' f'=>hK w' _ _ (outT o2 r3'.drew.lt (λz hz e=> ?_) f');subst e;rcases o.sub _ hz with h|h
   ·exact nt h
   ·obtain⟨k,hk⟩:=hz
    match k,hk with
    |0,hk=>exact nt ⟨0,hk⟩
    |1,hk=>have:=ht' _ hk;have:=r3.lt;omega
    |2,hk=>exact(ah _ hk).elim (λh=>nt ⟨2,h⟩) λh=>by have:=r3.lt;omega
    |(n+3),hk=>exact hk.elim
  ·exact absurd h0 hh
  ·exact absurd h0 hh
  ·exact absurd h0 hh
  ·exact absurd h0 hh
  ·exact absurd h0 hh
 have:(d0==0)=false:=by simpa using h0
 rw[this,cond_false];refine iC (k:= .int .i64) (i:=0) (x:=d0) r2 rfl (iC (k:= .int .i64) (i:=29) (x:=d29) r2 rfl (iC (k:= .int .i64) (i:=32) (x:=d32) r2 rfl (iC (k:= .int .i64) (i:=31) (x:=d31) r2 rfl ?_)));refine iI λo w5 r5 e5 z5 f5=> ?_;refine iJ r5 rfl rfl λw6 r6 f6' z6=> ?_;have f6:=f6' (·=o) rfl;have al:Ext w4 w6:=f5.new f6 λy hy e=>by omega
 have x6:=x4.trans al;have r1:=r1.ext al;have r2:=r2.ext al;have r3:=r3.ext al;have h6:=h.ext x6;have bw:w.heap.size<=o:=by omega
 have oo:¬qA a o:=U o bw;rcases hR with ⟨hh,hk⟩|⟨hh,hx,hk,hj,hL',hS'⟩|⟨ae,hx,hk,hz,R⟩|⟨ae,hx,hk,hz,hL',he'⟩|⟨ae,hk,hf⟩|⟨ae,hk,hf,hm⟩|⟨ae,hk,hf,hm,hL',br,hS'⟩
 ·exact absurd hh h0
 ·exact absurd hh h0
 ·rename_i y;obtain⟨i,rfl,hi⟩:=aa y hx hk;have ag:((i:Int)>=0):=by omega
  rw[decide_eq_true ag,cond_true];intro J;have hJ:J true w6.drew:=by
   simp only[J,cond_true];refine fin _ _ r2.drew.drew r3.drew.drew λw' f'=>hK w' a x (outT (same l rfl _ ((x6.trans (Ext.drew w6)).trans (Ext.drew _))) r3.drew.drew.lt (λy hy e=>nt (e ▸ hy)) f')
  clear_value J;have h6d:=h6.ext (Ext.drew w6);have hj:J (!decide ((d29,d32,d31)=(y.b.opr,y.b.oad,y.b.opo))) w6.drew:=by
   rw[decide_eq_false λe=>R (by simp only[Prod.mk.injEq] at e;exact e)];exact hJ
  refine iC (k:= .int .i64) (i:=32) (x:=d32) r2.drew rfl ?_;by_cases hA:d32=0
  ·have:(d32 !=0)=false:=by rw[bne_eq_false_iff_eq];exact hA
   rw[this,cond_false];refine iC (k:= .int .i64) (i:=31) (x:=d31) r2.drew rfl ?_;have hB:d31≠0:=hz.elim (λh=>absurd hA h) id;have:(d31 !=0)=true:=by rw[bne_iff_ne];exact hB
   rw[this,cond_true];have r6d:=r6.drew;refine iC (k:= .int .i64) (i:=0) (x:=d29) r6d rfl (iC (k:= .int .i64) (i:=1) (x:=d32) r6d rfl (iC (k:= .int .i64) (i:=2) (x:=d31) r6d rfl ?_));refine jc.2 (iC (k:= .slice) (i:=1) (x:=a.sl) h6d.hd rfl ?_);refine SlN_ix nS (by omega) h6d.sl (by omega) (by rw[toNat_natCast];exact hi) λad hc=> ?_;have c4:=hc 4 _ rfl;have c5:=hc 5 _ rfl;have c6:=hc 6 _ rfl;simp only[sx,kW,Nat.reduceAdd,c4,c5,c6,acs];exact hj
  ·have:(d32 !=0)=true:=by rw[bne_iff_ne];exact hA
   rw[this,cond_true];have r6d:=r6.drew;refine iC (k:= .int .i64) (i:=0) (x:=d29) r6d rfl (iC (k:= .int .i64) (i:=1) (x:=d32) r6d rfl (iC (k:= .int .i64) (i:=2) (x:=d31) r6d rfl ?_));refine jc.2 (iC (k:= .slice) (i:=1) (x:=a.sl) h6d.hd rfl ?_);refine SlN_ix nS (by omega) h6d.sl (by omega) (by rw[toNat_natCast];exact hi) λad hc=> ?_;have c4:=hc 4 _ rfl;have c5:=hc 5 _ rfl;have c6:=hc 6 _ rfl;simp only[sx,kW,Nat.reduceAdd,c4,c5,c6,acs];exact hj
 ·rename_i y;obtain⟨i,rfl,hi⟩:=aa y hx hk;have ag:((i:Int)>=0):=by omega
  rw[decide_eq_true ag,cond_true];intro J;have h6d:=h6.ext (Ext.drew w6);have hJ:J false w6.drew:=by
   simp only[J,cond_false];have h7:=h6d.ext (Ext.drew w6.drew);have r2:=r2.drew.drew;have r3:=r3.drew.drew;have x7:=(x6.trans (Ext.drew w6)).trans (Ext.drew _);refine jc.2 (iC (k:= .slice) (i:=1) (x:=a.sl) h7.hd rfl ?_);refine jc.2 (iC (k:= .int .i64) (i:=2) (x:=(x.now:Int)) h7.hd rfl ?_);have bx:=f.now;have bm:=l.now;rw[ah8,wrap_i64 (n:=(x.now:Int)+min d0 86400) (by omega) (by omega)];refine h7.stU hi _ λw8 f8 h8=> ?_;have bz:i<x.M.length:=(List.getElem?_eq_some_iff.1 hi).1;have hi8:(x.M.set i ⟨y.b,(x.now:Int)+min d0 86400⟩)[i]? =some ⟨y.b,(x.now:Int)+min d0 86400⟩:=by rw[List.getElem?_set_self bz]
   have q8:=r2.fr f8 (λe=>qq ⟨1,e⟩);have t8:=r3.fr f8 (λe=>nt ⟨1,e⟩);have h8d:=h8.ext (Ext.drew w8);have q8d:=q8.drew;refine jc.2 (iC (k:= .slice) (i:=1) (x:=a.sl) h8d.hd rfl ?_);refine afw h8d.ls hi8 λad b5 hc=> ?_;have c5:=hc 5 _ rfl;rw[show Addr.add (ad.add 4) 1=ad.add 5 from rfl];refine zq (k:= .int .i64) (y:=y.b.oad) c5 ?_;refine jc.2 (iC (k:= .slice) (i:=1) (x:=a.sl) h8d.hd rfl ?_);refine afw h8d.ls hi8 λad2 b6 hc2=> ?_;have d6':=hc2 6 _ rfl;rw[show Addr.add (ad2.add 4) 2=ad2.add 6 from rfl];refine zq (k:= .int .i64) (y:=y.b.opo) d6' ?_;have lt5:=cell_lt c5;have lt6:=cell_lt d6';have n5:ad.block≠q:=λe=>qq ⟨1,e ▸ b5⟩;have n6:ad2.block≠q:=λe=>qq ⟨1,e ▸ b6⟩;refine iK (i:=0) q8d rfl (by simp) λw9 r9 f9' z9=> ?_;have f9:iG w8.drew w9 (·=q):=f9' _ rfl;have bt:a.s≠q:=λe=>qq ⟨0,e.symm⟩;have h9hd:=h8d.hd.fr f9 bt;refine⟨zK d6' f9 n6,h9hd.cell 1,zK c5 f9 n5,h9hd.cell 1,?_⟩;refine iK (i:=32) r9 rfl (by simp) λai bA bo z10=> ?_;have f10:iG w9 ai (·=q):=bo _ rfl;have h10hd:=h9hd.fr f10 bt;refine⟨zK (zK d6' f9 n6) f10 n6,h10hd.cell 1,?_⟩;refine iK (i:=31) bA rfl (by simp) λu ab ac bB=> ?_;have f11:iG ai u (·=q):=ac _ rfl;have fa:iG w8.drew u (·=q):=(f9.trans f10 λy _ hy=>hy).trans f11 λy _ hy=>hy;have ab:Row u q (iU (min d0 86400) d1 d2 d3 d4 d5 d6 d7 d8 d9 d10 d11 d12 d13 d14 d15 d16 d17 d18 d19 d20 d21 d22 d23 d24 d25 d26 d27 d28 d29 d30 y.b.opo y.b.oad):=ab;have t11:=(t8.drew).fr fa (by omega);have bp:=h8d.fr fa λk z hk e=>qq ⟨k,e ▸ hk⟩;have o:I9 c SS w a u a v' {x with M:=x.M.set i ⟨y.b,(x.now:Int)+min d0 86400⟩}:=by
    refine⟨bp,⟨l.so.set hi rfl,λp=> ?_,?_,?_,?_,?_⟩,?_,rfl,rfl,λz hz=> .inl hz⟩
    ·rw[mem_set l.so hi,l.mem,hL',bm];constructor
     ·rintro(⟨⟨z,hz,e1,e2⟩,R⟩|rfl)
      ·refine⟨z,List.mem_map.2 ⟨z,hz,if_neg λhe=> ?_⟩,e1,e2⟩;have:=f.bb z hz y hx he;subst this;exact R (by cases p;simp only at e1 e2;rw[e1,e2])
      ·exact⟨{y with un:=v.now+min d0 86400},List.mem_map.2 ⟨y,hx,if_pos rfl⟩,rfl,rfl⟩
     ·rintro⟨z,hz,e1,e2⟩;obtain⟨z0,hz0,rfl⟩:=List.mem_map.1 hz;by_cases he:z0.blk=y.blk
      ·have:=f.bb z0 hz0 y hx he;subst this;rw[if_pos rfl] at e1 e2;exact .inr (by cases p;simp only at e1 e2;rw[e1,e2])
      ·rw[if_neg he] at e1 e2;refine .inl ⟨⟨z0,hz0,e1,e2⟩,λhp=> ?_⟩;subst hp;have:=f.kk z0 hz0 y hx (by unfold iR.k;rw[e1]);subst this;exact he rfl
    ·rw[he'];exact l.S
    ·exact l.en.trans am.symm
    ·exact l.now.trans Y.symm
    ·exact l.most.trans I.symm
    ·have g8:iG w w8 (qA a):=x7.fr (f8.mono λy hy=>⟨1,hy⟩);refine(g8.ext (Ext.drew w8)).trans fa λy hy e=> ?_;omega
   have o2:I9 c SS w a u.drew a v' _:=⟨o.srv.ext (Ext.drew u),o.lnk,o.fr.ext (Ext.drew u),o.s,o.x,o.sub⟩;have rq:=ab.drew;refine rdA _ _ rq (fin2 _ _ t11.drew λw' f'=>hK w' a _ (outT o2 t11.drew.lt (λy hy e=>nt (e ▸ hy)) f'))
  clear_value J;refine iC (k:= .int .i64) (i:=32) (x:=d32) r2.drew rfl ?_;have eqs:(d32≠0\/d31≠0)->(d29,d32,d31)=(y.b.opr,y.b.oad,y.b.opo):=by
   intro h1;refine Classical.byContradiction λh2=>hz ⟨h1,λh3=>h2 ?_⟩;simp only at h3;rw[h3.1,h3.2.1,h3.2.2]
  by_cases hA:d32=0
  ·have:(d32 !=0)=false:=by rw[bne_eq_false_iff_eq];exact hA
   rw[this,cond_false];refine iC (k:= .int .i64) (i:=31) (x:=d31) r2.drew rfl ?_;by_cases hB:d31=0
   ·have:(d31 !=0)=false:=by rw[bne_eq_false_iff_eq];exact hB
    rw[this,cond_false];exact hJ
   have:(d31 !=0)=true:=by rw[bne_iff_ne];exact hB
   rw[this,cond_true];have hj:J (!decide ((d29,d32,d31)=(y.b.opr,y.b.oad,y.b.opo))) w6.drew:=by
    rw[decide_eq_true (eqs (.inr hB))];exact hJ
   have r6d:=r6.drew;refine iC (k:= .int .i64) (i:=0) (x:=d29) r6d rfl (iC (k:= .int .i64) (i:=1) (x:=d32) r6d rfl (iC (k:= .int .i64) (i:=2) (x:=d31) r6d rfl ?_));refine jc.2 (iC (k:= .slice) (i:=1) (x:=a.sl) h6d.hd rfl ?_);refine SlN_ix nS (by omega) h6d.sl (by omega) (by rw[toNat_natCast];exact hi) λad hc=> ?_;have c4:=hc 4 _ rfl;have c5:=hc 5 _ rfl;have c6:=hc 6 _ rfl;simp only[sx,kW,Nat.reduceAdd,c4,c5,c6,acs];exact hj
  ·have:(d32 !=0)=true:=by rw[bne_iff_ne];exact hA
   rw[this,cond_true];have hj:J (!decide ((d29,d32,d31)=(y.b.opr,y.b.oad,y.b.opo))) w6.drew:=by
    rw[decide_eq_true (eqs (.inl hA))];exact hJ
   have r6d:=r6.drew;refine iC (k:= .int .i64) (i:=0) (x:=d29) r6d rfl (iC (k:= .int .i64) (i:=1) (x:=d32) r6d rfl (iC (k:= .int .i64) (i:=2) (x:=d31) r6d rfl ?_));refine jc.2 (iC (k:= .slice) (i:=1) (x:=a.sl) h6d.hd rfl ?_);refine SlN_ix nS (by omega) h6d.sl (by omega) (by rw[toNat_natCast];exact hi) λad hc=> ?_;have c4:=hc 4 _ rfl;have c5:=hc 5 _ rfl;have c6:=hc 6 _ rfl;simp only[sx,kW,Nat.reduceAdd,c4,c5,c6,acs];exact hj
 ·rw[ak hk];simp only[show ¬((-1:Int)>=0) by decide,decide_false,cond_false];have h6d:=h6.ext (Ext.drew w6);simp only[jc];refine iC (k:= .slice) (i:=1) (x:=a.sl) h6d.hd rfl (iC (k:= .int .i64) (i:=3) (x:=x.most) h6d.hd rfl ?_);have hlen:=h6d.sl.len;have:((a.sl.len:Int)>=x.most):=by rw[hlen,f.len,l.most];exact hf
  rw[decide_eq_true this,cond_true];refine fin _ _ r2.drew.drew r3.drew.drew λw' f'=>hK w' a x (outT (same l rfl _ ((x6.trans (Ext.drew w6)).trans (Ext.drew _))) r3.drew.drew.lt (λy hy e=>nt (e ▸ hy)) f')
 ·rw[ak hk];simp only[show ¬((-1:Int)>=0) by decide,decide_false,cond_false];have h6d:=h6.ext (Ext.drew w6);have hlen:=h6d.sl.len;refine jc.2 (iC (k:= .slice) (i:=1) (x:=a.sl) h6d.hd rfl ?_);refine jc.2 (iC (k:= .int .i64) (i:=3) (x:=x.most) h6d.hd rfl ?_);have:¬((a.sl.len:Int)>=x.most):=by rw[hlen,f.len,l.most];omega
  rw[decide_eq_false this,cond_false];have h7:=h6d.ext (Ext.drew w6.drew);have r1:=r1.drew.drew;have r2:=r2.drew.drew;have r3:=r3.drew.drew;have r6:=r6.drew.drew;have x7:=(x6.trans (Ext.drew w6)).trans (Ext.drew _);refine jc.2 (iC (k:= .ptr) (i:=0) (x:=some ⟨a.x.x,0,none⟩) h7.hd rfl ?_);refine iC (k:= .int .i64) (i:=0) (x:=sw) r1 rfl (iC (k:= .int .i64) (i:=1) (x:=pr) r1 rfl (iC (k:= .int .i64) (i:=2) (x:=ad) r1 rfl (iC (k:= .int .i64) (i:=3) (x:=po) r1 rfl ?_)));refine iC (k:= .int .i64) (i:=0) (x:=d29) r6 rfl (iC (k:= .int .i64) (i:=1) (x:=d32) r6 rfl (iC (k:= .int .i64) (i:=2) (x:=d31) r6 rfl ?_));refine xC (Zl h7.en ⟨sw,pr,ad,po,d29,d32,d31,true⟩ rfl) ?_;have hX:mapX c x.S ⟨sw,pr,ad,po,d29,d32,d31,true⟩=Cj c v.e ⟨sw,pr,ad,po,d29,d32,d31,true⟩:=by rw[l.S,mapE_X f.inv f.cf f.gb]
  rintro n w8 ⟨rfl,⟨R,f8⟩|⟨he,_⟩⟩;rotate_left
  ·rw[hX] at he;exact absurd he hm
  rw[hX];refine Nj (acw _ _) ?_;rintro n w9 ⟨rfl,hw⟩;subst hw;have:(codeF (Cj c v.e ⟨sw,pr,ad,po,d29,d32,d31,true⟩) !=0)=true:=by rw[bne_iff_ne];exact aeV hm
  rw[this,cond_true];refine fin _ _ (r2.ext f8).drew (r3.ext f8).drew λw' f'=>hK w' a x (outT (same l rfl _ ((x7.trans f8).trans (Ext.drew _))) (r3.ext f8).drew.lt (λy hy e=>nt (e ▸ hy)) f')
 ·rename_i nn idd i0;rw[ak hk];simp only[show ¬((-1:Int)>=0) by decide,decide_false,cond_false];have h6d:=h6.ext (Ext.drew w6);have hlen:=h6d.sl.len;refine jc.2 (iC (k:= .slice) (i:=1) (x:=a.sl) h6d.hd rfl ?_);refine jc.2 (iC (k:= .int .i64) (i:=3) (x:=x.most) h6d.hd rfl ?_);have:¬((a.sl.len:Int)>=x.most):=by rw[hlen,f.len,l.most];omega
  rw[decide_eq_false this,cond_false];have h7:=h6d.ext (Ext.drew w6.drew);have r1:=r1.drew.drew;have r2:=r2.drew.drew;have r3:=r3.drew.drew;have r6:=r6.drew.drew;have x7:=(x6.trans (Ext.drew w6)).trans (Ext.drew _);refine jc.2 (iC (k:= .ptr) (i:=0) (x:=some ⟨a.x.x,0,none⟩) h7.hd rfl ?_);refine iC (k:= .int .i64) (i:=0) (x:=sw) r1 rfl (iC (k:= .int .i64) (i:=1) (x:=pr) r1 rfl (iC (k:= .int .i64) (i:=2) (x:=ad) r1 rfl (iC (k:= .int .i64) (i:=3) (x:=po) r1 rfl ?_)));refine iC (k:= .int .i64) (i:=0) (x:=d29) r6 rfl (iC (k:= .int .i64) (i:=1) (x:=d32) r6 rfl (iC (k:= .int .i64) (i:=2) (x:=d31) r6 rfl ?_));refine xC (Zl h7.en ⟨sw,pr,ad,po,d29,d32,d31,true⟩ rfl) ?_;have hX:mapX c x.S ⟨sw,pr,ad,po,d29,d32,d31,true⟩=Cj c v.e ⟨sw,pr,ad,po,d29,d32,d31,true⟩:=by rw[l.S,mapE_X f.inv f.cf f.gb]
  have q6:q<w6.drew.drew.heap.size:=r2.lt;have t6:t<w6.drew.drew.heap.size:=r3.lt;rintro n w8 ⟨rfl,⟨R,f8⟩|⟨he,f8,A,i,aj,hA,ah,h8⟩⟩
  ·rw[hX] at R;exact absurd hm R
  rw[hX,hm];refine Nj (acw _ _) ?_;rintro n w9 ⟨rfl,hw⟩;subst hw;have:(codeF 0 !=0)=false:=rfl;rw[this,cond_false];rw[l.S,br] at aj
  cases aj
  have h9:=(h7.ab5 f8 hA ah h8).ext (Ext.drew w9);have r1:=(r1.fr f8 (λe=>U p (by omega) ⟨2,e⟩)).drew;have r2:=(r2.fr f8 (λe=>qq ⟨2,e⟩)).drew;have r3:=(r3.fr f8 (λe=>nt ⟨2,e⟩)).drew;have r6:=(r6.fr f8 (λe=>oo ⟨2,e⟩)).drew;have g8:iG w w9 (qA a):=x7.fr (f8.mono λy hy=>⟨2,hy⟩);have hz9:=g8.size;have wd9:w9.drew.heap.size=w9.heap.size:=rfl;refine iC (k:= .int .i64) (i:=0) (x:=sw) r1 rfl (iC (k:= .int .i64) (i:=1) (x:=pr) r1 rfl (iC (k:= .int .i64) (i:=2) (x:=ad) r1 rfl (iC (k:= .int .i64) (i:=3) (x:=po) r1 rfl ?_)));refine iC (k:= .int .i64) (i:=0) (x:=d29) r6 rfl (iC (k:= .int .i64) (i:=1) (x:=d32) r6 rfl (iC (k:= .int .i64) (i:=2) (x:=d31) r6 rfl ?_));refine jc.2 (iC (k:= .int .i64) (i:=2) (x:=(x.now:Int)) h9.hd rfl ?_);have bx:=f.now;have bm:=l.now;have hfm:=f.most;have hfl:=f.len;rw[ah8,wrap_i64 (n:=(x.now:Int)+min d0 86400) (by omega) (by omega)];refine LW (Rw h9 (by simp only;omega) ⟨sw,pr,ad,po,d29,d32,d31,true⟩ _) ?_;rintro ai ⟨f10,t',k,hkl,hk1,hk2,ht',bC⟩;have sX:∀z,Ak A z->Ak a.x z\/w6.drew.drew.heap.size<=z:=λz hz=>ah z hz;have w6w:w.heap.size<=w6.drew.drew.heap.size:=x7.size;have nA:∀z,w.heap.size<=z->z<w6.drew.drew.heap.size->∀k,IZ {a with sl:=t',x:=A} k z->False:=by
   rintro z h1 h2 k hk;have hz8:=f8.size
   match k,hk with
   |0,hk=>exact U z h1 ⟨0,hk⟩
   |1,hk=>have:=ht' z hk;omega
   |2,hk=>exact(sX z hk).elim (λh=>U z h1 ⟨2,h⟩) λh=>by omega
   |(n+3),hk=>exact hk.elim
  have nB:∀z,w.heap.size<=z->z<w6.drew.drew.heap.size->¬qA {a with x:=A} z:=by
   rintro z h1 h2 ⟨k,hk⟩
   match k,hk with
   |0,hk=>exact U z h1 ⟨0,hk⟩
   |1,hk=>exact U z h1 ⟨1,hk⟩
   |2,hk=>exact(sX z hk).elim (λh=>U z h1 ⟨2,h⟩) λh=>by omega
   |(n+3),hk=>exact hk.elim
  have r2:=r2.fr f10 (nB q ao q6);have r3:=r3.fr f10 (nB t an t6);refine iK (i:=0) r2 rfl (by simp) λu ab ac bB=> ?_;have f11:iG ai u (·=q):=ac _ rfl;have ab:Row u q (iU (min d0 86400) d1 d2 d3 d4 d5 d6 d7 d8 d9 d10 d11 d12 d13 d14 d15 d16 d17 d18 d19 d20 d21 d22 d23 d24 d25 d26 d27 d28 d29 d30 d31 d32):=ab;have t11:=r3.fr f11 (by omega);have bp:=bC.fr f11 λk z hk e=>nA q ao q6 k (e ▸ hk);have o:I9 c SS w a u {a with sl:=t',x:=A} v' {x with M:=x.M.take k++⟨⟨sw,pr,ad,po,d29,d32,d31,true⟩,(x.now:Int)+min d0 86400⟩::x.M.drop k,S:=x.S.set i0 (some ⟨sw,pr,ad,po,d29,d32,d31,true⟩)}:=by
   refine⟨bp,⟨l.so.ins hk1 hk2 λp hp e=> ?_,λp=> ?_,?_,?_,?_,?_⟩,?_,rfl,hA,subT (n:=0) (λz hz=>by have:=ht' z hz;omega) λz hz=>(sX z hz).imp id λh=>by omega⟩
   ·obtain⟨y,hy,hb,_⟩:=(l.mem p).1 hp;exact hk y hy (by show kB y.b=_;rw[hb];exact e)
   ·rw[ahn,l.mem,hL',bm];constructor
    ·rintro(⟨z,hz,e1,e2⟩|rfl)
     ·exact⟨z,mem_cons_of_mem _ hz,e1,e2⟩
     ·exact⟨_,mem_cons_self,rfl,rfl⟩
    ·rintro⟨z,hz,e1,e2⟩;rcases List.mem_cons.1 hz with rfl|hz
     ·exact .inr (by cases p;simp only at e1 e2;rw[e1,e2])
     ·exact .inl ⟨z,hz,e1,e2⟩
   ·rw[hS'];show x.S.set _ _=_;rw[l.S]
   ·exact l.en.trans am.symm
   ·exact l.now.trans Y.symm
   ·exact l.most.trans I.symm
   ·have g10:iG w ai (qA a):=(g8.ext (Ext.drew w9)).trans f10 λy hy ⟨k,hk⟩=>by
     match k,hk with
     |0,hk=>exact⟨0,hk⟩
     |1,hk=>exact⟨1,hk⟩
     |2,hk=>exact(sX y hk).elim (λh=>⟨2,h⟩) λh=>by omega
     |(n+3),hk=>exact hk.elim
    exact g10.trans f11 λy hy e=>by omega
  have o2:I9 c SS w a u.drew {a with sl:=t',x:=A} v' _:=⟨o.srv.ext (Ext.drew u),o.lnk,o.fr.ext (Ext.drew u),o.s,o.x,o.sub⟩;refine rdA _ _ ab.drew (fin2 _ _ t11.drew λw' f'=>hK w' _ _ (outT o2 t11.drew.lt (λy hy e=> ?_) f'));obtain⟨k,hk⟩:=hy;subst e;exact nA _ an t6 k hk
end Go.Proofs.XS
end
section
namespace Go.Proofs.XS
open Gp Go.Proofs Go.Proofs.EN Go.Proofs.XN Go.Proofs.PS Go.Proofs.PM
open Gp.V4 (num beN)
open Gp.Bind (Bnd Slots live GoodB freeN getS In64)
variable {w w':World} {a:V6} {c:Cf} {SS:Gp.Ses.Slots} {x:XV} {v v':SV}
theorem agR {a:Int} (h:In64 a):∀i:Nat,i<4->IntKind.u8.wrap (mW .i64 a (IntKind.i64.wrap (8 * (i:Int))))=OT (a % 4294967296).toNat i:=by
 intro i hi;unfold In64 at h;have:i=0\/i=1\/i=2\/i=3:=by omega
 unfold OT mW;rw[wrap_i64 (n:=8 * (i:Int)) (by omega) (by omega)];rcases this with rfl|rfl|rfl|rfl
 ·show IntKind.u8.wrap (Int.fdiv a 1)=((_ / 1 % 256:Nat):Int);rw[Int.fdiv_eq_ediv_of_nonneg _ (by omega),IntKind.wrap_u8];omega
 ·show IntKind.u8.wrap (Int.fdiv a 256)=((_ / 256 % 256:Nat):Int);rw[Int.fdiv_eq_ediv_of_nonneg _ (by omega),IntKind.wrap_u8];omega
 ·show IntKind.u8.wrap (Int.fdiv a 65536)=((_ / 65536 % 256:Nat):Int);rw[Int.fdiv_eq_ediv_of_nonneg _ (by omega),IntKind.wrap_u8];omega
 ·show IntKind.u8.wrap (Int.fdiv a 16777216)=((_ / 16777216 % 256:Nat):Int);rw[Int.fdiv_eq_ediv_of_nonneg _ (by omega),IntKind.wrap_u8];omega
theorem abO (a:Int):bi (mapped a)=[0,0,0,0,0,0,0,0,0,0,255,255,OT (a % 4294967296).toNat 3,OT (a % 4294967296).toNat 2,OT (a % 4294967296).toNat 1,OT (a % 4294967296).toNat 0]:=by
 unfold mapped;generalize (a % 4294967296).toNat=n;simp[bi,beN,OT,List.replicate]
theorem aaV {w:World} {a:Int} (hi:In64 a) {K:Int->Int->Int->Int->Int->Int->Int->Int->Int->Int->Int->Int->Int->Int->Int->Int->b_} (h:∀x0 x1 x2 x3 x4 x5 x6 x7 x8 x9 I J N O R U w',[x0,x1,x2,x3,x4,x5,x6,x7,x8,x9,I,J,N,O,R,U]=bi (mapped a)->Ext w w'->K x0 x1 x2 x3 x4 x5 x6 x7 x8 x9 I J N O R U w'):sF a w K:=by
 apply Iw;refine iI λp w1 r1 e1 z1 f1=> ?_;refine iI λb w2 r2 e2 z2 f2=>⟨by omega,by omega,?_⟩;refine iK (i:=10) r2 rfl (by simp) λw3 r3 f3' z3=>⟨by omega,by omega,?_⟩;refine iK (i:=11) r3 rfl (by simp) λw4 r4 f4' z4=> ?_;have f3:iG w2 w3 (·=b):=f3' _ rfl;have f4:iG w3 w4 (·=b):=f4' _ rfl;simp only[List.set_cons_zero,List.set_cons_succ] at r4;have x4:Ext w1 w4:=f2.new (f3.trans f4 λy _ hy=>hy) λy hy e=>by omega
 have Y:=agR hi;have aa:=abO a;generalize (a % 4294967296).toNat=n at Y aa;refine iE (λst W=>∃k:Nat,k<=4/\st.1=(k:Int)/\Ext w1 W/\Row W b ([.int .u8 0,.int .u8 0,.int .u8 0,.int .u8 0,.int .u8 0,.int .u8 0,.int .u8 0,.int .u8 0,.int .u8 0,.int .u8 0,.int .u8 255,.int .u8 255,.int .u8 (if 4<=k then OT n 3 else 0),.int .u8 (if 3<=k then OT n 2 else 0),.int .u8 (if 2<=k then OT n 1 else 0),.int .u8 (if 1<=k then OT n 0 else 0)]:List Value))
  (λst _=>4 - st.1.toNat) ⟨0,by omega,rfl,x4,r4⟩ ?_
 rintro⟨j,⟨⟩⟩ W ⟨k,hk,hj,hx,hr⟩ next u
 dsimp only at hj;subst hj;by_cases ab:(k:Int)<4
 ·rw[decide_eq_true ab,cond_true,Y k (by omega),wrap_i64 (n:=8 * (k:Int)) (by omega) (by omega),wrap_i64 (n:=15 - (k:Int)) (by omega) (by omega)];refine⟨by omega,by omega,by omega,?_⟩;have ei:((15 - (k:Int)).toNat * 1)=15 - k:=by omega
  rw[ei,kK];refine iK (i:=0+(15 - k)) hr rfl (by simp;omega) λw5 r5 f5' z5=> ?_;have f5:iG W w5 (·=b):=f5' _ rfl;rw[wrap_i64 (by omega) (by omega)];refine u _ _ ⟨k+1,by omega,by simp,hx.new f5 λy hy e=>by omega,?_⟩ (by simp only;omega);have:k=0\/k=1\/k=2\/k=3:=by omega
  rcases this with rfl|rfl|rfl|rfl<;>exact r5
 ·rw[decide_eq_false ab,cond_false];obtain rfl:k=4:=by omega
  simp only[Nat.le_refl,Nat.reduceLeDiff,if_true] at hr;simp only[sx,hr.cell];refine iJ (r1.ext hx) rfl rfl λw7 r7 f7 z7=> ?_;simp only[sx,r7.cell];exact h _ _ _ _ _ _ _ _ _ _ _ _ _ _ _ _ _ aa.symm ((f1.trans hx).new (f7 (·=p) rfl) λy hy e=>by omega)
theorem agP {b:Bnd} {lf r e0 u I:Int} (h:Fq c v b lf r e0 u I v'):0<=r:=by
 rcases h with ⟨h0,hk⟩|⟨h0,hx,hk,hj,hL',hS'⟩|⟨h0,hx,hk,hz,hne⟩|⟨h0,hx,hk,hz,hL',he'⟩|⟨h0,hk,hf⟩|⟨h0,hk,hf,hm⟩|⟨h0,hk,hf,hm,hL',hfr,hS'⟩
 all_goals first|decide|skip
 unfold codeF;split
 ·decide
 ·split
  ·decide
  ·split
   ·decide
   ·split<;>decide
theorem ad9 (h:uh w a c SS x) (hs:NoX SS) (f:Fit c v x) (l:Lnk v x) {sw ad:Int} (au:In64 ad) {s:iq} {L:List UInt8} (av:qy w s L) (hl:L.length<=2^40) {e:Int} {bs:List UInt8} (hR:Qx c v sw ad L e bs v')
  (O:v'.now=v.now) (U:v'.most=v.most) (aw:v'.e.now=v.e.now) {K:iq->Int->b_}
  (hK:∀s' w' a' x',I9 c SS w a w' a' v' x'->Buf w' s' (bytesV bs)->K s' e w'):
  qZ (some ⟨a.s,0,none⟩) sw ad s w K:=by
 apply IU;have hxn:=l.now;have hfn:=f.now;refine aem av hl λd0 d1 d2 d3 d4 d5 d6 d7 d8 d9 d10 d11 d12 d13 d14 d15 d16 d17 d18 d19 d20 d21 d22 d23 d24 d25 d26 d27 d28 d29 d30 d31 d32 w1 f1 hp=> ?_;refine iI λq w2 r2 e2 z2 f2=> ?_;refine iJ r2 rfl rfl λw3 r3 f3 z3=> ?_;have x3:Ext w w3:=(f1.trans f2).new (f3 (·=q) rfl) λy hy e=>by have:=f1.size;omega
 have ab:w.heap.size<=q:=by have:=f1.size;omega
 have ac:∀y,w.heap.size<=y->¬qA a y:=λy hy ⟨k,hk⟩=>by have:=h.lt k y hk;omega
 have same:Lnk v x->v'=v->∀W,Ext w W->I9 c SS w a W a v' x:=λl e W hx=>⟨h.ext hx,e ▸ l,hx _,rfl,rfl,λz hz=> .inl hz⟩;by_cases he:jT L 1=0;rotate_left
 ·have:(jT L 1 !=0)=true:=by rw[bne_iff_ne];exact he
  rw[this,cond_true];rcases hR with hb|⟨hb,_⟩|⟨hb,_,_⟩
  ·exact hK _ w3 a x (same l rfl _ x3) Buf.nil
  ·exact absurd hb he
  ·exact absurd hb he
 have:(jT L 1 !=0)=false:=by rw[bne_eq_false_iff_eq];exact he
 rw[this,cond_false];obtain⟨p0,pc,pn,ag,ah,ai,aj⟩:=hp he;have hlen:L.length=60:=by
  unfold jT at he;split at he
  ·omega
  split at he
  ·omega
  omega
 have c16:(NH L).length=16:=by unfold NH;rw[length_take,length_drop];omega
 have n12:(Q7 L).length=12:=by unfold Q7;rw[length_take,length_drop];omega
 have answ:∀W a' x' r e0 u I,I9 c SS w a W a' v' x'->Row W q (iU (mg L r e0 u I).lf d1 d2 d3 d4 d5 d6 d7 d8 d9 d10 d11 d12 d13 d14 d15 d16 d17 d18 d19 d20 d21 d22 d23 d24 d25 d26 d27 d28 d29 d30 u I)->
   e=(if Dj r ((v.now % 4294967296:Nat):Int) (mg L r e0 u I) then 0 else 1)->bs=(if Dj r ((v.now % 4294967296:Nat):Int) (mg L r e0 u I) then Hg r ((v.now % 4294967296:Nat):Int) (Q7 L) (mg L r e0 u I) else [])->
   Pt (some ⟨a.s,0,none⟩) λax=>Ld (.int .i64) W.drew (ax.add 2) λay=>(4294967296:Int)≠0/\jD W.drew ⟨q,0,none⟩ λx0 x1 x2 x3 x4 x5 x6 x7 x8 x9 az aA aB aC aD aE aF aG aH aI aJ aK aL aM aN aO aP aQ aR aS aT aU aV=>sD r (Int.tmod ay 4294967296) x0 x1 x2 x3 x4 x5 x6 x7 x8 x9 az aA aB aC aD aE aF aG aH aI aJ aK aL aM aN aO aP aQ aR aS aT aU aV W.drew λaW aX aY=>K aW aX aY:=by
  intro W a' x' r e0 u I ho hr ae af;have hA:a'.s=a.s:=ho.s;have hd:=ho.srv.hd.drew;rw[hA] at hd;have hr:=hr.drew;refine jc.2 (iC (k:= .int .i64) (i:=2) (x:=(x'.now:Int)) hd rfl ⟨by decide,?_⟩);simp only[sx,hr.cell];have aZ:Int.tmod (x'.now:Int) 4294967296=((v.now % 4294967296:Nat):Int):=by
   rw[ho.lnk.now,O,Int.tmod_eq_emod_of_nonneg (by omega)];omega
  rw[aZ];refine Tf (acf (no:=Q7 L) n12 pn) ?_;rintro s' e' w9 ⟨f9,he9,b9,n9⟩;have a6:(⟨(mg L r e0 u I).lf,d29,d30,u,I⟩:PA)=mg L r e0 u I:=by
   rw[ag,ah];rfl
  rw[a6] at he9 b9;rw[<- ae] at he9;rw[<- af] at b9;subst he9;have xx:=(Ext.drew W).trans f9;exact hK s' w9 a' x' ⟨ho.srv.ext xx,ho.lnk,ho.fr.ext xx,ho.s,ho.x,ho.sub⟩ b9
 intro J;have hJ:∀W a' x' r e0 u I,0<=r->I9 c SS w a W a' v' x'->Row W q (iU e0 d1 d2 d3 d4 d5 d6 d7 d8 d9 d10 d11 d12 d13 d14 d15 d16 d17 d18 d19 d20 d21 d22 d23 d24 d25 d26 d27 d28 d29 d30 u I)->(∀y,qA a' y->¬y=q)->
   e=(if Dj r ((v.now % 4294967296:Nat):Int) (mg L r e0 u I) then 0 else 1)->bs=(if Dj r ((v.now % 4294967296:Nat):Int) (mg L r e0 u I) then Hg r ((v.now % 4294967296:Nat):Int) (Q7 L) (mg L r e0 u I) else [])->J r W:=by
  intro W a' x' r e0 u I hrp ho hr aa ae af;simp -zeta only[J];intro J2;have hJ2:∀W,I9 c SS w a W a' v' x'->Row W q (iU (mg L r e0 u I).lf d1 d2 d3 d4 d5 d6 d7 d8 d9 d10 d11 d12 d13 d14 d15 d16 d17 d18 d19 d20 d21 d22 d23 d24 d25 d26 d27 d28 d29 d30 u I)->J2 W:=λW ho hr=>answ W a' x' r e0 u I ho hr ae af;clear_value J2;by_cases hr0:r=0
  ·have:¬(r>0):=by omega
   rw[decide_eq_false this,cond_false];have et:(mg L r e0 u I).lf=e0:=by unfold mg;rw[if_pos hr0]
   refine hJ2 W ho ?_;rw[et];exact hr
  ·have:r>0:=by omega
   rw[decide_eq_true this,cond_true];have et:(mg L r e0 u I).lf=30:=by unfold mg;rw[if_neg hr0]
   refine iK hr rfl (by simp) λw9 r9 f9' z9=> ?_;have f9:iG W w9 (·=q):=f9' _ rfl;refine hJ2 w9 ⟨ho.srv.fr f9 λk y hy e=>aa y ⟨k,hy⟩ e,ho.lnk,ho.fr.trans f9 λy hy e=>by omega,ho.s,ho.x,ho.sub⟩ ?_;rw[et];exact r9
 clear_value J;have r3d:=r3.drew;have a7:bytesV (NH L)=jH d1 d2 d3 d4 d5 d6 d7 d8 d9 d10 d11 d12 d13 d14 d15 d16:=by rw[uH];unfold NH;rw[<- pc];rfl
 refine BD (o:=1) (m:=NH L) (A:=[.int .i64 d0]) (C:=[.int .u8 d17,.int .u8 d18,.int .u8 d19,.int .u8 d20,.int .u8 d21,.int .u8 d22,.int .u8 d23,.int .u8 d24,.int .u8 d25,.int .u8 d26,.int .u8 d27,.int .u8 d28,.int .i64 d29,.int .i64 d30,.int .i64 d31,.int .i64 d32]) r3d (by rw[a7];rfl) rfl c16 λu0 u1 u2 u3 u4 u5 u6 u7 u8 u9 ak al am an ao aq hx=> ?_;have ar:[u0,u1,u2,u3,u4,u5,u6,u7,u8,u9,ak,al,am,an,ao,aq]=[d1,d2,d3,d4,d5,d6,d7,d8,d9,d10,d11,d12,d13,d14,d15,d16]:=hx.trans pc.symm;simp only[List.cons.injEq,and_true] at ar;obtain⟨rfl,rfl,rfl,rfl,rfl,rfl,rfl,rfl,rfl,rfl,rfl,rfl,rfl,rfl,rfl,rfl⟩:=ar;refine aaV au λq0 q1 q2 q3 q4 q5 q6 q7 q8 q9 q10 q11 q12 q13 q14 q15 w4 hy f4=> ?_;have x4:=(x3.trans (Ext.drew w3)).trans f4;have r4:=r3d.ext f4;have a8:∀R:Prop,R->CkN (jH u0 u1 u2 u3 u4 u5 u6 u7 u8 u9 ak al am an ao aq) w4 (Addr.add ⟨q,0,none⟩ 1) 0 R:=by
  intro R hR;simp only[sx,zo,Di,r4.cell,true_and];exact hR
 refine a8 _ ?_;rw[Yw (hx.trans (by rfl)) hy];by_cases hc:NH L=mapped ad;rotate_left
 ·rw[decide_eq_false hc,cond_false];have e:mg L 12 d0 d31 d32=mg L 12 0 (Bc L).ou (Bc L).ad:=by rw[ai,aj];rfl
  rcases hR with hb|⟨_,Y⟩|⟨_,Y,_⟩
  ·exact absurd he hb
  ·exact hJ w4 a x 12 d0 d31 d32 (by decide) (same l rfl _ x4) r4 (λy hy e=>ac q ab (e ▸ hy)) (by rw[e]) (by rw[e])
  ·exact absurd Y hc
 rw[decide_eq_true hc,cond_true];have eb:aeL L sw ad=⟨sw,d29,ad,d30,d29,d32,d31,true⟩:=by rw[ag,ah,ai,aj];rfl
 have e0':(Bc L).lf=d0:=p0.symm;rcases hR with hb|⟨_,Y⟩|⟨_,Y,N⟩
 ·exact absurd he hb
 ·exact absurd hc Y
 rw[eb,e0'] at N;simp only[sx,r4.cell];refine agO (h.ext x4) hs f l (by have:=PM.acQ L 4;omega) N O U aw λw5 a' x' ho=> ?_;have ho':I9 c SS w a w5 a' v' x':=⟨ho.srv,ho.lnk,x4.fr ho.fr,ho.s,ho.x,λy hy=>(ho.sub y hy).imp_right λh=>by have:=x4.size;omega⟩;have r5:=r4.fr ho.fr (ac q ab);refine iJ r5 rfl rfl λw6 r6 f6' z6=> ?_;have f6:iG w5 w6 (·=q):=f6' _ rfl;have aa:∀y,qA a' y->¬y=q:=λy hy e=>by
  subst e;rcases ho.sub _ hy with h|h
  ·exact ac y ab h
  ·have:=r4.lt;omega
 exact hJ w6 a' x' _ _ _ _ (agP N) ⟨ho'.srv.fr f6 λk y hy e=>aa y ⟨k,hy⟩ e,ho'.lnk,ho'.fr.trans f6 λy hy e=>by omega,ho'.s,ho'.x,ho'.sub⟩ r6 aa rfl rfl
end Go.Proofs.XS
end
section
namespace Go.Proofs.XS
open Gp Go.Proofs Go.Proofs.EN Go.Proofs.XN Go.Proofs.PS
open Go.Proofs.CN (SlN_ix)
open Gp.Bind (Bnd Slots live GoodB freeN getS In64)
variable {w w':World} {a:V6} {c:Cf} {SS:Gp.Ses.Slots} {x:XV}
structure adi (c:Cf) (M:List I7) (S:Slots):Prop where
 so:Srt M
 eb:∀p∈M,p.b.st=true/\Gw c p.b/\∃j:Nat,S[j]? =some (some p.b)
 inn:∀(j k:Nat) (b y:Bnd),S[j]? =some (some b)->S[k]? =some (some y)->y.i=b.i->k=j
 one:∀(j k:Nat) (b y:Bnd),S[j]? =some (some b)->S[k]? =some (some y)->(y.opr,y.oad,y.opo)=(b.opr,b.oad,b.opo)->k=j
theorem Ey {S:Slots} {j k:Nat} {y:Bnd}:(S.set j none)[k]? =some (some y)↔k≠j/\S[k]? =some (some y):=by
 rw[List.getElem?_set];by_cases h:j=k
 ·subst h;simp
 ·have:k≠j:=λe=>h e.symm;simp[h,this]
theorem adi.drop {M:List I7} {S:Slots} (f:adi c M S) {i j:Nat} {p:I7} (hi:M[i]? =some p) (hj:S[j]? =some (some p.b)):adi c (M.take i++M.drop (i+1)) (S.set j none):=by
 refine⟨f.so.rem i,λq hq=> ?_,λj' k b y h1 h2 he=> ?_,λj' k b y h1 h2 he=> ?_⟩
 ·obtain⟨hq,h⟩:=(YL f.so hi).1 hq;obtain⟨g1,g2,k,hk⟩:=f.eb q hq;refine⟨g1,g2,k,Ey.2 ⟨λe=> ?_,hk⟩⟩;subst e;rw[hj] at hk;simp only[Option.some.injEq] at hk;exact h (f.so.one hq (mem_of_getElem? hi) (by rw[hk]))
 ·exact f.inn j' k b y (Ey.1 h1).2 (Ey.1 h2).2 he
 ·exact f.one j' k b y (Ey.1 h1).2 (Ey.1 h2).2 he
structure aco (M:List I7) (S:Slots) (T:Nat) (k:Nat) (x':XV):Prop where
 ml:x'.M=M.take k++(M.drop k).filter λp=>decide ((T:Int)<p.un)
 len:x'.S.length=S.length
 sl:∀(j:Nat) (b:Bnd),x'.S[j]? =some (some b)↔S[j]? =some (some b)/\∀p∈M.drop k,p.b=b->(T:Int)<p.un
theorem agx (h:uh w a c SS x) (hs:NoX SS) (f:adi c x.M x.S) (t:Int) {T:Nat} (hT:T=max x.now (min t 1099511627776).toNat):
  kR (some ⟨a.s,0,none⟩) t w λn w'=>iG w w' (qA a)/\∃a' x',uh w' a' c SS x'/\a'.s=a.s/\a'.x.x=a.x.x/\(∀z,qA a' z->qA a z\/w.heap.size<=z)/\
   x'.now=T/\x'.most=x.most/\x'.en=x.en/\aco x.M x.S T 0 x'/\n=((x.M.length:Int) - x'.M.length):=by
 apply GL;have hlen:=h.sl.len;have hll:=h.ll;refine jc.2 (iC (k:= .int .i64) (i:=2) (x:=(x.now:Int)) h.hd rfl ?_);have e1:(if (if (1099511627776:Int)<t then 1099511627776 else t)>(x.now:Int) then (if (1099511627776:Int)<t then 1099511627776 else t) else (x.now:Int))=(T:Int):=by omega
 rw[e1];refine jc.2 (iK (i:=2) h.hd rfl (by simp) λw1 r1 f1' z1=> ?_);have f1:iG w w1 (·=a.s):=f1' _ rfl;simp only[List.set_cons_zero,List.set_cons_succ] at r1;have o:∀k z,IZ a k z->k≠0->¬z=a.s:=λk z hk Y he=>h.off hk Y he;have h1:uh w1 a c SS {x with now:=T}:=⟨r1,h.ls.fr f1 (λz hz=>o 1 z hz (by decide)),h.en.fr f1 (λk z hz=>o 2 z ⟨k,hz⟩ (by decide)),h.ll,h.ap,λk z hz=>Nat.lt_of_lt_of_le (h.lt k z hz) f1.size⟩;refine jc.2 (iC (k:= .slice) (i:=1) (x:=a.sl) h1.hd rfl ?_);rw[wrap_i64 (n:=(a.sl.len:Int) - 1) (by omega) (by omega)];refine iE (λst W=>∃(k:Nat) (a':V6) (x':XV),k<=x.M.length/\st.2.1=(k:Int) - 1/\iG w W (qA a)/\uh W a' c SS x'/\a'.s=a.s/\a'.x.x=a.x.x/\(∀z,qA a' z->qA a z\/w.heap.size<=z)/\
   x'.now=T/\x'.most=x.most/\x'.en=x.en/\adi c x'.M x'.S/\aco x.M x.S T k x'/\st.1=((x.M.length:Int) - x'.M.length)) (λst _=>(st.2.1+1).toNat)
  ⟨x.M.length,a,{x with now:=T},Nat.le_refl _,by rw[hlen],f1.mono λy hy=>⟨0,hy⟩,h1,rfl,rfl,λz hz=> .inl hz,rfl,rfl,rfl,f,⟨by simp,rfl,λj b=>by simp⟩,by simp⟩ ?_
 rintro⟨n,j,⟨⟩⟩ W ⟨k,a',x',hk,hj,hf,hW,ha1,ha2,I,hn1,hn2,hn3,O,hg,ae⟩ next J
 dsimp only at hj ae;subst hj ae;by_cases h0:(k:Int) - 1>=0;rotate_left
 ·rw[decide_eq_false h0,cond_false];obtain rfl:k=0:=by omega
  exact⟨hf,a',x',hW,ha1,ha2,I,hn1,hn2,hn3,hg,rfl⟩
 rw[decide_eq_true h0,cond_true];obtain⟨i,rfl⟩:∃i,k=i+1:=⟨k - 1,by omega⟩;have ei:((i+1:Nat):Int) - 1=(i:Int):=by omega
 rw[ei];have af:i<x.M.length:=by omega
 have hg0:=getElem?_eq_getElem af;generalize hp:x.M[i]=p at hg0;have R:x'.M[i]? =some p:=by
  rw[hg.ml,List.getElem?_append_left (by rw[length_take];omega),List.getElem?_take,if_pos (by omega),hg0]
 have U:x.M.drop i=p::x.M.drop (i+1):=by rw[List.drop_eq_getElem_cons af,hp]
 have ag:x.M.take (i+1)=x.M.take i++[p]:=EN.take_succ hg0;have aa:(x.M.take i).length=i:=by rw[length_take];omega
 have hd:=hW.ext (Ext.drew W);have ab:=hd.hd;rw[ha1,hn1] at ab;refine jc.2 (iC (k:= .slice) (i:=1) (x:=a'.sl) ab rfl ?_);refine afw hd.ls R λad _ hc=> ?_;have c7:=hc 7 _ rfl;refine zq (k:= .int .i64) (y:=p.un) c7 ?_;refine jc.2 (iC (k:= .int .i64) (i:=2) (x:=(T:Int)) ab rfl ?_);have hx'l:=hW.ll;have ah:p∈x'.M:=mem_of_getElem? R;have ac:x'.M=x.M.take i++p::(x.M.drop (i+1)).filter λp=>decide ((T:Int)<p.un):=by rw[hg.ml,ag,List.append_assoc];rfl
 have hlen':x'.M.length<=x.M.length:=by
  have:=List.length_filter_le (λp:I7=>decide ((T:Int)<p.un)) (x.M.drop (i+1));rw[ac,length_append,List.length_cons,aa];rw[length_drop] at this;omega
 by_cases hu:p.un<=(T:Int)
 ·rw[decide_eq_true hu,cond_true];obtain⟨g1,g2,j,hj⟩:=O.eb p ah;rw[<- ha1];refine Cc (La (j:=j) hd hs R hj g1 g2 (λk y hk he=>O.inn j k _ y hj hk he) (λk y hk he=>O.one j k _ y hj hk he)) ?_;rintro w5 ⟨f5,t',A,hA,ht',ai,h5⟩;rw[wrap_i64 (n:=(x.M.length:Int) - x'.M.length+1) (by omega) (by omega),wrap_i64 (n:=(i:Int) - 1) (by omega) (by omega)];have hz:=hf.size;have wd:W.drew.heap.size=W.heap.size:=rfl;have eM:x'.M.take i++x'.M.drop (i+1)=x.M.take i++(x.M.drop (i+1)).filter λp=>decide ((T:Int)<p.un):=by
   rw[ac,List.take_left' aa];congr 1;rw[show i+1=(x.M.take i).length+1 by rw[aa],List.drop_append];simp
  have hlt:x'.M.length=(x'.M.take i++x'.M.drop (i+1)).length+1:=by
   have hl1:i<x'.M.length:=(List.getElem?_eq_some_iff.1 R).1;rw[length_append,length_take,length_drop];omega
  refine J _ _ ⟨i,{a' with sl:=t',x:=A},_,by omega,rfl,?_,h5,ha1,hA.trans ha2,?_,hn1,hn2,hn3,O.drop R hj,⟨?_,?_,?_⟩,?_⟩ (by simp only;omega)
  ·refine(hf.ext (Ext.drew W)).trans f5 λy hy hy2=> ?_;exact(I y hy2).elim id λh=>by omega
  ·rintro z ⟨k,hk⟩
   match k,hk with
   |0,hk=>exact I z ⟨0,hk⟩
   |1,hk=>exact .inr (by have:=ht' z hk;omega)
   |2,hk=>exact(ai z hk).elim (λh=>I z ⟨2,h⟩) λh=> .inr (by omega)
   |(n+3),hk=>exact hk.elim
  ·show x'.M.take i++x'.M.drop (i+1)=_;rw[eM,U,List.filter_cons,if_neg (by simp;omega)]
  ·show (x'.S.set j none).length=_;rw[length_set];exact hg.len
  ·intro k b;show (x'.S.set j none)[k]? =_↔_;rw[Ey,hg.sl,U];constructor
   ·rintro⟨Y,hk,u⟩;refine⟨hk,λq hq N=> ?_⟩;rcases List.mem_cons.1 hq with rfl|hq
    ·refine absurd (O.inn j k _ _ hj ((hg.sl k b).2 ⟨hk,u⟩) (by rw[N])) Y
    ·exact u q hq N
   ·rintro⟨hk,u⟩;refine⟨λe=> ?_,hk,λq hq N=>u q (mem_cons_of_mem _ hq) N⟩;subst e;have h2:=((hg.sl k p.b).1 hj).1;rw[hk] at h2;simp only[Option.some.injEq] at h2;have:=u p mem_cons_self h2.symm;omega
  ·show (x.M.length:Int) - x'.M.length+1=(x.M.length:Int) - ((x'.M.take i++x'.M.drop (i+1)).length:Nat);omega
 ·rw[decide_eq_false hu,cond_false];rw[wrap_i64 (n:=(i:Int) - 1) (by omega) (by omega)];refine J _ _ ⟨i,a',x',by omega,rfl,hf.ext (Ext.drew W),hd,ha1,ha2,I,hn1,hn2,hn3,O,⟨?_,hg.len,λk b=> ?_⟩,rfl⟩ (by simp only;omega)
  ·rw[ac,U,List.filter_cons,if_pos (by simp;omega)]
  ·rw[hg.sl,U];constructor
   ·rintro⟨hk,u⟩;refine⟨hk,λq hq N=> ?_⟩;rcases List.mem_cons.1 hq with rfl|hq
    ·omega
    ·exact u q hq N
   ·rintro⟨hk,u⟩;exact⟨hk,λq hq N=>u q (mem_cons_of_mem _ hq) N⟩
end Go.Proofs.XS
end
section
namespace Go.Proofs.PS
open Gp Go.Proofs Go.Proofs.EN
open Gp.Bind (Bnd Slots live GoodB freeN getS In64)
open Gp.Wh (Tm)
variable {w w':World} {A:SA} {c:Cf} {Z:Bnd->Prop} {v:SV}
theorem ahv (h:Srv w A c v) (g:Good c Z v []) (htn:v.tn<2^61) (hLl:v.L.length<=2^40) (a:Int) {T:Nat} (hT:T=max v.now (min a 1099511627776).toNat):
  jO (some ⟨A.s,0,none⟩) a w λn w'=>iG w w' (jS A v.L)/\∃A' v',Srv w' A' c v'/\Good c Z v' []/\A'.s=A.s/\A'.a=A.a/\(∀b,jS A' v'.L b->jS A v.L b\/w.heap.size<=b)/\
   v'.now=T/\(∀x,x∈v'.L↔x∈v.L/\(T:Int)<x.un)/\v'.tn<=v.tn+1048576/\v'.e.now=v.e.now/\v'.e.l=v.e.l/\v'.e.S.length=v.e.S.length/\(∀(j:Nat) (b:Bnd),v'.e.S[j]? =some (some b)↔v.e.S[j]? =some (some b)/\∀x∈v.L,x.b=b->(T:Int)<x.un)/\v'.most=v.most/\v'.nx=v.nx/\n=((v.L.length:Int) - v'.L.length):=by
 apply Ac;have hnw:=h.wh.wi.nw;have hwn:=g.wn;refine nV (Ad h) ?_;rintro r w1 ⟨rfl,hw⟩;subst hw;simp only[Bool.not_true,cond_false,sx,h.hd.cell];have e1:(if (if (1099511627776:Int)<a then 1099511627776 else a)>(v.now:Int) then (if (1099511627776:Int)<a then 1099511627776 else a) else (v.now:Int))=(T:Int):=by omega
 rw[e1];refine iK h.hd rfl (by simp) λw2 r2 f2' z2=> ?_;have f2:iG w1 w2 (·=A.s):=f2' _ rfl;have h2:=(h.ad_ f2 r2).ext (Ext.drew w2);simp only[sx,h2.hd.cell];have hT2:T=max v.wn (min (T:Int) 1099511627776).toNat:=by omega
 refine oU (WN.Fp h2.wh (T:Int) hT2) ?_;rintro s w3 ⟨f3,D,aA,hD,am,an,ss,l',F,hw3,hl',hlen,aq,aB⟩;have h3:=h2.setW f3 hw3 aq;have g3:=g.off (λid t ht=>(h.wh.wi.pl id t ht).1) hD hl' v.tn F;have hD:∀t,t∈D↔kT v.l t.id=some t/\t.a<=T:=hD;have hlen:l'.length+D.length=v.l.length:=hlen;have ar:=Xy aA hD;have hlen2:(D.length:Int)<=1048576:=by have:=h.wh.mo;omega
 have ed:w2.drew.heap.size=w2.heap.size:=rfl;have g0:iG w1 w3 (jS A v.L):=((f2.mono λb hb=>⟨0,hb⟩).ext (Ext.drew w2)).trans f3 λb _ hb=>⟨2,hb⟩;refine iE (λst W=>∃(k:Nat) (A2:SA) (v2:SV),k<=D.length/\st.2.1=(k:Int)/\st.1=((v.L.length:Int) - v2.L.length)/\Srv W A2 c v2/\Good c Z v2 ((D.drop k).map Tm.id)/\A2.s=A.s/\A2.a=A.a/\v2.now=T/\(v2.tn<=v.tn+k/\v2.wn=T/\v2.l.length+(D.length - k)<=v.l.length/\v2.e.now=v.e.now/\v2.e.l=v.e.l/\v2.e.S.length=v.e.S.length/\∀(j:Nat) (b:Bnd),v2.e.S[j]? =some (some b)↔v.e.S[j]? =some (some b)/\∀x∈v.L,x.b=b->¬(x.id∈(D.take k).map Tm.id/\x.un<=(T:Int)))/\v2.most=v.most/\v2.nx=v.nx/\
   (∀x,x∈v2.L↔x∈v.L/\¬(x.id∈(D.take k).map Tm.id/\x.un<=(T:Int)))/\v2.L.length<=v.L.length/\iW 1 WN.eI W s (D.map Tm.id)/\iG w1 W (jS A v.L)/\(∀b,jS A2 v2.L b->(jS A v.L b\/w1.heap.size<=b)/\¬iq.at s b))
  (λst _=>D.length - st.2.1.toNat) ⟨0,{A with ss:=ss},_,by omega,rfl,by simp,h3,g3,rfl,rfl,rfl,⟨by simp,rfl,by simp only;omega,rfl,rfl,rfl,by simp⟩,rfl,rfl,by simp,Nat.le_refl _,am,g0,?_⟩ ?_
 ·rintro b ⟨k,hk⟩;by_cases hk2:k=2
  ·subst hk2;refine⟨?_,λhs=>aB b hs hk⟩;rcases aq b hk with hb|hb
   ·exact .inl ⟨2,hb⟩
   ·exact .inr (by omega)
  ·have au:own A v.L k b:=by
    match k,hk with
    |0,ho=>exact ho
    |1,ho=>exact ho
    |2,_=>exact absurd rfl hk2
    |3,ho=>exact ho
    |4,ho=>exact ho
    |5,ho=>exact ho
    |(n+6),ho=>exact ho
   exact⟨.inl ⟨k,au⟩,λhs=>by have:=an b hs;have:=h.lt k b au;omega⟩
 rintro⟨gn,ix,⟨⟩⟩ W ⟨k,A2,v2,hk,av,aw,hS,hG,hs2,ha2,hn2,ht2,hm2,hx2,hL2,hc2,hb2,hf2,ho2⟩ next O
 simp only at av aw;subst av aw;obtain⟨ht2a,ae,hll2,U,Y,aa,I⟩:=ht2;have hslen:s.len=D.length:=by rw[hb2.sl WN.kN (by omega)|>.len,length_map]
 by_cases ak:k<D.length
 ·have ab:((k:Int)<(s.len:Int)):=by omega
  simp only[ab,decide_true,cond_true];have af:(D.drop k).map Tm.id=D[k].id::(D.drop (k+1)).map Tm.id:=by rw[List.drop_eq_getElem_cons ak,map_cons]
  obtain⟨ax,hla⟩:=(hD D[k]).1 (List.getElem_mem ak);obtain⟨x,hx,R,_⟩:=(g.wl D[k].id).1 (by rw[ax];rfl);have aC:x.id∉(D.take k).map Tm.id:=by
   rw[R];intro hm;have:=ar;rw[<- List.take_append_drop k D,map_append,af,List.nodup_append] at this;exact this.2.2 _ hm _ mem_cons_self rfl
  have hx2':x∈v2.L:=(hL2 x).2 ⟨hx,λhc=>aC hc.1⟩;refine SN.ER (hb2.sl WN.kN (by omega)) (z:=x.id) (by rw[getElem?_map,getElem?_eq_getElem ak,map_some,R]) λad ag=> ?_;simp only[Uc,ag,iy,iF,<- hs2,sx,hS.hd.cell];have ay:=hG.find hx2';refine DX (k:= .ptr) (enc:=Dq) (ev:=Xp) hS.ld eqN x.id (Z_ _) (λhc=>by rw[ay] at hc;cases hc) (λb hb=> ?_);rw[ay] at hb
  cases hb
  have ac:=hS.ext (Ext.drew W);have rx:=ac.rw x hx2';simp only[iR.v] at rx;simp only[Xp,sx,rx.cell,ac.hd.cell];have hta:=g.wt x hx D[k] (by rw[R];exact ax);have ah:(D.take (k+1)).map Tm.id=(D.take k).map Tm.id++[x.id]:=by
   rw[List.take_succ_eq_append_getElem ak,map_append,R];rfl
  have hWs:w1.heap.size<=W.heap.size:=hf2.size;have hWd:W.drew.heap.size=W.heap.size:=rfl;by_cases ai:x.un>((v2.now:Nat):Int)
  ·rw[decide_eq_true ai,cond_true];have hT40:(T:Int)=1099511627776:=by rw[hn2] at ai;omega
   have ao:kT v2.l x.id=none:=by
    cases aD:kT v2.l x.id with
    |none=>rfl
    |some t=>
     obtain⟨_,_,_,aE⟩:=(hG.wl x.id).1 (by rw[aD];rfl);exact absurd (by rw[af,<- R];exact mem_cons_self) aE
   have hir:=hG.ir x hx2';have ha0:WN.Ul v2.l v2.most x.id 1099511627776=0:=by
    unfold WN.Ul;have:=h.wh.mo;rw[if_neg (by omega),if_neg (by rintro⟨_,h9⟩;rw[hm2] at h9;omega)]
   refine Ed (WN.ac6 ac.wh x.id 1099511627776 (by omega)) ?_;rintro r W2 ⟨_,fd,ss',F',J,hw'⟩;simp only[ha0,if_true] at hw';have hS':=ac.setW fd hw' J;have al:∀y∈v.L,¬(y.id∈(D.take (k+1)).map Tm.id/\y.un<=(T:Int))↔¬(y.id∈(D.take k).map Tm.id/\y.un<=(T:Int)):=by
    intro y hy;rw[ah,mem_append,mem_singleton];constructor
    ·exact λh1 h2=>h1 ⟨.inl h2.1,h2.2⟩
    ·rintro h1 ⟨h2|h2,h3⟩
     ·exact h1 ⟨h2,h3⟩
     ·rw[g.ii y hy x hx h2,] at h3;rw[hn2] at ai;omega
   rw[wrap_i64 (by omega) (by omega)];refine O _ _ ⟨k+1,{A2 with ss:=ss'},{v2 with l:=IB v2.l x.id ⟨x.id,max (1099511627776:Int).toNat v2.wn,v2.tn+1⟩,tn:=v2.tn+1,F:=F'},by omega,by simp,by trivial,hS',?_,hs2,ha2,hn2,⟨?_,ae,?_,U,Y,aa,λj b=> ?_⟩,hm2,hx2,λy=> ?_,hc2,?_,?_,?_⟩ (by simp only;omega)
   ·have aF:x.id∉(D.drop (k+1)).map Tm.id:=by
     have:=ar;rw[<- List.take_append_drop k D,map_append,af,List.nodup_append,List.nodup_cons] at this;rw[R];exact this.2.1.1
    refine⟨hG.inv,hG.ns,hG.wn,hG.li,hG.ld,hG.kk,hG.ii,hG.eb,hG.ex,hG.ir,λid=> ?_,λy hy t ht=> ?_⟩
    ·show (kT (IB v2.l x.id _) id).isSome=true↔_;rw[Np];by_cases u:id=x.id
     ·subst u;rw[if_pos rfl];exact⟨λ_=>⟨x,hx2',rfl,aF⟩,λ_=>rfl⟩
     ·rw[if_neg u,hG.wl,af];constructor
      ·rintro⟨y,hy,e,hn⟩;exact⟨y,hy,e,λhm=>hn (mem_cons_of_mem _ hm)⟩
      ·rintro⟨y,hy,e,hn⟩;refine⟨y,hy,e,λhm=> ?_⟩;rcases List.mem_cons.1 hm with h5|h5
       ·exact u (h5.trans R.symm)
       ·exact hn h5
    ·have ht:kT (IB v2.l x.id _) y.id=some t:=ht;rw[Np] at ht;split at ht
     ·rename_i u
      cases ht
      have:=hG.ii y hy x hx2' u;subst this;show ((max (1099511627776:Int).toNat v2.wn:Nat):Int)=_;omega
     ·exact hG.wt y hy t ht
   ·show v2.tn+1<=_
    push_cast;omega
   ·show (IB v2.l x.id _).length+_<=_;have:=WN.agm v2.l x.id ⟨x.id,max (1099511627776:Int).toNat v2.wn,v2.tn+1⟩;rw[if_pos ao] at this;omega
   ·show v2.e.S[j]? =_↔_;rw[I];constructor
    ·exact λ⟨h1,h2⟩=>⟨h1,λy hy hb=>(al y hy).2 (h2 y hy hb)⟩
    ·exact λ⟨h1,h2⟩=>⟨h1,λy hy hb=>(al y hy).1 (h2 y hy hb)⟩
   ·show y∈v2.L↔_;rw[hL2];constructor
    ·exact λ⟨h1,h2⟩=>⟨h1,(al y h1).2 h2⟩
    ·exact λ⟨h1,h2⟩=>⟨h1,(al y h1).1 h2⟩
   ·exact(hb2.ext (Ext.drew W)).fr fd λb hb ho=>(ho2 b ⟨2,ho⟩).2 hb
   ·refine(hf2.ext (Ext.drew W)).trans fd λb hb ho=> ?_;rcases(ho2 b ⟨2,ho⟩).1 with h1|h1
    ·exact h1
    ·omega
   ·rintro b ⟨j,hj⟩;by_cases hj2:j=2
    ·subst hj2;rcases J b hj with hb|hb
     ·exact ho2 b ⟨2,hb⟩
     ·exact⟨.inr (by omega),λhs=>by have:=hb2.lt hs;omega⟩
    ·refine ho2 b ⟨j,?_⟩
     match j,hj with
     |0,ho=>exact ho
     |1,ho=>exact ho
     |2,_=>exact absurd rfl hj2
     |3,ho=>exact ho
     |4,ho=>exact ho
     |5,ho=>exact ho
     |(n+6),ho=>exact ho
  rw[decide_eq_false ai,cond_false];have az:x.un<=(T:Int):=by rw[hn2] at ai;omega
  obtain⟨aG,i,hi⟩:=hG.eb x hx2';refine xB (La ac hG.inv hG.ns hx2' hi aG) ?_;rintro W2 ⟨fd,ss',F',Mi,Mo,Q,G,J,aj,hS'⟩;have hG':=hG.drop ac hx2' hi (P':=(D.drop (k+1)).map Tm.id) (λid u=>by rw[af,mem_cons];exact⟨.inr,λh=>h.resolve_left (by rw[<- R];exact u)⟩) F' aj;rw[wrap_i64 (n:=(v.L.length:Int) - v2.L.length+1) (by omega) (by omega),wrap_i64 (n:=(k:Int)+1) (by omega) (by omega)];have hf1:=UR hS.bn (List.mem_map.2 ⟨x,hx2',rfl⟩);refine O _ _ ⟨k+1,{A2 with ss:=ss'},_,by omega,by simp,?_,hS',hG',hs2,ha2,hn2,⟨?_,ae,?_,U,Y,?_,λj b=> ?_⟩,hm2,hx2,λy=> ?_,?_,?_,?_,?_⟩ (by simp only;omega)
  ·show (v.L.length:Int) - v2.L.length+1=(v.L.length:Int) - ((v2.L.filter λy=> !(y.blk==x.blk)).length:Nat);omega
  ·show v2.tn<=_
   push_cast;omega
  ·show (yx v2.l x.id).length+_<=_;have:=(K_ v2.l x.id).length_le;omega
  ·show (v2.e.S.set i none).length=_;rw[length_set];exact aa
  ·show (v2.e.S.set i none)[j]? =_↔_;rw[Go.Proofs.XS.Ey,I];have hi0:=((I i x.b).1 hi).1;constructor
   ·rintro⟨aH,hj,N⟩;refine⟨hj,λy hy hb hc=> ?_⟩;rw[ah,mem_append,mem_singleton] at hc;rcases hc with ⟨h5|h5,h6⟩
    ·exact N y hy hb ⟨h5,h6⟩
    ·have:=g.ii y hy x hx h5;subst this;subst hb;exact aH (DU h.en.db.good hi0 hj rfl)
   ·rintro⟨hj,N⟩;refine⟨λe=> ?_,hj,λy hy hb hc=>N y hy hb ⟨by rw[ah];exact List.mem_append_left _ hc.1,hc.2⟩⟩;subst e;rw[hi0] at hj;simp only[Option.some.injEq] at hj;exact N x hx hj ⟨by rw[ah];exact List.mem_append_right _ mem_cons_self,az⟩
  ·show y∈(v2.L.filter λy=> !(y.blk==x.blk))↔_;rw[ah,mem_append,mem_singleton,List.mem_filter,hL2];constructor
   ·rintro⟨⟨h1,h2⟩,h3⟩;refine⟨h1,λhc=>hc.1.elim (λh4=>h2 ⟨h4,hc.2⟩) λhe=> ?_⟩;have:=g.ii y h1 x hx he;subst this;simp at h3
   ·rintro⟨h1,h2⟩;refine⟨⟨h1,λhc=>h2 ⟨.inl hc.1,hc.2⟩⟩,?_⟩;have:y.blk≠x.blk:=λhe=>h2 (by rw[ET hS.bn hx2' ((hL2 y).2 ⟨h1,λhc=>h2 ⟨.inl hc.1,hc.2⟩⟩) he];exact⟨.inr rfl,az⟩);simpa using this
  ·show (v2.L.filter λy=> !(y.blk==x.blk)).length<=_;omega
  ·exact(hb2.ext (Ext.drew W)).fr fd λb hb ho=>(ho2 b ho).2 hb
  ·refine(hf2.ext (Ext.drew W)).trans fd λb hb ho=> ?_;rcases(ho2 b ho).1 with h1|h1
   ·exact h1
   ·omega
  ·rintro b ⟨j,hj⟩;by_cases hj2:j=2
   ·subst hj2;rcases J b hj with hb|hb
    ·exact ho2 b ⟨2,hb⟩
    ·exact⟨.inr (by omega),λhs=>by have:=hb2.lt hs;omega⟩
   ·refine ho2 b ⟨j,?_⟩
    match j,hj with
    |0,ho=>exact ho
    |1,ho=>exact ho
    |2,_=>exact absurd rfl hj2
    |3,ho=>exact ho
    |4,ho=>exact ho
    |5,⟨y,hy,e⟩=>exact⟨y,(List.mem_filter.1 hy).1,e⟩
    |(n+6),ho=>exact ho
 ·have hk3:k=D.length:=by omega
  subst hk3;have ab:¬(((D.length:Nat):Int)<(s.len:Int)):=by omega
  simp only[ab,decide_false,cond_false];rw[List.drop_length,map_nil] at hG;have key:∀x∈v.L,(x.id∈(D.take D.length).map Tm.id/\x.un<=(T:Int))↔x.un<=(T:Int):=by
   intro x hx;have h1:=(g.wl x.id).2 ⟨x,hx,rfl,by simp⟩;obtain⟨t,ht⟩:=Option.isSome_iff_exists.1 h1;have h2:=g.wt x hx t ht;have u:=(h.wh.wi.pl _ _ ht).1;refine⟨λh=>h.2,λh=>⟨?_,h⟩⟩;rw[List.take_length];exact List.mem_map.2 ⟨t,(hD t).2 ⟨by rw[u];exact ht,by omega⟩,u⟩
  refine⟨hf2,A2,v2,hS,hG,hs2,ha2,λb hb=>(ho2 b hb).1,hn2,λx=> ?_,by omega,U,Y,aa,λj b=> ?_,hm2,hx2,rfl⟩
  ·rw[hL2];constructor
   ·exact λ⟨h1,h2⟩=>⟨h1,by rw[key x h1] at h2;omega⟩
   ·exact λ⟨h1,h2⟩=>⟨h1,by rw[key x h1];omega⟩
  ·rw[I];constructor
   ·exact λ⟨h1,h2⟩=>⟨h1,λx hx hb=>by have:=h2 x hx hb;rw[key x hx] at this;omega⟩
   ·exact λ⟨h1,h2⟩=>⟨h1,λx hx hb=>by have:=h2 x hx hb;rw[key x hx];omega⟩
end Go.Proofs.PS
end
section
namespace Go.Proofs.XS
open Gp Go.Proofs Go.Proofs.EN Go.Proofs.XN Go.Proofs.PS
open Gp.Bind (Bnd Slots live GoodB freeN getS In64)
variable {w w':World} {A:SA} {a:V6} {c:Cf} {SS:Gp.Ses.Slots} {Z:Bnd->Prop} {x x':XV} {v v':SV}
theorem aeb {S S':Slots} (hl:S.length=S'.length) (h:∀(j:Nat) (b:Bnd),S[j]? =some (some b)↔S'[j]? =some (some b)):S=S':=by
 refine List.ext_getElem? λj=> ?_;by_cases hj:j<S.length
 ·have hj':j<S'.length:=by omega
  have e1:=getElem?_eq_getElem hj;have e2:=getElem?_eq_getElem hj'
  cases h1:S[j] with
  |some b=>
   rw[h1] at e1;rw[e1,((h j b).1 e1)]
  |none=>
   cases h2:S'[j] with
   |some b=>
    rw[h2] at e2;have:=(h j b).2 e2;rw[e1,h1] at this;simp at this
   |none=>rw[e1,e2,h1,h2]
 ·rw[List.getElem?_eq_none (by omega),List.getElem?_eq_none (by omega)]
theorem Lnk.adv (l:Lnk v x) {T:Nat} (hn:v'.now=T) (hL:∀y,y∈v'.L↔y∈v.L/\(T:Int)<y.un) (he:v'.e.now=v.e.now) (h:v'.e.S.length=v.e.S.length)
  (hS:∀(j:Nat) (b:Bnd),v'.e.S[j]? =some (some b)↔v.e.S[j]? =some (some b)/\∀y∈v.L,y.b=b->(T:Int)<y.un) (hm:v'.most=v.most)
  (xn:x'.now=T) (xm:x'.most=x.most) (xe:x'.en=x.en) (xg:aco x.M x.S T 0 x'):Lnk v' x':=by
 have hM:x'.M=x.M.filter λp=>decide ((T:Int)<p.un):=by rw[xg.ml];simp
 refine⟨?_,λp=> ?_,?_,?_,xn.trans hn.symm,xm.trans (l.most.trans hm.symm)⟩
 ·rw[hM];exact List.Pairwise.sublist List.filter_sublist l.so
 ·rw[hM,List.mem_filter,l.mem,decide_eq_true_iff];constructor
  ·rintro⟨⟨y,hy,e1,e2⟩,hp⟩;exact⟨y,(hL y).2 ⟨hy,by rw[e2];exact hp⟩,e1,e2⟩
  ·rintro⟨y,hy,e1,e2⟩;obtain⟨h1,h2⟩:=(hL y).1 hy;exact⟨⟨y,h1,e1,e2⟩,by rw[<- e2];exact h2⟩
 ·refine aeb (by rw[xg.len,h,l.S]) λj b=> ?_;rw[xg.sl,hS,l.S,List.drop_zero];constructor
  ·rintro⟨h1,h2⟩;exact⟨h1,λy hy hb=>h2 ⟨y.b,y.un⟩ ((l.mem _).2 ⟨y,hy,rfl,rfl⟩) hb⟩
  ·rintro⟨h1,h2⟩;refine⟨h1,λp hp hb=> ?_⟩;obtain⟨y,hy,e1,e2⟩:=(l.mem p).1 hp;rw[<- e2];exact h2 y hy (e1.trans hb)
 ·exact xe.trans (l.en.trans he.symm)
theorem Lnk.akh (l:Lnk v x) (h:Srv w A c v) (g:PS.Good c Z v []):adi c x.M x.S:=by
 refine⟨l.so,λp hp=> ?_,λj k b y h1 h2 he=> ?_,λj k b y h1 h2 he=> ?_⟩
 ·obtain⟨y,hy,e1,_⟩:=(l.mem p).1 hp;obtain⟨g1,j,hj⟩:=g.eb y hy;rw[<- e1,l.S];exact⟨g1,g.inv.mp j _ hj,j,hj⟩
 ·rw[l.S] at h1 h2;have hb:=h.en.db.good;have e1:v.e.Mi (Bind.keyS b.i)=some (j:Int):=(hb.i _ _).2 ⟨j,b,h1,rfl,rfl⟩;have e2:v.e.Mi (Bind.keyS b.i)=some (k:Int):=(hb.i _ _).2 ⟨k,y,h2,by rw[he],rfl⟩;rw[e1] at e2;simp at e2;omega
 ·rw[l.S] at h1 h2;exact DU h.en.db.good h1 h2 he
theorem Lnk.fit (l:Lnk v x) (h:Srv w A c v) (g:PS.Good c Z v []) (hm:v.most<=4096/\(v.L.length:Int)<=v.most) (hn:v.now<=2^40):Fit c v x:=
 ⟨h.en.cf,g.inv,h.en.db.good,g.kk,λy hy z hz e=>ET h.bn hz hy e,g.eb,l.len h g,hm,hn⟩
theorem agy {xa:XA} {S:Slots} {now:Nat} (h:XE w xa c S SS now) {n:Int} (h1:1<=n) (h2:n<=4096):
  yY (some ⟨xa.x,0,none⟩) n w λp r w'=>r=0/\Ext w w'/\∃s,p=some ⟨s,0,none⟩/\w.heap.size<=s/\uh w' ⟨s,⟨none,0,0⟩,xa⟩ c SS ⟨[],S,now,now,n⟩:=by
 obtain⟨L,Q,hx,hl⟩:=id h;apply Qk;intro J;have c1:¬(n<1):=by omega
 have c2:¬(n>4096):=by omega
 simp -zeta only[Option.isNone_some,cond_false,c1,c2,decide_false];simp only[J,cond_false,sx,hx.c36];refine iI λs w1 r1 e1 z1 f1=> ?_;refine⟨by trivial,f1,s,rfl,by omega,⟨r1,iW.nil,h.ext f1,by simp,?_,?_⟩⟩
 ·intro k k' z hk hk'
  match k,k',hk,hk' with
  |0,0,_,_=>rfl
  |1,_,⟨o,ho⟩,_=>cases ho
  |_,1,_,⟨o,ho⟩=>cases ho
  |2,2,_,_=>rfl
  |0,2,hk,⟨j,hj⟩=>have e:z=s:=hk;have:=hx.lt j z hj;omega
  |2,0,⟨j,hj⟩,hk=>have e:z=s:=hk;have:=hx.lt j z hj;omega
  |(n+3),_,hk,_=>exact hk.elim
  |0,(n+3),_,hk'=>exact hk'.elim
  |2,(n+3),_,hk'=>exact hk'.elim
 ·intro k z hk
  match k,hk with
  |0,hk=>have e:z=s:=hk;omega
  |1,⟨o,ho⟩=>cases ho
  |2,⟨j,hj⟩=>have:=hx.lt j z hj;omega
  |(n+3),hk=>exact hk.elim
theorem aeo (n:Int) (hn:n<1\/n>4096) (p:g_) (w:World):yY p n w λp r w'=>r=1/\p=none/\w'=w:=by
 apply Qk;intro J;have hJ:J true:=by simp only[J,cond_true];exact⟨by trivial,by trivial,by trivial⟩
 clear_value J
 cases hp:Option.isNone p
 ·rw[cond_false];by_cases h1:n<1
  ·rw[decide_eq_true h1,cond_true];exact hJ
  ·rw[decide_eq_false h1,cond_false];have:n>4096:=by omega
   rw[decide_eq_true this];exact hJ
 ·rw[cond_true];exact hJ
end Go.Proofs.XS
end
section
namespace Go.Proofs.PS
open Gp Go.Proofs Go.Proofs.EN
open Go.Proofs.XS (kLt kLt_irr kLt_tr kLt_tot)
def orL:List Int->Int
 |[]=>0
 |x::r=>if x≠0 then x else orL r
theorem ajF {w:World} {b:Nat} {l:List Int} (hl:l.length<=2^30) (hr:Row w b (l.map λn=>Value.int .i64 n)):zy ⟨some ⟨b,0,none⟩,l.length,l.length⟩ w λr w'=>r=orL l/\w'=w:=by
 apply WG;refine iE (λst W=>W=w/\∃i:Nat,i<=l.length/\st.1=(i:Int)/\orL (l.drop i)=orL l) (λst _=>l.length - st.1.toNat) ⟨rfl,0,by omega,rfl,by simp⟩ ?_;rintro⟨j,⟨⟩⟩ W ⟨rfl,i,hi,hj,ho⟩ next h
 dsimp only at hj;subst hj;by_cases u:(i:Int)<((l.length:Nat):Int)
 ·rw[decide_eq_true u,cond_true];have I:i<l.length:=by omega
  refine vG (b:=b) (o:=0) rfl (by omega) (by simp only;omega) ?_;have e:0+(i:Int).toNat * 1=i:=by omega
  rw[e];refine iC (k:= .int .i64) (i:=i) (x:=l[i]) hr (by rw[getElem?_map,getElem?_eq_getElem I];rfl) ?_;rw[List.drop_eq_getElem_cons I] at ho;rw[show orL (l[i]::l.drop (i+1))=if l[i]≠0 then l[i] else orL (l.drop (i+1)) from rfl] at ho
  by_cases h0:l[i]=0
  ·have:(l[i] !=0)=false:=by rw[bne_eq_false_iff_eq];exact h0
   rw[this,cond_false,wrap_i64 (by omega) (by omega)];rw[if_neg (by simp[h0])] at ho;exact h _ _ ⟨rfl,i+1,by omega,by simp,ho⟩ (by simp only;omega)
  ·have:(l[i] !=0)=true:=by rw[bne_iff_ne];exact h0
   rw[this,cond_true];rw[if_pos h0] at ho;exact⟨ho,rfl⟩
 ·rw[decide_eq_false u,cond_false];rw[List.drop_of_length_le (by omega)] at ho;exact⟨ho,rfl⟩
def cfL (x y:iR):Int:=orL [WN.Ah x.b.sw y.b.sw,WN.Ah x.b.pr y.b.pr,WN.Ah x.b.ad y.b.ad,WN.Ah x.b.po y.b.po]
theorem cmp0 (a b:Int):(WN.Ah a b=0↔a=b)/\(WN.Ah a b<0↔a<b):=by
 unfold WN.Ah;by_cases h1:a<b
 ·simp[h1];omega
 ·by_cases h2:a>b
  ·simp[h1,h2];omega
  ·simp[h1,h2];omega
theorem air (x y:iR):decide (cfL x y<0)=decide (kLt x.k y.k):=by
 rw[decide_eq_decide];unfold cfL orL orL orL orL orL kLt iR.k;have c1:=cmp0 x.b.sw y.b.sw;have c2:=cmp0 x.b.pr y.b.pr;have c3:=cmp0 x.b.ad y.b.ad;have c4:=cmp0 x.b.po y.b.po;generalize WN.Ah x.b.sw y.b.sw=m1 at c1 ⊢;generalize WN.Ah x.b.pr y.b.pr=m2 at c2 ⊢;generalize WN.Ah x.b.ad y.b.ad=m3 at c3 ⊢;generalize WN.Ah x.b.po y.b.po=m4 at c4 ⊢;simp only;split
 ·omega
 ·split
  ·omega
  ·split
   ·omega
   ·split<;>omega
theorem afR {W:World} {x y:iR} (rx:Row W x.blk x.v) (ry:Row W y.blk y.v):Ht (some ⟨x.blk,0,none⟩) (some ⟨y.blk,0,none⟩) W λr W'=>r=cfL x y/\∃o,W'=W.drew.alloc o:=by
 apply WR;have rxd:=rx.drew;have ryd:=ry.drew;simp only[iR.v] at rxd ryd;simp only[sx,rxd.cell,ryd.cell];refine nR (WN.AU _ _ _) ?_;rintro r1 w1 ⟨rfl,hw⟩;subst hw;refine⟨ryd.cell 3,rxd.cell 3,ryd.cell 2,rxd.cell 2,ryd.cell 1,rxd.cell 1,?_⟩;refine nR (WN.AU _ _ _) ?_;rintro r2 w2 ⟨rfl,hw⟩;subst hw;refine⟨ryd.cell 3,rxd.cell 3,ryd.cell 2,rxd.cell 2,?_⟩;refine nR (WN.AU _ _ _) ?_;rintro r3 w3 ⟨rfl,hw⟩;subst hw;refine⟨ryd.cell 3,rxd.cell 3,?_⟩;refine nR (WN.AU _ _ _) ?_;rintro r4 w4 ⟨rfl,hw⟩;subst hw;unfold Al;have hr:=Row.new W.drew [Value.int .i64 (WN.Ah x.b.sw y.b.sw),.int .i64 (WN.Ah x.b.pr y.b.pr),.int .i64 (WN.Ah x.b.ad y.b.ad),.int .i64 (WN.Ah x.b.po y.b.po)] 3;refine V_ (ajF (l:=[WN.Ah x.b.sw y.b.sw,WN.Ah x.b.pr y.b.pr,WN.Ah x.b.ad y.b.ad,WN.Ah x.b.po y.b.po]) (by simp) hr) ?_;rintro r5 w5 ⟨rfl,hw⟩;subst hw;exact⟨rfl,_,rfl⟩
end Go.Proofs.PS
end
section
namespace Go.Proofs.PS
open Gp Go.Proofs Go.Proofs.EN
open Go.Proofs.XS (kLt kLt_irr kLt_tr kLt_tot)
open Go.Shelf Go.RowKit Go.Lib Go.Sort
section
variable {α:Type} [Inhabited α] {enc:α->Value}
theorem acX {w:World} {b n:Nat} {xs:List α} {pad:List Value} {d':Array α} {os:Array Obj} (hr:Row w b (xs.map enc++pad)) (hd:d'.size=xs.length):
  Row (sortWorld enc w b 0 n d' os) b (d'.toList.map enc++pad)/\iG w (sortWorld enc w b 0 n d' os) (·=b):=by
 obtain⟨T,ht⟩:=hr;have hb:b<w.heap.size:=(Array.getElem?_eq_some_iff.1 ht).1;have hh:(sortWorld enc w b 0 n d' os).heap=w.heap.modify b (onCells (putCells enc 0 d'))++os:=rfl;constructor
 ·refine⟨T,?_⟩;rw[hh,Array.getElem?_append_left (by simpa using hb),Array.getElem?_modify,if_pos rfl,ht];have:putCells enc 0 d' ⟨xs.map enc++pad⟩=⟨d'.toList.map enc++pad⟩:=by
   apply Array.ext_getElem?;intro k;unfold putCells;rw[Array.getElem?_mapIdx];simp only[Nat.zero_le,true_and,Nat.zero_add,Nat.sub_zero,List.getElem?_toArray];by_cases hk:k<d'.size
   ·rw[List.getElem?_append_left (by simp;omega),List.getElem?_append_left (by simpa using hk),getElem?_map,getElem?_eq_getElem (by omega),map_some,map_some,if_pos hk,getElem?_map,getElem?_eq_getElem (by simpa using hk),map_some,getElem!_pos d' k hk];rfl
   ·rw[List.getElem?_append_right (by simp;omega),List.getElem?_append_right (by simp;omega)];simp only[length_map,Array.length_toList,hd]
    cases pad[k - xs.length]? with
    |none=>rfl
    |some v=>rw[map_some,if_neg (by rw[<- hd];exact hk)]
  simp only[map_some,onCells,this]
 ·refine⟨?_,λc hc h=> ?_,⟨rfl,rfl,rfl⟩⟩
  ·rw[hh];simp
  ·rw[hh,Array.getElem?_append_left (by simpa using hc),Array.getElem?_modify,if_neg (λe=>h e.symm)]
theorem holds1 {w:World} {b:Nat} {xs:List α} {pad:List Value} (hr:Row w b (xs.map enc++pad)):Holds enc w b 0 xs.toArray:=by
 intro j hj;simp only[List.size_toArray] at hj;refine⟨?_,hr.frozen _⟩;rw[Nat.zero_add,hr.cell,List.getElem?_append_left (by simpa using hj),getElem?_map,getElem?_eq_getElem hj,map_some,getElem!_pos xs.toArray j (by simpa using hj)];rfl
end
def afz:Go.Shelf.Ren:=⟨fun|6=>56|15=>123|14=>122|28=>229|29=>230|20=>221|21=>222|22=>223|23=>224|24=>225|25=>226|26=>227|27=>228|46=>260|47=>261|48=>262|49=>263|50=>264|57=>276|n=>n,fun|22=>142|24=>120|25=>144|3=>3|39=>250|0=>0|53=>337|55=>339|4=>4|46=>331|45=>330|50=>218|5=>5|9=>9|66=>359|70=>363|76=>371|77=>372|n=>n,fun|n=>n⟩
theorem aki:SlLaysF.n6 Tryz.prog afz:={
 mixed:=by kernel_rfl,
 f6:=⟨Tryz.f56.name,by decide,Tryz.func56.trans (congrArg some (by kernel_rfl))⟩,
 f14:=⟨Tryz.f122.name,by decide,Tryz.func122.trans (congrArg some (by kernel_rfl))⟩,
 f15:=Tryz.func123.trans (congrArg some (by kernel_rfl)),
 f20:=⟨Tryz.f221.name,by decide,Tryz.func221.trans (congrArg some (by kernel_rfl))⟩,
 f21:=⟨Tryz.f222.name,by decide,Tryz.func222.trans (congrArg some (by kernel_rfl))⟩,
 f22:=⟨Tryz.f223.name,by decide,Tryz.func223.trans (congrArg some (by kernel_rfl))⟩,
 f23:=⟨Tryz.f224.name,by decide,Tryz.func224.trans (congrArg some (by kernel_rfl))⟩,
 f24:=⟨Tryz.f225.name,by decide,Tryz.func225.trans (congrArg some (by kernel_rfl))⟩,
 f25:=⟨Tryz.f226.name,by decide,Tryz.func226.trans (congrArg some (by kernel_rfl))⟩,
 f26:=⟨Tryz.f227.name,by decide,Tryz.func227.trans (congrArg some (by kernel_rfl))⟩,
 f27:=⟨Tryz.f228.name,by decide,Tryz.func228.trans (congrArg some (by kernel_rfl))⟩,
 f28:=Tryz.func229.trans (congrArg some (by kernel_rfl)),
 f29:=Tryz.func230.trans (congrArg some (by kernel_rfl)),
 f46:=⟨Tryz.f260.name,by decide,Tryz.func260.trans (congrArg some (by kernel_rfl))⟩,
 f47:=Tryz.func261.trans (congrArg some (by kernel_rfl)),
 f48:=Tryz.func262.trans (congrArg some (by kernel_rfl)),
 f49:=⟨Tryz.f263.name,by decide,Tryz.func263.trans (congrArg some (by kernel_rfl))⟩,
 f50:=⟨Tryz.f264.name,by decide,Tryz.func264.trans (congrArg some (by kernel_rfl))⟩,
 f57:=⟨Tryz.f276.name,by decide,Tryz.func276.trans (congrArg some (by kernel_rfl))⟩,
 t0:=Tryz.underlying0,
 a0:=Tryz.isAgg0,
 z0:=Tryz.sizeOf0,
 v0:=Tryz.zeroValue0,
 t3:=Tryz.underlying3,
 a3:=Tryz.isAgg3,
 z3:=Tryz.sizeOf3,
 v3:=Tryz.zeroValue3,
 t4:=Tryz.underlying4,
 a4:=Tryz.isAgg4,
 z4:=Tryz.sizeOf4,
 v4:=Tryz.zeroValue4,
 t5:=Tryz.underlying5,
 a5:=Tryz.isAgg5,
 z5:=Tryz.sizeOf5,
 v5:=Tryz.zeroValue5,
 t9:=Tryz.underlying9,
 a9:=Tryz.isAgg9,
 z9:=Tryz.sizeOf9,
 v9:=Tryz.zeroValue9,
 t22:=Tryz.underlying142,
 a22:=Tryz.isAgg142,
 z22:=Tryz.sizeOf142,
 v22:=Tryz.zeroValue142,
 a24:=Tryz.isAgg120,
 z24:=Tryz.sizeOf120,
 t25:=Tryz.underlying144,
 a25:=Tryz.isAgg144,
 z25:=Tryz.sizeOf144,
 v25:=Tryz.zeroValue144,
 t39:=Tryz.underlying250,
 a39:=Tryz.isAgg250,
 z39:=Tryz.sizeOf250,
 v39:=Tryz.zeroValue250,
 t45:=Tryz.underlying330,
 a45:=Tryz.isAgg330,
 z45:=Tryz.sizeOf330,
 v45:=Tryz.zeroValue330,
 t46:=Tryz.underlying331,
 a46:=Tryz.isAgg331,
 z46:=Tryz.sizeOf331,
 v46:=Tryz.zeroValue331,
 t50:=Tryz.underlying218,
 a50:=Tryz.isAgg218,
 z50:=Tryz.sizeOf218,
 v50:=Tryz.zeroValue218,
 t53:=Tryz.underlying337,
 a53:=Tryz.isAgg337,
 z53:=Tryz.sizeOf337,
 v53:=Tryz.zeroValue337,
 t55:=Tryz.underlying339,
 a55:=Tryz.isAgg339,
 z55:=Tryz.sizeOf339,
 v55:=Tryz.zeroValue339,
 t66:=Tryz.underlying359,
 a66:=Tryz.isAgg359,
 z66:=Tryz.sizeOf359,
 v66:=Tryz.zeroValue359,
 t70:=Tryz.underlying363,
 a70:=Tryz.isAgg363,
 z70:=Tryz.sizeOf363,
 v70:=Tryz.zeroValue363,
 t76:=Tryz.underlying371,
 a76:=Tryz.isAgg371,
 z76:=Tryz.sizeOf371,
 v76:=Tryz.zeroValue371,
 t77:=Tryz.underlying372,
 a77:=Tryz.isAgg372,
 z77:=Tryz.sizeOf372,
 v77:=Tryz.zeroValue372}
abbrev pL (y:iR):List Value:=[.pointer (some ⟨y.blk,0,none⟩)]
abbrev LA (xs:List iR):={y:iR // y∈xs}
def abr {xs:List iR} (y:LA xs):Value:= .pointer (some ⟨y.1.blk,0,none⟩)
def cfA {xs:List iR} (x y:LA xs):Int:=cfL x.1 y.1
theorem ltA {xs:List iR} (x y:LA xs):ltOf cfA x y=decide (kLt x.1.k y.1.k):=air x.1 y.1
theorem ako {xs:List iR}:SWO (ltOf (cfA (xs:=xs))) where
 irrefl x:=by rw[ltA];exact decide_eq_false (kLt_irr _)
 trans x y z h1 h2:=by
  rw[ltA] at *;exact decide_eq_true (kLt_tr (of_decide_eq_true h1) (of_decide_eq_true h2))
 ntrans x y z h1 h2:=by
  rw[ltA] at *;have h1:=of_decide_eq_false h1;have h2:=of_decide_eq_false h2;refine decide_eq_false ?_;unfold kLt at *;omega
theorem ajA {xs:List iR} [Inhabited (LA xs)] {w:World} {b:Nat} {pad:List Value} (hr:Row w b (xs.attach.map abr++pad)) (rows:∀x∈xs,Row w x.blk x.v) (hb:∀x∈xs,x.blk≠b):
  CmpLays1 Tryz.prog Du #[] (abr (xs:=xs)) cfA b 0 xs.length w:=by
 intro m os dk u x y;obtain⟨_,hf⟩:=acX (n:=m) (os:=os) (d':=dk) hr (by rw[u,length_attach]);have h:=afR ((rows _ x.2).fr hf (hb _ x.2)) ((rows _ y.2).fr hf (hb _ y.2));unfold Ht at h;refine Calls.mono h ?_;rintro e W' ⟨r,he,rfl,o,rfl⟩;exact⟨he,1,#[o],by rw[alloc_eq_grow];rfl⟩
theorem agf {w:World} {s:iq} {xs:List iR} (hs:iW 1 pL w s xs) (hl:xs.length<=2^30) (rows:∀x∈xs,Row w x.blk x.v) (hb:∀x∈xs,¬iq.at s x.blk):
  jd s (Value.func (.func Du) #[] #[]) w λw'=>iG w w' (iq.at s)/\∃ys:List iR,ys.Perm xs/\ys.Pairwise (λx y=>¬kLt y.k x.k)/\iW 1 pL w' s ys:=by
 by_cases hx:xs=[]
 ·subst hx;have hlen:s.len=0:=hs.len;apply uU;rw[hlen];refine Gi (ahi w) ?_;rintro r w' ⟨rfl,hw⟩;subst hw;refine yw (aiP s _ _ _) ?_;rintro w' hw;subst hw;exact⟨iG.refl _ _,[],List.Perm.refl _,List.Pairwise.nil,hs⟩
 obtain⟨b,pad,ha,hc,hr⟩:∃b pad,s.a=some ⟨b,0,none⟩/\s.cap * 1=xs.length * 1+pad.length/\Row w b (xs.flatMap pL++pad):=by
  rcases hs.mem with ⟨_,h,_⟩|h
  ·exact absurd h hx
  ·exact h
 obtain⟨x0,hx0⟩:=List.exists_mem_of_ne_nil xs hx
 letI:Inhabited (LA xs):=⟨⟨x0,hx0⟩⟩
 have fm:∀l:List iR,l.flatMap pL=l.map λy=>Value.pointer (some ⟨y.blk,0,none⟩):=λl=>by
  induction l with
  |nil=>rfl
  |cons y l ih=>rw[List.flatMap_cons,ih];rfl
 have ma:xs.attach.map abr=xs.map λy=>Value.pointer (some ⟨y.blk,0,none⟩):=by
  have h1:xs.attach.map (abr (xs:=xs))=(xs.attach.map Subtype.val).map λy=>Value.pointer (some ⟨y.blk,0,none⟩):=by rw[map_map];rfl
  rw[h1,List.attach_map_subtype_val]
 have hr':Row w b (xs.attach.map (abr (xs:=xs))++pad):=by rw[ma,<- fm];exact hr
 have hlen:=hs.len;have eg:∀args w,(callFunc 57 args).run Tryz.prog w= .ok (.enter 57 args) w:=enters_of Tryz.func57 (by kernel_rfl) rfl;have I:(xs.attach.toArray:Array (LA xs)).size=xs.length:=by rw[List.size_toArray,length_attach]
 have u:=Any.slices_SortFunc aki (abr (xs:=xs)) (λ_=>rfl) cfA ako 57 #[] b 0 s.cap xs.attach.toArray w eg (by rw[I];exact ajA hr' rows λx hx e=>hb x hx ⟨0,by rw[ha,e]⟩) (holds1 hr') hr.lt (by rw[I];omega);rw[I] at u;unfold jd;rw[ha,hlen];change Calls Tryz.prog 56 #[.slice (some ⟨b,0,none⟩) xs.length s.cap,.func (.func Du) #[] #[]] w _;refine Calls.mono (show Calls Tryz.prog 56 #[.slice (some ⟨b,0,none⟩) xs.length s.cap,.func (.func Du) #[] #[]] w _ from u) ?_;rintro e w' ⟨rfl,d',n,os,⟨hp1,_,hp3⟩,N,rfl⟩;have hp1:d'.size=xs.length:=hp1.trans I;have J:d'.toList.length=xs.length:=hp1;obtain⟨g1,g2⟩:=acX (n:=n) (os:=os) hr' (by rw[hp1,length_attach]);have e1:(d'.extract 0 xs.length).toList=d'.toList:=by rw[<- hp1];simp
 have e2:((xs.attach.toArray:Array (LA xs)).extract 0 xs.length).toList=xs.attach:=by
  simp only[List.extract_toArray,List.extract_eq_take_drop,List.drop_zero,Nat.sub_zero];exact List.take_of_length_le (by rw[length_attach];exact Nat.le_refl _)
 rw[e1,e2] at hp3;have ma':d'.toList.map abr=(d'.toList.map Subtype.val).flatMap pL:=by rw[fm,map_map];rfl
 rw[ma'] at g1;refine⟨rfl,g2.mono λc O=>⟨0,by rw[ha,O]⟩,d'.toList.map Subtype.val,?_,?_,⟨?_,.inr ⟨b,pad,ha,?_,g1⟩⟩⟩
 ·have:=hp3.map Subtype.val;rw[List.attach_map_subtype_val] at this;exact this
 ·rw[pairwise_map,List.pairwise_iff_getElem];intro i j hi hj R;rw[Array.length_toList] at hi hj;have:=N i j (Nat.zero_le _) R (by omega);rw[getElem!_pos d' j hj,getElem!_pos d' i hi,ltA] at this;simpa using this
 ·rw[hlen,length_map];exact J.symm
 ·rw[hc,length_map,J]
end Go.Proofs.PS
end
section
namespace Go.Proofs.PS
open Gp Go.Proofs Go.Proofs.EN Go.Proofs.XS
open Gp.Bind (Bnd Slots live GoodB freeN getS In64)
theorem aaI:∀{M M':List I7},Srt M->Srt M'->(∀p,p∈M↔p∈M')->M=M'
 |[],[],_,_,_=>rfl
 |[],q::r',_,_,h=>by have:=(h q).2 mem_cons_self;cases this
 |p::r,[],_,_,h=>by have:=(h p).1 mem_cons_self;cases this
 |p::r,q::r',h1,h2,h=>by
  unfold Srt at h1 h2;rw[List.pairwise_cons] at h1 h2;have I:p=q:=by
   refine Classical.byContradiction λu=> ?_;have h3:=(List.mem_cons.1 ((h p).1 mem_cons_self)).resolve_left u;have h4:=(List.mem_cons.1 ((h q).2 mem_cons_self)).resolve_left λe=>u e.symm;exact kLt_irr _ (kLt_tr (h2.1 p h3) (h1.1 q h4))
  subst I;congr 1;refine aaI h1.2 h2.2 λs=> ?_;have hs:=h s;rw[mem_cons,mem_cons] at hs;constructor
  ·intro hm;rcases hs.1 (.inr hm) with e|e
   ·subst e;exact absurd (h1.1 s hm) (kLt_irr _)
   ·exact e
  ·intro hm;rcases hs.2 (.inr hm) with e|e
   ·subst e;exact absurd (h2.1 s hm) (kLt_irr _)
   ·exact e
def toR (y:iR):I7:=⟨y.b,y.un⟩
def yL (M:List I7):List (G9 lK):=M.map λp=>((p.b.sw,p.b.pr,p.b.ad,p.b.po,()),p.un,())
theorem XH {α:Type}:∀{l:List α} {i:Nat} {x:α},l[i]? =some x->(x::l.eraseIdx i).Perm l
 |[],_,_,h=>by simp at h
 |y::l,0,x,h=>by simp at h;subst h;exact List.Perm.refl _
 |y::l,i+1,x,h=>by
  have:=XH (l:=l) (i:=i) (by simpa using h);exact(List.Perm.swap _ _ _).trans (List.Perm.cons y this)
theorem aah {α β:Type} [DecidableEq α]:∀{l:List (α×β)} {a:α} {b:β},(l.map (·.1)).Nodup->(a,b)∈l->kT l a=some b
 |[],_,_,_,h=>by cases h
 |x::l,a,b,hn,h=>by
  rw[map_cons,List.nodup_cons] at hn;unfold kT;rcases List.mem_cons.1 h with e|h
  ·subst e;rw[if_pos rfl]
  ·rw[if_neg (λe=>hn.1 (by rw[<- e];exact List.mem_map.2 ⟨_,h,rfl⟩))];exact aah hn.2 h
theorem ah4 {α β:Type} [DecidableEq α]:∀{l:List (α×β)} {a:α} {b:β},kT l a=some b->(a,b)∈l
 |[],_,_,h=>by cases h
 |x::l,a,b,h=>by
  unfold kT at h;split at h
  ·rename_i he
   cases h
   subst he;exact mem_cons_self
  ·exact mem_cons_of_mem _ (ah4 h)
theorem ah7 {w:World} {A:SA} {c:Cf} {Z:Bnd->Prop} {v:SV} (h:Srv w A c v) (g:PS.Good c Z v []):(v.LI.map (·.2)).Nodup:=by
 have hn:=h.nI;unfold List.Nodup at hn ⊢;rw[pairwise_map] at hn ⊢;refine List.Pairwise.imp_of_mem (λ{a b} ha hb u he=> ?_) hn;obtain⟨x,hx,I,J⟩:=(g.li a.1 a.2).1 (aah h.nI ha);obtain⟨y,hy,N,O⟩:=(g.li b.1 b.2).1 (aah h.nI hb);have:=ET h.bn hx hy (by rw[J,O,he]);subst this;exact u (I.symm.trans N)
end Go.Proofs.PS
end
section
namespace Go.Proofs.PS
open Gp Go.Proofs Go.Proofs.EN Go.Proofs.XS
open Go.Proofs.CN (SlN_ix)
open Gp.Bind (Bnd Slots live GoodB freeN getS In64)
theorem OI (y:iR):(pL y).length=1:=rfl
theorem aiO (y:iR):∀v∈pL y,jr v=true:=by
 intro v hv;simp only[pL,mem_singleton] at hv;subst hv;rfl
theorem aad {A:SA} {c:Cf} {Z:Bnd->Prop} {v:SV} {x:XV} (l:Lnk v x) (g:PS.Good c Z v []) (hll:v.LI.length<=2^20) (f0:Nat):
  OV Tryz.prog lK (Value.func (.func zY) #[] #[(Value.pointer (some ⟨f0,0,none⟩))])
   (λW=>Row W f0 [.pointer (some ⟨A.s,0,none⟩)]/\Srv W A c v) (yL x.M):=by
 refine⟨by kernel_rfl,λn w Q D hC hQ hD hy h0=> ?_⟩;refine Calls.mono (GI (a0:= .func (.yield n) #[] #[]) (f0:=⟨f0,0,none⟩) (K:=λw'=>Q (yL x.M).length w'\/D w') ?_) (λe w' h=>h);have up:∀{i W W'},Q i W->Ext W W'->Q i W':=λhq hx=>hQ _ _ _ hq (hx _);obtain⟨r0,h⟩:=hC _ _ h0;refine iC (k:= .ptr) (i:=0) (x:=some ⟨A.s,0,none⟩) r0 rfl ?_;refine nV (Ad h) ?_;rintro _ w2 ⟨rfl,hw⟩;subst hw;rw[Bool.not_true,cond_false];refine iC (k:= .ptr) (i:=0) (x:=some ⟨A.s,0,none⟩) r0 rfl (jc.2 (iC (k:= .map) (i:=2) (x:=some A.ml) h.hd rfl ?_));refine aeC h.li λw3 it f3 z3=> ?_;have hlt:=h.lt 3 A.ml rfl;have ah:∀y∈v.L,y.blk<w2.heap.size:=λy hy=>h.lt 5 y.blk ⟨y,hy,rfl⟩;refine iE (λst W=>∃(todo:List (I4×Nat)) (ys:List iR),Ext w2 W/\w3.heap.size<=W.heap.size/\ItF encI Xp W w2.heap.size A.ml v.LI todo/\iW 1 pL W st.1 ys/\(∀b,iq.at st.1 b->w3.heap.size<=b)/\(ys.map (·.blk)++todo.map (·.2)).Perm (v.LI.map (·.2))/\∀y∈ys,y∈v.L)
  (λst _=>v.LI.length - st.1.len) ⟨v.LI,[],f3,Nat.le_refl _,it,iW.nil,λb ⟨o,hb⟩=>by(cases hb),by simp,by simp⟩ ?_
 rintro⟨s,⟨⟩⟩ W ⟨todo,ys,hx,hz,itW,hb,hn,hp,J⟩ next N
 simp only at hb hn;have hlen:s.len=ys.length:=(hb.sl OI (by omega)).len;have Y:=hp.length_eq;simp only[length_append,length_map] at Y;refine⟨rfl,?_⟩;refine agH itW (by show w2.heap.size≠_;omega) (λht=> ?_) (λi p w4 hi it4 cur f4 z4=> ?_)
 ·subst ht;rw[map_nil,List.append_nil] at hp;have hW:=h.ext hx;refine uT (agf hb (by simp only[List.length_nil] at Y;omega) (λy hy'=>hW.rw y (J y hy')) (λy hy' ha=>by have:=hn _ ha;have:=ah y (J y hy');omega)) ?_;rintro w5 ⟨f5,zs,O,ai,b5⟩;have x5:Ext w2 w5:=hx.new f5 λb hb' ha=>by have:=hn b ha;omega
  have nd:=ah7 h g;have aa:(zs.map (·.blk)).Nodup:=((O.map _).trans hp).nodup_iff.2 nd;have R:∀y,y∈zs↔y∈v.L:=by
   intro y;constructor
   ·exact λhy'=>J y (O.mem_iff.1 hy')
   ·intro hy';have h1:y.blk∈v.LI.map (·.2):=List.mem_map.2 ⟨(y.k,y.blk),ah4 ((g.li _ _).2 ⟨y,hy',rfl,rfl⟩),rfl⟩;obtain⟨z,hz',he⟩:=List.mem_map.1 (((O.map (·.blk)).trans hp).mem_iff.2 h1);rw[<- ET h.bn hy' (J z (O.mem_iff.1 hz')) he];exact hz'
  have hM:zs.map toR=x.M:=by
   refine aaI ?_ l.so λp=> ?_
   ·unfold Srt;rw[pairwise_map];unfold List.Nodup at aa;rw[pairwise_map] at aa;refine List.Pairwise.imp_of_mem (λ{a b} ha hb' af=> ?_) (ai.and aa);refine kLt_tot af.1 λe=>af.2 ?_;rw[g.kk a ((R a).1 ha) b ((R b).1 hb') e.symm]
   ·rw[l.mem,List.mem_map];constructor
    ·rintro⟨y,hy',rfl⟩;exact⟨y,(R y).1 hy',rfl,rfl⟩
    ·rintro⟨y,hy',e1,e2⟩;exact⟨y,(R y).2 hy',by cases p;unfold toR;simp only at e1 e2;rw[e1,e2]⟩
  have hzl:zs.length=x.M.length:=by rw[<- hM,length_map]
  have aj:(yL x.M).length=x.M.length:=by simp[yL]
  rw[aj];have l5:s.len=zs.length:=(b5.sl OI (by omega)).len;have hzl2:zs.length<=2^20:=by
   have:=O.length_eq;simp only[List.length_nil] at Y;omega
  refine iE (λst W=>∃i:Nat,i<=zs.length/\st.1=(i:Int)/\Q i W/\iW 1 pL W s zs/\w3.heap.size<=W.heap.size) (λst _=>zs.length - st.1.toNat) ⟨0,by omega,rfl,up h0 x5,b5,by have:=f5.size;omega⟩ ?_;rintro⟨j,⟨⟩⟩ W6 ⟨i,hi,hj,hq,hb6,hz6⟩ next' I
  dsimp only at hj;subst hj;by_cases U:(i:Int)<(s.len:Int);rotate_left
  ·rw[decide_eq_false U,cond_false];have:i=x.M.length:=by omega
   rw[this] at hq;exact .inl hq
  rw[decide_eq_true U,cond_true];have hg:=getElem?_eq_getElem (show i<zs.length by omega);generalize zs[i]=y at hg;have ab:y∈v.L:=(R y).1 (mem_of_getElem? hg);refine SlN_ix OI (by omega) (hb6.sl OI (by omega)) (by omega) (by rw[toNat_natCast];exact hg) λad hc=> ?_;have c0:W6.cell? ad=some (.pointer (some ⟨y.blk,0,none⟩)):=hc 0 _ rfl;refine zq (k:= .ptr) (y:=some ⟨y.blk,0,none⟩) c0 ?_;have qd:=up hq (Ext.drew W6);obtain⟨_,ak⟩:=hC _ _ qd;have ry:=ak.rw y ab;refine jc.2 (iC (k:= .int .i64) (i:=0) (x:=y.b.sw) ry rfl (iC (k:= .int .i64) (i:=1) (x:=y.b.pr) ry rfl (iC (k:= .int .i64) (i:=2) (x:=y.b.ad) ry rfl (iC (k:= .int .i64) (i:=3) (x:=y.b.po) ry rfl ?_))));refine jc.2 (iC (k:= .int .i64) (i:=7) (x:=y.un) ry rfl ?_);have al:x.M[i]? =some (toR y):=by rw[<- hM,getElem?_map,hg];rfl
  refine oW (hy i ((y.b.sw,y.b.pr,y.b.ad,y.b.po,()),y.un,()) _ _ ?_ qd ?_ ?_)
  ·rw[show yL x.M=x.M.map _ from rfl,getElem?_map,al];rfl
  ·intro W' hq' hf;refine⟨true,rfl,?_⟩;simp only[Bool.not_true,cond_false];rw[wrap_i64 (by omega) (by omega)];refine I _ _ ⟨i+1,by omega,by simp,hq',(hb6.ext (Ext.drew W6)).fr hf λb hb' hh=> ?_,by have:=hf.size;simp only[World.drew] at this;omega⟩ (by simp only;omega);have:=hn b hb';have hh:b<w2.heap.size:=hh;omega
  ·intro W' hd hf;refine⟨false,rfl,?_⟩;simp only[Bool.not_false,cond_true];exact .inr hd
 ·refine⟨rfl,?_⟩;refine cur _ ?_;have ac:p.2∈v.LI.map (·.2):=hp.mem_iff.1 (List.mem_append_right _ (List.mem_map.2 ⟨p,mem_of_getElem? hi,rfl⟩));obtain⟨q,hq,am⟩:=List.mem_map.1 ac;obtain⟨y,ab,_,ae⟩:=(g.li q.1 q.2).1 (aah h.nI hq);rw[am] at ae;simp only[Xp,uV];rw[<- ae];have f4':iG W w4 (·=w2.heap.size):=f4;refine iI λu w5 r5 e5 z5 f5=> ?_;have hb5:=(hb.fr f4' λb hb' e=>by have:=hn b hb';omega).ext f5;have hti:i<todo.length:=(List.getElem?_eq_some_iff.1 hi).1;have sl:mY 1 pL w5 ⟨some ⟨u,0,none⟩,1,1⟩ [y]:=(iW.row (xs:=[y]) r5).sl OI (by omega);refine iV OI hb5 sl rfl (by omega) aiO (by simp only[List.length_singleton];omega) (by simp only[List.length_singleton];omega) λs' w6 b6 f6 n6=> ?_;have nq:∀b,iq.at s b->b≠w2.heap.size:=λb hb'=>by have:=hn b hb';omega
  have na:¬iq.at s A.ml:=λhb'=>by have:=hn _ hb';omega
  have x6:Ext w2 w6:=((hx.new f4' λb hb' e=>by omega).trans f5).new f6 λb hb' e=>by have:=hn b e;omega
  have it6:ItF encI Xp w6 w2.heap.size A.ml v.LI (todo.eraseIdx i):=(it4.ext f5).fr f6 (λe=>nq _ e rfl) na;refine N _ _ ⟨todo.eraseIdx i,ys++[y],x6,by have:=f5.size;have:=f6.size;omega,it6,b6,λb hb'=> ?_,?_,λz hz'=> ?_⟩ ?_
  ·rcases n6 b hb' with e|e
   ·exact hn b e
   ·have:=f5.size;omega
  ·have ag:=(XH hi).map (·.2);rw[map_cons] at ag;refine List.Perm.trans ?_ hp;rw[map_append,List.append_assoc];refine List.Perm.append_left _ ?_;show (y.blk::(todo.eraseIdx i).map (·.2)).Perm _;rw[ae];exact ag
  ·rcases List.mem_append.1 hz' with e|e
   ·exact J z e
   ·rw[mem_singleton] at e;subst e;exact ab
  ·have h6:s'.len=(ys++[y]).length:=(b6.sl OI (by omega)).len;rw[length_append,List.length_singleton] at h6;simp only;omega
end Go.Proofs.PS
end
