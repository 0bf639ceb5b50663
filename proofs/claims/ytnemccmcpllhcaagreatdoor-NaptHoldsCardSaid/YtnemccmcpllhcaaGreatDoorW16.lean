import Derived.Test.YtnemccmcpllhcaaGreatDoorW15
import Derived.Test.YtnemccmcpllhcaaGreatDoorW13
import Derived.Test.YtnemccmcpllhcaaGreatDoorW3
import Derived.Test.YtnemccmcpllhcaaGreatDoorW2
set_option maxRecDepth 100000
set_option maxHeartbeats 4000000
section
namespace Go.Proofs.EN
open Gp Gp.V4 Go.Proofs Go.Proofs.AN Go.Proofs.VN
open Gp.Bind (Bnd Slots live GoodB freeN getS In64)
open Gp.Ses (Ses)
open Gp.Wh (Tm)
variable {w w':θ} {a:EA} {c:Cf} {e:ES}
structure Jw (e e':ES) (T:Nat):Prop where
 now:e'.now=T
 tn:e'.tn=e.tn
 SS:∀(k:Nat) (s:Ses),e'.SS[k]? =some (some s)↔e.SS[k]? =some (some s)/\(T:Int)<s.un
 S:∀(j:Nat) (b:Bnd),e'.S[j]? =some (some b)->e.S[j]? =some (some b)
theorem Ξ {l:WN.PL} {T:Nat}:∀{D:List Tm},D.Pairwise WN.ltT->(∀t,t∈D->lJ l t.id=some t/\t.a<=T)->(D.map Tm.id).Nodup
 |[],_,_=>List.nodup_nil
 |t::D,hp,hm=>by
  rw[alz] at hp;rw[aiG,akj];refine⟨λhx=> ?_,Ξ hp.2 λu hu=>hm u (aj2 _ hu)⟩;obtain⟨u,hu,he⟩:=ajX.1 hx;have h1:=(hm u (aj2 _ hu)).1;have h2:=(hm t (akl)).1;rw[he,h2] at h1;have h1:t=u:=by simpa using h1
  subst h1;have:=hp.1 t hu;unfold WN.ltT at this;omega
theorem afC (hg:Gd c e) (N:∀id t,lJ e.l id=some t->t.id=id) {D:List Tm} {T:Nat} (hT:T<=2^40) (hD:∀t,t∈D↔lJ e.l t.id=some t/\t.a<=T) {l':WN.PL} (hl':∀id t,lJ l' id=some t↔lJ e.l id=some t/\T<t.a) (hlen:l'.length+D.length=e.l.length) {F} {e1:ES}
  (h:Adv c {e with now:=T,l:=l',wn:=T,F:=F} D D.length e1):Gd c e1/\Jw e e1 T:=by
 obtain⟨n1,n2,n3,n4⟩:=h.rest;have n2:e1.l=l':=n2;have J:∀(k:Nat) (s:Ses),e1.SS[k]? =some (some s)↔e.SS[k]? =some (some s)/\(T:Int)<s.un:=by
  intro k s;rw[h.ss,ajU];show e.SS[k]? =_/\_↔_;refine and_congr_right λhs=> ?_;obtain⟨t,ht⟩:=hg.st k s hs;obtain⟨k2,s2,q1,q2,q3⟩:=hg.ts _ t ht;have:k2=k:=by omega
  subst this;rw[hs] at q2;have:s=s2:=by simpa using q2
  subst this;have I:=N _ _ ht;constructor
  ·intro hn;have:¬t.a<=T:=λO=>hn t ((hD t).2 ⟨by rw[I];exact ht,O⟩) I;omega
  ·intro hlt u hu R;obtain⟨g1,g2⟩:=(hD u).1 hu;rw[R,ht] at g1;have:t=u:=by simpa using g1
   subst this;omega
 refine⟨⟨h.inv,h.sb,λid t ht=> ?_,λk s hs=> ?_,?_,n3.trans n1.symm,by rw[n1];exact hT⟩,⟨n1,n4,J,λj b hb=>h.old j b hb⟩⟩
 ·rw[n2] at ht;obtain⟨q1,q2⟩:=(hl' id t).1 ht;obtain⟨k,s,g1,g2,g3⟩:=hg.ts id t q1;exact⟨k,s,g1,(J k s).2 ⟨g2,by omega⟩,g3⟩
 ·obtain⟨q1,q2⟩:=(J k s).1 hs;obtain⟨t,ht⟩:=hg.st k s q1;obtain⟨k2,s2,g1,g2,g3⟩:=hg.ts _ t ht;have:k2=k:=by omega
  subst this;rw[q1] at g2;have:s=s2:=by simpa using g2
  subst this;exact⟨t,by rw[n2];exact(hl' _ t).2 ⟨ht,by omega⟩⟩
 ·have h1:=h.cnt;have h2:=hg.lc;have h1:(Gp.Ses.live 0 e1.SS).length+D.length=(Gp.Ses.live 0 e.SS).length:=h1;rw[n2];omega
theorem ϲ (h:nK w a c e) (hg:Gd c e) (t:Int) {K:Int->b_}
  (hK:∀r w' a' e',gU w w' (jq a)->nK w' a' c e'->Gd c e'->Grow a a' w.heap.size->a'.x=a.x->Jw e e' (hop e.now t)->K r w'):
  nI (some ⟨a.x,0,none⟩) t w K:=by
 apply Fj;refine cmS0 (Ji h) ?_;rintro r w1 ⟨rfl,hw⟩;subst hw;rw[ab6,Β];refine kF.2 (iU (k:= .int .i64) (y:=(e.now:Int)) (by rw[gJ];exact h.c41) (kF.2 ?_));rw[ahj];refine gX (i:=41) h.hd rfl (by simp[h.cf.len]) λw2 r2 f2' z2=> ?_;have f2:gU w1 w2 (·=a.x):=f2' _ rfl;have hd2:(([.pointer (some ⟨a.p,0,none⟩),.pointer (some ⟨a.qb,0,none⟩),.pointer (some ⟨a.B.d,0,none⟩),.pointer (some ⟨a.T.d,0,none⟩),.pointer (some ⟨a.d,0,none⟩)]:List Value)++c.C++([.int .i64 (e.now:Int)]:List Value)).set 41 (.int .i64 (hop e.now t:Int))=([.pointer (some ⟨a.p,0,none⟩),.pointer (some ⟨a.qb,0,none⟩),.pointer (some ⟨a.B.d,0,none⟩),.pointer (some ⟨a.T.d,0,none⟩),.pointer (some ⟨a.d,0,none⟩)]:List Value)++c.C++([.int .i64 (hop e.now t:Int)]:List Value):=by
  rw[akH _ _ (by simp[h.cf.len]),adH,h.cf.len];rfl
 rw[hd2] at r2;have h2:=(h.ajQ f2 r2).ext (Ext.drew w2);refine kF.2 (iU (k:= .ptr) (y:=some ⟨a.d,0,none⟩) (by rw[gJ];exact h2.c4) (kF.2 (iU (k:= .int .i64) (y:=(hop e.now t:Int)) (by rw[gJ];exact h2.c41) ?_)));obtain⟨hp0,hp1⟩:=ahU hg.le t;have hT:hop e.now t=max e.wn (min (hop e.now t:Int) 1099511627776).toNat:=by rw[hg.wn];omega
 refine cmS2 (WN.Ϟ h2.wh (hop e.now t:Int) hT) ?_;generalize hop e.now t=T at *;rintro r w3 ⟨f3,D,ak,hD,hr,am,ss,l',F,ws,hl',hlen,ae,an⟩;have hD:∀t,t∈D↔lJ e.l t.id=some t/\t.a<=T:=hD;have hl':∀id t,lJ l' id=some t↔lJ e.l id=some t/\T<t.a:=hl';have hlen:l'.length+D.length=e.l.length:=hlen;have hw2:w2.drew.heap.size=w1.heap.size:=z2;have h3:=h2.setW f3 ws λx hx=>ae x hx;have ao:=Ξ ak λt ht=>(hD t).1 ht;have U:Grow a {a with ss:=ss} w1.heap.size:=Ν λx hx=>by rw[<- hw2];exact ae x hx
 have aq:=hr.len;rw[ahv] at aq;have f13:gU w1 w3 (jq a):=((f2.mono λy hy=>⟨0,hy⟩).ext (Ext.drew _)).trans f3 λy _ hy=>⟨5,hy⟩;have Y:∀b,fU.at r b->¬jq {a with ss:=ss} b:=by
  rintro b hb ⟨k,hk⟩;have hge:=am b hb;have J:=h.lt
  match k,hk with
  |0,hk=>have:=J 0 b hk;omega
  |1,hk=>have:=J 1 b hk;omega
  |2,hk=>have:=J 2 b hk;omega
  |3,hk=>have:=J 3 b hk;omega
  |4,hk=>have:=J 4 b hk;omega
  |5,hk=>exact an b hb hk
 refine gK (λst W=>∃(i:Nat) (a1:EA) (e1:ES),st.2.1=(i:Int)/\i<=D.length/\Adv c {e with now:=T,l:=l',wn:=T,F:=F} D i e1/\nK W a1 c e1/\(∀b,jq a1 b->jq {a with ss:=ss} b)/\a1.x=a.x/\iY 1 WN.eI W r (D.map Tm.id)/\gU w1 W (jq a)/\w3.heap.size<=W.heap.size)
  (λst _=>D.length - st.2.1.toNat) ⟨0,{a with ss:=ss},_,rfl,Nat.zero_le _,⟨?_,⟨rfl,rfl,rfl,rfl⟩,λk s=>by simp,λk s hs=>hg.sb k s hs,λj b hb=>hb,rfl⟩,h3,λb hb=>hb,rfl,hr,f13,aiq _⟩ ?_
 ·exact⟨hg.inv.ql,hg.inv.cn,hg.inv.gv,hg.inv.mp⟩
 rintro⟨gone,iz,⟨⟩⟩ W ⟨i,a1,e1,af,hi,hA,hE,N,ab,ag,ah,hzW⟩ next Z
 dsimp only at af;subst af;dsimp -zeta only;by_cases J:i<D.length;rotate_left
 ·rw[show decide ((i:Int)<(r.len:Int))=false by rw[abW];omega,Β];have:i=D.length:=by omega
  subst this;obtain⟨q1,q2⟩:=afC hg (λid t ht=>(h.wh.wi.pl id t ht).1) hp1 hD hl' hlen hA;exact hK _ W a1 e1 ah hE q1 (λb hb=>U b (N b hb)) ab q2
 have ar:decide ((i:Int)<(r.len:Int))=true:=by rw[ab9];omega
 simp -zeta only[ar,Δ];obtain⟨tm,aa⟩:∃tm,D[i]? =some tm:=⟨_,abe J⟩;intro ac;have au:tm∈D:=ajF aa;obtain⟨av,hle⟩:=(hD tm).1 au;obtain⟨k,s,hk,aw,_⟩:=hg.ts _ _ av;have O:e1.SS[k]? =some (some s):=by
  rw[hA.ss];refine⟨aw,λu hu hue=> ?_⟩;have:(D.take (i+1)).map Tm.id=(D.take i).map Tm.id++[tm.id]:=by
   rw[ajM J,akk,(ady.1 aa).2];rfl
  have hn:((D.take (i+1)).map Tm.id).Nodup:=ao.sublist ((List.take_sublist _ _).map _);rw[this,akV] at hn;exact hn.2.2 u.id (ajX.2 ⟨u,hu,rfl⟩) tm.id (aiB.2 rfl) (by omega)
 obtain⟨j,b,hj,hb⟩:=hA.sb k s O;have ai:Gp.Ses.getS e1.SS (k:Int)=some s:=Gp.Ses.nV.2 ⟨by omega,by rw[Η];exact O⟩;have hJ:∀(g:Int) (W':θ) (a2:EA) (e2:ES),Adv c {e with now:=T,l:=l',wn:=T,F:=F} D (i+1) e2->nK W' a2 c e2->(∀b,jq a2 b->jq a1 b)->a2.x=a1.x->gU W W' (jq a1)->ac g W':=by
  intro g W' a2 e2 q1 q2 q3 q4 q5;simp -zeta only[ac];have hi2:ο.wrap ((i:Int)+1)=((i+1:Nat):Int):=by
   rw[Α (by omega) (by have:=h.wh.mo;omega)];rfl
  rw[hi2];refine Z _ _ ⟨i+1,a2,e2,rfl,J,q1,q2,λb hb=>N b (q3 b hb),q4.trans ab,ag.fr q5 λb hb ho=>Y b hb (N b ho),ah.trans q5 λb hb ho=> ?_,by have:=q5.size;omega⟩ (by simp only;omega);rcases U b (N b ho) with hh|hh
  ·exact hh
  ·omega
 clear_value ac;have aj:∀x:Int,(WN.eI x).length=1:=λ_=>rfl;obtain⟨ra,ax,ay⟩:=(iY.sl aj (by omega) ag).at_ aj (by omega) (i:=i) (x:=tm.id) (by rw[aiF,aa];rfl);refine⟨ra,ax,by omega,by omega,?_⟩;refine iU (k:= .int .i64) (y:=(k:Int)) (by rw[Η];exact ay 0 _ (by rw[hk];rfl)) ?_;rw[<- ab];refine kF.2 (iU (k:= .ptr) (y:=some ⟨a1.T.d,0,none⟩) (by rw[gJ];exact hE.c3) ?_);refine cmS15 (SN.YM hE.se _) ?_;rintro b1 b2 b3 b4 b5 _ w4 ⟨rfl,hR,f4⟩;rw[ai] at hR;obtain⟨rfl,rfl,rfl,rfl,rfl⟩:=hR;refine gu λq w5 r5 e5 z5 f5=> ?_;refine StN_f r5 λw6 r6 f6 z6=> ?_;have zf4:=f4.size;have x6:Ext W w6:=(f4.trans f5).nw f6;have hE6:=hE.ext x6;refine kF.2 (iU (k:= .ptr) (y:=some ⟨a1.T.d,0,none⟩) (by rw[gJ];exact hE6.c3) ?_);refine cmS0 (SN.aa8 hE6.se _) ?_;rintro _ w7 ⟨rfl,f7,A',S',M',hT',hd',R,hS'⟩;rw[ai,ajv,Ζ rfl,Η] at hS';subst hS';have hE7:=hE6.aip f7 hT' hd' (λx hx=> .inl (R x hx)) (λx hx=>ajn (hE6.lt 4 x (R x hx)) f7.size);have f17:gU W w7 (jq a1):=(x6 _).trans f7 λy _ hy=>⟨4,hy⟩;have az:¬SN.fp a1.T q:=λhq=>by have:=hE.lt 4 q hq;omega
 have r7:=r6.fr f7 az;have I:∀x,jq {a1 with T:=A'} x->jq a1 x:=by
  rintro x ⟨n,hn⟩
  match n,hn with
  |0,hn=>exact⟨0,hn⟩
  |1,hn=>exact⟨1,hn⟩
  |2,hn=>exact⟨2,hn⟩
  |3,hn=>exact⟨3,hn⟩
  |4,hn=>exact⟨4,R x hn⟩
  |5,hn=>exact⟨5,hn⟩
 refine KP (k:= .int .i64) (i:=0) (x:=(j:Int)) r7 (by rw[<- hj];rfl) ?_;have hb7:({e1 with SS:=e1.SS.set k none,M:=M'}:ES).S[j]? =some (some b):=hb;refine acR (a:={a1 with T:=A'}) hE7 hb7 λlo w8 f8 aA=> ?_;have hE8:=hE7.ext f8;have r8:=r7.ext f8
 cases lo
 ·rw[Β];exact hJ _ w8 _ _ (hA.step (rest:=True) aa hk O hj hb (.inl rfl) (hA.inv.ss _ _)) hE8 I rfl (f17.ext f8)
 ·rw[Δ];refine KP (k:= .int .i64) (i:=0) (x:=(j:Int)) r8 (by rw[<- hj];rfl) ?_;obtain⟨_,h0⟩:=aA rfl;refine cmS4 (aaZ (a:={a1 with T:=A'}) hE8 (hA.inv.ss _ _) h0 hb7) ?_;rintro w9 ⟨f9,Mi,Mo,Q,G,hE9,hI9⟩;exact hJ _ w9 _ _ (hA.step (rest:=True) aa hk O hj hb (.inr ⟨rfl,h0⟩) hI9) hE9 I rfl ((f17.ext f8).trans f9 λy _ hy=>I y hy)
end Go.Proofs.EN
end
section
namespace Gp.V4
theorem V9 (t:Nat):fold (t+(65535 - fold t))=65535:=by
 unfold fold;by_cases h:t=0
 ·subst h;simp
 ·rw[Ε h,Ε (by omega)];omega
theorem ahi {n:Int} (h:iZ n 2):0<=n/\n<65536:=⟨h.2.1,by have:=h.2.2;simpa using this⟩
theorem afs (p:kZ) {s:Nat} (hs:s<65536):tot (p.head s)=tot (p.head 0)+s:=by
 rw[head_eq,head_eq];simp only[tot,alo];omega
theorem adh (p:kZ):fold (tot (p.head p.sum))=65535:=by
 rw[afs p (by unfold kZ.sum;omega)];exact V9 _
theorem adY {p:kZ} (h:p.fine):((p.bits % 8192 * 8:Nat):Int)=p.off/\(p.bits / 16384 % 2==1)=p.df/\(p.bits / 8192 % 2==1)=p.mf:=by
 obtain⟨_,_,⟨h1,h2,h3,_⟩,_⟩:=h;rw[aj6 h1] at h3;unfold kZ.bits;refine⟨by split<;>split<;>omega,?_,?_⟩
 ·cases p.df<;>cases p.mf<;>simp<;>omega
 ·cases p.df<;>cases p.mf<;>simp<;>omega
theorem aaX {p:kZ} (h:p.check=0) (more:List UInt8):qL (p.bytes++more) false=0/\field (p.bytes++more)=p/\hlen (p.bytes++more)=20+p.opts.length:=by
 obtain⟨hf,hs⟩:=oH h;have hb:=abh hf;have I:=adY hf;obtain⟨⟨f1,f2,f3,f4⟩,⟨r1,r2⟩,⟨o1,o2,o3,o4⟩,p1,p2⟩:=id hf;have f1:=PK f1;have f2:=PK f2;have f3:=PK f3;have f4:=ahi f4;obtain⟨r11,r12⟩:=r1;obtain⟨r21,r22⟩:=r2;obtain⟨s1,s2⟩:=hs;have hsum:p.sum<65536:=by unfold kZ.sum;omega
 have e:p.bytes++more=p.head p.sum++(p.data++more):=by simp[kZ.bytes]
 rw[e];have hl:=Nj p p.sum;have hh:hlen (p.head p.sum++(p.data++more))=20+p.opts.length:=by
  rw[head_eq];simp only[hlen,akv,abY,ajY,alo];omega
 have hv:ver (p.head p.sum++(p.data++more))=4:=by
  rw[head_eq];simp only[ver,akv,abY,ajY,alo];omega
 have n2:num (p.head p.sum++(p.data++more)) 2 2=20+p.opts.length+p.data.length:=by
  rw[head_eq];simp[num,nN];omega
 have n6:num (p.head p.sum++(p.data++more)) 6 2=p.bits:=by
  rw[head_eq];simp[num,nN];omega
 have u:field (p.head p.sum++(p.data++more))=p:=by
  unfold field;rw[hh,n2,n6];have a1:((num (p.head p.sum++(p.data++more)) 1 1:Nat):Int)=p.tos:=by
   rw[head_eq];simp[num,nN];omega
  have a2:((num (p.head p.sum++(p.data++more)) 4 2:Nat):Int)=p.id:=by
   rw[head_eq];simp[num,nN];omega
  have a3:((num (p.head p.sum++(p.data++more)) 8 1:Nat):Int)=p.ttl:=by
   rw[head_eq];simp[num,nN];omega
  have a4:((num (p.head p.sum++(p.data++more)) 9 1:Nat):Int)=p.proto:=by
   rw[head_eq];simp[num,nN];omega
  have a5:((num (p.head p.sum++(p.data++more)) 12 4:Nat):Int)=p.src:=by
   rw[head_eq];simp[num,nN];omega
  have a6:((num (p.head p.sum++(p.data++more)) 16 4:Nat):Int)=p.dst:=by
   rw[head_eq];simp[num,nN];omega
  have a7:((p.head p.sum++(p.data++more)).take (20+p.opts.length)).drop 20=p.opts:=by
   rw[<- hl,List.take_left',head_eq]<;>simp
  have a8:((p.head p.sum++(p.data++more)).take (20+p.opts.length+p.data.length)).drop (20+p.opts.length)=p.data:=by
   rw[<- hl,List.take_append,List.drop_append];simp
  simp only[a1,a2,a3,a4,a5,a6,a7,a8,I]
 refine⟨?_,u,hh⟩;unfold qL;have ho:mF (p.head p.sum++(p.data++more)) false=0:=by
  unfold mF;rw[hh,hv,n2,n6];simp only[adH,hl];rw[Ε (by omega),Ε (by omega),Ε (by omega),Ε (by omega)]
 have ht:(p.head p.sum++(p.data++more)).take (20+p.opts.length)=p.head p.sum:=by rw[<- hl];simp
 rw[ho,hh,u,ht,adh,h];simp
end Gp.V4
end
section
namespace Go.Proofs.RN
open Gp Gp.V4 Go.Proofs.VN
theorem aff {m:Nat} (hm:m<2^62) (w:θ):EK (m:Int) w λr w'=>r=(fold m:Int)/\w'=w:=by
 apply Vr;have h0:¬((m:Int)<0):=by omega
 simp only[h0,aaV,Β];refine gK (λst W=>W=w/\∃x:Nat,x<2^62/\st.1=(x:Int)/\fold x=fold m) (λst _=>st.1.toNat) ⟨rfl,m,hm,rfl,rfl⟩ ?_;rintro⟨x,⟨⟩⟩ W ⟨rfl,n,hn,rfl,hf⟩ next u
 by_cases I:65535<n
 ·have h:((n:Int)>65535):=by omega
  simp only[h,aaA,Δ];refine⟨by omega,by omega,?_⟩;rw[aj6 (by omega),akP (by omega),Α (n:=(n:Int) / 65536) (by omega) (by omega),Α];exact u _ _ ⟨rfl,n % 65536+n / 65536,by omega,by simp only;omega,by rw[V_ I,hf]⟩ (by simp only;omega)
 ·have h:¬((n:Int)>65535):=by omega
  simp only[h,aaV,Β];exact⟨by rw[<- hf,Sr (by omega)],by trivial⟩
theorem aha {w:θ} {s:fU} {l:List UInt8} (h:h_ w s l) (hl:l.length<=2^46) {j:Nat} (hj:j<l.length):EJ s (j:Int) w λr w'=>r=(wordAt l j:Int)/\Ext w w':=by
 apply Vq;have hsl:=h.1;rw[Α (n:=(j:Int)+1) (by omega) (by omega)];obtain⟨a,ha,hc⟩:=h.at_ (abe hj);have hb:=l[j].toNat_lt;by_cases h2:j+1<l.length
 ·have h2':((j:Int)+1<(s.len:Int)):=by omega
  simp only[h2',aaA,Δ];obtain⟨a',ha',hc'⟩:=h.at_ (abe h2);have hb':=l[j+1].toNat_lt;refine⟨a,ha,by omega,by omega,?_⟩;rw[Η];simp only[sx,iE,iJ,ahy];rw[show w.drew.cell? (a.add j)=w.cell? (a.add j) from rfl,hc];simp only[fZ,gq];refine⟨a',ha',by omega,by omega,?_⟩;rw[show ((j:Int)+1).toNat=j+1 by omega];simp only[ahy];rw[show w.drew.cell? (a'.add (j+1))=w.cell? (a'.add (j+1)) from rfl,hc'];simp only[fZ,gq];refine⟨?_,Ext.drew w⟩;unfold wordAt;rw[abe hj,abe h2];simp only[ajY];rw[Α (n:=(l[j].toNat:Int)) (by omega) (by omega),Α (n:=(l[j+1].toNat:Int)) (by omega) (by omega),Α (n:=(l[j].toNat:Int) * 256) (by omega) (by omega),Α];omega
 ·have h2':¬((j:Int)+1<(s.len:Int)):=by omega
  simp only[h2',aaV,Β];refine⟨a,ha,by omega,by omega,?_⟩;rw[Η];simp only[sx,iE,iJ,ahy,hc];refine⟨?_,Ext.refl w⟩;unfold wordAt;rw[abe hj,akz (by omega)];rw[Α (n:=(l[j].toNat:Int)) (by omega) (by omega),Α];simp
theorem abK {w:θ} {s:fU} {ps:List (fU×List UInt8)} (hs:Parts w s ps) (hn:ps.length<=64) (hl:∀p∈ps,p.2.length<=2^40):
  BR s w λr w'=>r=(fold (qN ps):Int)/\Ext w w':=by
 apply Yl;have hsl:=hs.1;refine gK (λst W=>∃i:Nat,i<=ps.length/\st.2.1=i/\st.1=(qN (ps.take i):Int)/\Ext w W) (λst _=>ps.length - st.2.1.toNat) ⟨0,by omega,rfl,by simp[qN],Ext.refl _⟩ ?_;rintro⟨n,x,⟨⟩⟩ W ⟨i,hi,rfl,rfl,hx⟩ next J
 by_cases R:i<ps.length
 ·have u:((i:Int)<(s.len:Int)):=by omega
  simp only[u,aaA,Δ];generalize hp:ps[i]=p;have O:ps[i]? =some p:=by rw[abe R,hp]
  have hpl:=hl p (ajF O);have h0:=YQ hn hl i;have h0':=YQ hn hl (i+1);have hsx:=hs.fr hx;refine gK (λst W'=>∃j:Nat,j<=(p.2.length+1) / 2/\st.2.1=((2 * j:Nat):Int)/\st.1=((qN (ps.take i)+tot (p.2.take (2 * j)):Nat):Int)/\Ext w W') (λst _=>p.2.length+1 - st.2.1.toNat) ⟨0,by omega,rfl,by simp[tot],hx⟩ ?_;rintro⟨n,x,⟨⟩⟩ W' ⟨j,hj,rfl,rfl,hx'⟩ next' I
  obtain⟨b,o,ha,hc,hb⟩:=(hs.fr hx').2 i p O;refine⟨_,ha,by omega,by omega,?_⟩;have hpl2:=hb.1;simp only[sx,iE,iJ,Η,ahy,hc];by_cases N:2 * j<p.2.length
  ·have h:(((2 * j:Nat):Int)<(p.1.len:Int)):=by omega
   simp only[h,aaA,Δ];refine⟨_,ha,by omega,by omega,?_⟩;simp only[sx,iE,iJ,Η,ahy,hc];refine cmS1 (aha hb (by omega) N) ?_;rintro _ w2 ⟨rfl,f2⟩;have:=Em p.2 (2 * j);have h3:=Uz (p.2.take (2 * j));have h4:65535 * (p.2.take (2 * j)).length<=65535 * 2^40:=Nat.mul_le_mul_left _ (by simp;omega);rw[Α (n:=_+_) (by omega) (by omega),Α];refine I _ _ ⟨j+1,by omega,by simp only;omega,?_,hx'.trans f2⟩ (by simp only;omega);rw[Ϛ _ N];simp only;omega
  ·have h:¬(((2 * j:Nat):Int)<(p.1.len:Int)):=by omega
   simp only[h,aaV,Β];rw[Α,aji (l:=p.2) (by omega)];exact J _ _ ⟨i+1,by omega,by simp,by rw[WT O],hx'⟩ (by simp only;omega)
 ·have u:¬((i:Int)<(s.len:Int)):=by omega
  simp only[u,aaV,Β];have:i=ps.length:=by omega
  subst this;rw[ajU];refine cmS1 (aff (Ϙ hn hl) W) ?_;rintro _ _ ⟨rfl,rfl⟩;exact⟨by trivial,hx⟩
theorem afg {w:θ} {s:fU} {ps:List (fU×List UInt8)} (hs:Parts w s ps) (hn:ps.length<=64) (hl:∀p∈ps,p.2.length<=2^40):
  EL s w λr w'=>r=((65535 - fold (qN ps):Nat):Int)/\Ext w w':=by
 apply Z5;refine cmS1 (abK hs hn hl) ?_;rintro _ w1 ⟨rfl,f1⟩;have:=Nc (qN ps);exact⟨by rw[Α];omega,f1⟩
theorem adf {w:θ} {s:fU} {ps:List (fU×List UInt8)} (hs:Parts w s ps) (hn:ps.length<=64) (hl:∀p∈ps,p.2.length<=2^40):
  C_ s w λr w'=>r=decide (fold (qN ps)=65535)/\Ext w w':=by
 apply TQ;refine cmS1 (abK hs hn hl) ?_;rintro _ w1 ⟨rfl,f1⟩;refine⟨?_,f1⟩;by_cases h:fold (qN ps)=65535
 ·simp[h]
 ·simp[h];omega
theorem P6 (n:Int) (w:θ):xK n w λr w'=>r=decide (kG n)/\w'=w:=by
 apply TR;by_cases h1:n>=0
 ·have h1':0<=n:=h1;simp[h1',kG]
 ·have h1':¬0<=n:=h1;simp[h1',kG]
theorem ae9 (k:Nat) (hk:k<=7) (w:θ):BQ (k:Int) w λr w'=>r=((256^k:Nat):Int)/\w'=w:=by
 apply Yk;refine gK (λst W=>W=w/\∃i:Nat,i<=k/\st.2.1=i/\st.1=((256^i:Nat):Int)) (λst _=>k - st.2.1.toNat) ⟨rfl,0,by omega,rfl,rfl⟩ ?_;rintro⟨n,j,⟨⟩⟩ W ⟨rfl,i,hi,rfl,rfl⟩ next u
 by_cases hlt:i<k
 ·have h:((i:Int)<(k:Int)):=by omega
  simp only[h,aaA,Δ];have hp:(256:Nat)^(i+1)<=256^7:=akO (by omega) (by omega);have e:(256:Nat)^7=72057594037927936:=by decide
  have e2:((256^i:Nat):Int) * 256=((256^(i+1):Nat):Int):=by rw[Nat.pow_succ,Int.natCast_mul];rfl
  rw[e2];have I:=u (((256^(i+1):Nat):Int),((i+1:Nat):Int),()) W ⟨rfl,i+1,by omega,rfl,rfl⟩ (by simp only;omega);generalize 256^(i+1)=q at hp I ⊢;rw[Α,Α];exact I
 ·have h:¬((i:Int)<(k:Int)):=by omega
  simp only[h,aaV,Β];have:i=k:=by omega
  subst this;exact⟨by trivial,by trivial⟩
theorem Bg (n k:Int) (w:θ):mJ n k w λr w'=>r=decide (iZ n k)/\w'=w:=by
 apply Vp;by_cases h1:k>=1
 ·by_cases h2:k<=4
  ·by_cases h3:n>=0
   ·simp only[h1,h2,h3,aaA,Δ];obtain⟨m,rfl⟩:∃m:Nat,k=(m:Int):=⟨k.toNat,by omega⟩;refine cmS1 (ae9 m (by omega) w) ?_;rintro r w' ⟨rfl,rfl⟩;have hs:kP (m:Int):=⟨h1,h2⟩;refine⟨?_,by trivial⟩;have h3':0<=n:=h3;simp[iZ,hs,h3']
   ·have:¬iZ n k:=λh=>h3 h.2.1;simp[h1,h2,h3,this]
  ·have:¬iZ n k:=λh=>h2 h.1.2;simp[h1,h2,this]
 ·have:¬iZ n k:=λh=>h1 h.1.1;simp[h1,this]
theorem agP {w:θ} {s:fU} {l:List UInt8} (h:h_ w s l) (hl:l.length<=2^62) (at_ k:Int):GZ s at_ k w λn e w'=>w'=w/\Lh l at_ k n e:=by
 apply Yi;unfold Lh;have hlen:=h.1;by_cases h1:k<1
 ·have c:¬kP k\/at_<0:= .inl λx=>by have:=x.1;omega
  simp only[h1,aaA,Δ];exact⟨by trivial,by rw[Ζ c];exact⟨by trivial,by trivial⟩⟩
 by_cases h2:k>4
 ·have c:¬kP k\/at_<0:= .inl λx=>by have:=x.2;omega
  simp only[h1,h2,aaA,aaV,Δ,Β];exact⟨by trivial,by rw[Ζ c];exact⟨by trivial,by trivial⟩⟩
 by_cases h3:at_<0
 ·have c:¬kP k\/at_<0:= .inr h3;simp only[h1,h2,aaV,Δ,Β];rw[show decide (at_<0)=true by simp[h3]];simp only[Δ];exact⟨by trivial,by rw[Ζ c];exact⟨by trivial,by trivial⟩⟩
 have hk:kP k:=⟨by omega,by omega⟩;have c:¬(¬kP k\/at_<0):=by rintro(h|h)<;>contradiction
 simp only[Ε c];rw[show decide (k<1)=false by simp[h1],show decide (k>4)=false by simp[h2],show decide (at_<0)=false by simp[h3]];simp only[Β];rw[Α (n:=(s.len:Int) - k) (by omega) (by omega)];by_cases h4:at_>(s.len:Int) - k
 ·rw[show decide (at_>(s.len:Int) - k)=true by simp[h4]];simp only[Δ];exact⟨by trivial,by rw[Ζ (by omega)];exact⟨by trivial,by trivial⟩⟩
 rw[show decide (at_>(s.len:Int) - k)=false by simp[h4]];simp only[Β];obtain⟨m,rfl⟩:∃m:Nat,k=(m:Int):=⟨k.toNat,by omega⟩;obtain⟨o,rfl⟩:∃o:Nat,at_=(o:Int):=⟨at_.toNat,by omega⟩;simp only[Η];refine gK (λst W=>W=w/\∃i:Nat,i<=m/\st.2.1=i/\st.1=(nN ((l.drop o).take i):Int)) (λst _=>m - st.2.1.toNat) ⟨rfl,0,by omega,rfl,rfl⟩ ?_;rintro⟨n,j,⟨⟩⟩ W ⟨rfl,i,hi,rfl,rfl⟩ next I
 by_cases hlt:i<m
 ·have u:((i:Int)<(m:Int)):=by omega
  simp only[u,aaA,Δ];rw[Α (n:=(o:Int)+(i:Int)) (by omega) (by omega)];have J:o+i<l.length:=by omega
  obtain⟨a,ha,hc⟩:=h.at_ (abe J);refine⟨a,ha,by omega,by omega,?_⟩;have eo:((o:Int)+(i:Int)).toNat * 1=o+i:=by omega
  rw[eo];simp only[sx,iE,iJ,hc];have hb:=l[o+i].toNat_lt;have N:i<(l.drop o).length:=by simp;omega
  have hn2:nN ((l.drop o).take i)<2^32:=Td (by simp;omega);rw[Α (n:=(nN ((l.drop o).take i):Int) * 256) (by omega) (by omega),Α (n:=((l[o+i].toNat:Nat):Int)) (by omega) (by omega),Α,Α];refine I _ _ ⟨rfl,i+1,by omega,by simp,?_⟩ (by simp only;omega);have e:=Tf (l.drop o) N;rw[List.getElem_drop] at e;simp only[e];omega
 ·have u:¬((i:Int)<(m:Int)):=by omega
  simp only[u,aaV,Β];have:i=m:=by omega
  subst this;exact⟨by trivial,by rw[Ε (by omega)];exact⟨by trivial,by trivial⟩⟩
theorem adW {k n i:Nat} (h:i<k):(jX k n).take (i+1)=(jX k n).take i++[UInt8.ofNat (n / 256^(k - 1 - i))]:=by
 have hl:i<(jX k n).length:=by rw[iQ];exact h
 rw[ajM hl];have:=Xi k n i h;rw[abe hl] at this;simp at this;rw[this]
theorem Jq {w:θ} {s:fU} {l:List UInt8} (hs:h_ w s l) (hl:l.length+4<=2^46) (n k:Int) (hn:n<2^62):
  jd s n k w λr w'=>Buf w' r (bytesV (j_ l n k))/\Ext w w'/\(∀b,fU.at r b->w.heap.size<=b):=by
 apply Yj;refine ji (l:=[]) Buf.nil hs (by simp;omega) λr w1 b1 f1 n1 _=> ?_;have x1:Ext w w1:=f1.new λb _ ⟨o,h⟩=>by cases h
 have y1:∀b,fU.at r b->w.heap.size<=b:=λb hb=>by
  rcases n1 b hb with ⟨o,h⟩|h
  ·cases h
  ·exact h
 rw[akC] at b1;refine cmS0 (Bg n k w1) ?_;rintro _ _ ⟨rfl,rfl⟩;by_cases hf:iZ n k
 ·simp only[hf,aaA,ab6,Β];obtain⟨hk1,hk2⟩:=hf.1;have hn0:=hf.2.1;obtain⟨m,rfl⟩:∃m:Nat,k=(m:Int):=⟨k.toNat,by omega⟩;obtain⟨z,rfl⟩:∃z:Nat,n=(z:Int):=⟨n.toNat,by omega⟩;refine gK (λst W=>∃i:Nat,i<=m/\st.2.1=(m:Int) - 1 - i/\Buf W st.1 (bytesV (l++(jX m z).take i))/\Ext w W/\(∀b,fU.at st.1 b->w.heap.size<=b)) (λst _=>(st.2.1+1).toNat)
   ⟨0,by omega,by rw[Α];simp,by simpa using b1,x1,y1⟩ ?_
  rintro⟨t,x,⟨⟩⟩ W ⟨i,hi,hx,h1,h2,h3⟩ next u
  simp only at hx h1 h3;by_cases I:i<m
  ·have hx0:x>=0:=by omega
   simp only[hx0,aaA,Δ];obtain⟨j,rfl⟩:∃j:Nat,x=(j:Int):=⟨x.toNat,by omega⟩;have hj:j=m - 1 - i:=by omega
   refine cmS1 (ae9 j (by omega) W) ?_;rintro _ _ ⟨rfl,rfl⟩;have hp:0<256^j:=Nat.pow_pos (by omega);refine⟨by omega,by omega,gu λc w3 r3 e3 z3 f3=> ?_⟩;have e:IntKind.u8.wrap (Int.tmod (ο.wrap (Int.tdiv (z:Int) ((256^j:Nat):Int))) 256)=(((UInt8.ofNat (z / 256^j)).toNat:Nat):Int):=by
    rw[akP (by omega),<- alh];have:z / 256^j<=z:=Nat.div_le_self _ _;generalize z / 256^j=q at this ⊢;rw[Α,aj6 (by omega),IntKind.wrap_u8];simp
   rw[e] at r3;have hx3:h_ w3 ⟨some ⟨c,0,none⟩,1,1⟩ [UInt8.ofNat (z / 256^j)]:= .iG (h_.row (l:=[UInt8.ofNat (z / 256^j)]) (by simpa [bytesV] using r3));refine ji (h1.ext f3) hx3 (by simp;omega) λs' w4 b4 f4 p4 _=> ?_;rw[Α];refine u _ _ ⟨i+1,by omega,by simp only;omega,?_,(h2.trans f3).new f4 λb hb h=>by have:=h3 b h;omega,λb hb=> ?_⟩ (by simp only;omega)
   ·rw[adW I,<- hj,<- ajj];exact b4
   ·have:=h2.size;have:=f3.size;rcases p4 b hb with h|h
    ·exact h3 b h
    ·omega
  ·have hx0:¬x>=0:=by omega
   simp only[hx0,aaV,Β];have:i=m:=by omega
   subst this;rw[aji (by rw[iQ];omega)] at h1;exact⟨by simpa [j_,hf] using h1,h2,h3⟩
 ·simp only[hf,aaV,aek,Δ];exact⟨by simpa [j_,hf] using b1,x1,y1⟩
end Go.Proofs.RN
end
section
namespace Go.Proofs.RN
open Gp Gp.V4 Go.Proofs.VN
theorem KI (a0 a1 a2 a3 a4 a5 a6:Int) (a7 a8:Bool) (a9 u:fU) (h:a9.len<=2^60) (w:θ):zH a0 a1 a2 a3 a4 a5 a6 a7 a8 a9 u w λr w'=>r=20+(a9.len:Int)/\Ext w w':=by
 apply Vu;refine gu λa w1 r1 _ _ f1=> ?_;simp only[sx,iE,iJ,abY,adB,r1.cell];exact⟨by rw[Α],f1⟩
theorem DI (a0 a1 a2 a3 a4 a5 a6:Int) (a7 a8:Bool) (a9 u:fU) (h:a9.len<=2^60) (h':u.len<=2^60) (w:θ):wu a0 a1 a2 a3 a4 a5 a6 a7 a8 a9 u w λr w'=>r=20+(a9.len:Int)+(u.len:Int)/\Ext w w':=by
 apply Vw;refine gu λa w1 r1 _ _ f1=> ?_;simp only[sx,iE,iJ,abY,adB,r1.drew.cell];refine cmS1 (KI _ _ _ _ _ _ _ _ _ _ _ h _) ?_;rintro r w2 ⟨rfl,f2⟩;refine⟨by rw[(r1.drew.ext f2).cell];rfl,?_,(f1.trans (Ext.drew _)).trans f2⟩;rw[Α]
theorem byte_at {w:θ} {s:fU} {l:List UInt8} (h:h_ w s l) {i:Nat} (hi:i<l.length) {K:Addr->Prop} (hK:∀a,w.cell? (a)=some (.int .u8 (l[i].toNat:Int))->(a.block<w.heap.size)->K a):iF s 1 (i:Int) K:=by
 have hsl:=h.1;obtain⟨a,ha,hc⟩:=h.at_ (abe hi);exact⟨a,ha,by omega,by omega,hK _ (by rw[Η,ahy];exact hc) (by rw[Η,ahy];exact cell_lt hc)⟩
theorem Si {l:List UInt8}:(field l).opts.length<=l.length/\(field l).data.length<=l.length:=by
 simp only[field,aj0,ahP];omega
theorem Jk (a b:Int):(a==b)=decide (a=b):=rfl
theorem WL {w:θ} (p:kZ) {o d:fU} (ho:o.len=p.opts.length) (hd:d.len=p.data.length) (h1:p.opts.length<=2^46) (h2:p.data.length<=2^46):
  xM p.tos p.id p.off p.ttl p.proto p.src p.dst p.df p.mf o d w λr w'=>r=p.check/\Ext w w':=by
 apply TT;refine gu λa w1 r1 _ _ f1=> ?_;intro J4;have hJ:∀b,b=decide (iZ p.tos 1/\iZ p.ttl 1/\iZ p.proto 1/\iZ p.id 2)->J4 b w1:=by
  rintro b hb;simp -zeta only[J4];intro J7;have h7:∀c,c=decide ((kG p.src/\kG p.dst)/\(0<=p.off/\p.off<=65528/\Int.tmod p.off 8=0))->J7 c w1:=by
   rintro c hc;simp -zeta only[J7];intro J;have N:∀e,e=decide (p.opts.length<=40/\p.opts.length % 4=0)->J e:=by
    rintro e he;simp -zeta only[J];intro O;have I:∀g,g=(!decide p.fine)->O g:=by
     rintro g rfl;simp only[sx,iE,iJ,O,abY,adB,r1.cell];by_cases hf:p.fine
     ·simp only[hf,aaA,ab6,Β];refine cmS1 (DI _ _ _ _ _ _ _ _ _ _ _ (show o.len<=2^60 by omega) (show d.len<=2^60 by omega) _) ?_;rintro _ w8 ⟨rfl,f8⟩;have r9:=r1.ext f8;simp only[abY,adB,fZ,gI,gq,r9.cell];rw[Α];by_cases hs:20+p.opts.length+p.data.length<=65535
      ·have:¬(20+(o.len:Int)+(d.len:Int)>65535):=by omega
       simp only[this,aaV,Β];by_cases hs2:p.off<=65535 - (p.data.length:Int)
       ·have:¬(p.off>65535 - (d.len:Int)):=by omega
        simp only[this,aaV,Β];exact⟨by simp[kZ.check,hf,kZ.short,hs,hs2],f1.trans f8⟩
       ·have:(p.off>65535 - (d.len:Int)):=by omega
        simp only[this,aaA,Δ];exact⟨by simp[kZ.check,hf,kZ.short,hs2],f1.trans f8⟩
      ·have:(20+(o.len:Int)+(d.len:Int)>65535):=by omega
       simp only[this,aaA,Δ];exact⟨by simp[kZ.check,hf,kZ.short,hs],f1.trans f8⟩
     ·simp only[hf,aaV,aek,Δ];exact⟨by simp[kZ.check,hf],f1⟩
    cases b with
    |false=>
     simp only[aek,Δ];exact I _ (by rw[abW λh:p.fine=>(akQ hb.symm) h.1];rfl)
    |true=>
    cases c with
    |false=>
     simp only[ab6,aek,Β,Δ];exact I _ (by rw[abW λh:p.fine=>(akQ hc.symm) ⟨h.2.1,h.2.2.1.1,h.2.2.1.2.1,h.2.2.1.2.2.1⟩];rfl)
    |true=>
    cases e with
    |false=>
     simp only[ab6,aek,Β,Δ];exact I _ (by rw[abW λh:p.fine=>(akQ he.symm) h.2.2.2];rfl)
    |true=>
    have hb':=ak1 hb.symm;have hc':=ak1 hc.symm;have he':=ak1 he.symm;simp -zeta only[sx,iE,iJ,ab6,abY,adB,r1.cell]
    cases hm:p.mf with
    |false=>
     simp only[Β];have u:p.fine:=⟨hb',hc'.1,⟨hc'.2.1,hc'.2.2.1,hc'.2.2.2,λh=>by rw[hm] at h;cases h⟩,he'⟩;exact I _ (by rw[ab9 u];rfl)
    |true=>
     simp only[Δ];refine⟨by omega,I _ ?_⟩;rw[hd,aj6 (by omega)];by_cases hx:p.data.length % 8=0
     ·have u:p.fine:=⟨hb',hc'.1,⟨hc'.2.1,hc'.2.2.1,hc'.2.2.2,λ_=>hx⟩,he'⟩;rw[ab9 u];simp;omega
     ·have u:¬p.fine:=λh=>hx (h.2.2.1.2.2.2 hm);rw[abW u];simp;omega
   simp -zeta only[sx,iE,iJ,abY,adB,r1.cell];by_cases hx:p.opts.length<=40
   ·have:((o.len:Int)<=40):=by omega
    simp -zeta only[this,aaA,Δ];refine⟨by omega,N _ ?_⟩;rw[ho,aj6 (by omega),Jk];exact akq.2 ⟨λh=>⟨hx,by omega⟩,λh=>by omega⟩
   ·have:¬((o.len:Int)<=40):=by omega
    simp -zeta only[this,aaV,Β];exact N _ (abW λh=>hx h.1).symm
  simp -zeta only[sx,iE,iJ,abY,adB,r1.cell];refine cmS0 (P6 _ _) ?_;rintro _ W ⟨rfl,hW⟩;subst hW;by_cases c1:kG p.src
  ·simp -zeta only[c1,aaA,Δ,abY,adB,fZ,gq,r1.cell];refine cmS0 (P6 _ _) ?_;rintro _ W ⟨rfl,hW⟩;subst hW;by_cases c2:kG p.dst
   ·simp -zeta only[c2,aaA,Δ,abY,adB,fZ,gq,r1.cell];by_cases c3:p.off>=0
    ·simp -zeta only[c3,aaA,Δ];by_cases c4:p.off<=65528
     ·simp -zeta only[c4,aaA,Δ];refine⟨by omega,h7 _ ?_⟩;rw[Jk];exact akq.2 ⟨λh=>⟨⟨c1,c2⟩,c3,c4,h⟩,λh=>h.2.2.2⟩
     ·simp -zeta only[c4,aaV,Β];exact h7 _ (abW λh=>c4 h.2.2.1).symm
    ·simp -zeta only[c3,aaV,Β];exact h7 _ (abW λh=>c3 h.2.1).symm
   ·simp -zeta only[c2,aaV,Β];exact h7 _ (abW λh=>c2 h.1.2).symm
  ·simp -zeta only[c1,aaV,Β];exact h7 _ (abW λh=>c1 h.1.1).symm
 simp -zeta only[sx,iE,iJ,abY,r1.cell];refine cmS0 (Bg _ _ _) ?_;rintro _ W ⟨rfl,hW⟩;subst hW;by_cases c1:iZ p.tos 1
 ·simp -zeta only[c1,aaA,Δ,abY,adB,fZ,gq,r1.cell];refine cmS0 (Bg _ _ _) ?_;rintro _ W ⟨rfl,hW⟩;subst hW;by_cases c2:iZ p.ttl 1
  ·simp -zeta only[c2,aaA,Δ,abY,adB,fZ,gq,r1.cell];refine cmS0 (Bg _ _ _) ?_;rintro _ W ⟨rfl,hW⟩;subst hW;by_cases c3:iZ p.proto 1
   ·simp -zeta only[c3,aaA,Δ,abY,adB,fZ,gq,r1.cell];refine cmS0 (Bg _ _ _) ?_;rintro _ W ⟨rfl,hW⟩;subst hW;exact hJ _ (akq.2 ⟨λh=>⟨c1,c2,c3,h⟩,λh=>h.2.2.2⟩)
   ·simp -zeta only[c3,aaV,Β];exact hJ _ (abW λh=>c3 h.2.2.1).symm
  ·simp -zeta only[c2,aaV,Β];exact hJ _ (abW λh=>c2 h.2.1).symm
 ·simp -zeta only[c1,aaV,Β];exact hJ _ (abW λh=>c1 h.1).symm
theorem QF (n:Nat):jX 1 n=[UInt8.ofNat n]:=by simp[jX]
theorem UA {n:Nat}:IntKind.u8.wrap (n:Int)=((UInt8.ofNat n).toNat:Int):=by
 rw[IntKind.wrap_u8];simp
theorem ώ {w:θ} {p:kZ} (hc:p.check=0) {o d:fU} (ho:h_ w o p.opts) (hd:d.len=p.data.length) {z s:Nat} (hz:z=20+p.opts.length+p.data.length) (hs:s<65536):
  zI p.tos p.id p.off p.ttl p.proto p.src p.dst p.df p.mf o d (z:Int) (s:Int) w λr w'=>Buf w' r (bytesV (p.head s))/\Ext w w'/\∀b,fU.at r b->w.heap.size<=b:=by
 apply Vx;obtain⟨hf,O⟩:=oH hc;have hbl:=abh hf;obtain⟨⟨g1,g2,g3,g4⟩,⟨q1,q2⟩,⟨o1,o2,o3,o4⟩,p1,p2⟩:=id hf;have g1':=PK g1;have g2':=PK g2;have g3':=PK g3;have g4':=ahi g4;have hsh1:=O.1;refine gu λa w1 r1 e1 _ f1=> ?_;simp -zeta only[sx,iE,iJ,abY,adB,r1.cell];refine⟨by omega,?_⟩;intro J7;have main:∀j8:Int,(bif p.mf then ο.wrap (j8+8192) else j8)=(p.bits:Int)->J7 j8:=by
  intro j8 hj8;simp -zeta only[J7];intro J9;have m9:∀N,N=(p.bits:Int)->J9 N:=by
   rintro _ rfl;have r1d:=r1.drew;simp only[J9,abY,adB,fZ,gI,gq,jK,r1d.cell];refine cmS1 (KI _ _ _ _ _ _ _ _ _ _ _ (show o.len<=2^60 by have:=ho.1;omega) _) ?_;rintro _ w2 ⟨rfl,f2⟩;have r2:=r1d.ext f2;simp only[sx,iE,iJ,aeA,abY,r2.cell];refine⟨by omega,gu λb w3 r3 e3 _ f3=> ?_⟩;have ol:=ho.1;rw[akP (by omega),Α (n:=(20+(o.len:Int)) / 4) (by omega) (by omega),Α (n:=64+(20+(o.len:Int)) / 4) (by omega) (by omega)] at r3;have R:(64+(20+(o.len:Int)) / 4)=((64+(20+p.opts.length) / 4:Nat):Int):=by omega
   obtain⟨t,ht⟩:∃t:Nat,p.tos=(t:Int):=⟨p.tos.toNat,by omega⟩;rw[R,UA,ht,UA] at r3;have b3:Buf w3 ⟨some ⟨b,0,none⟩,2,2⟩ (bytesV (jX 1 (64+(20+p.opts.length) / 4)++jX 1 p.tos.toNat)):=by
    rw[QF,QF,ht];exact h_.row (l:=[UInt8.ofNat (64+(20+p.opts.length) / 4),UInt8.ofNat t]) (by simpa [bytesV] using r3)
   have hdr:w1.drew.heap.size=w1.heap.size:=rfl;have s2:=f2.size;have s1:=f1.size;have r3a:=(r2.ext f3).drew;simp only[abY,adB,fZ,gq,r3a.cell];have b3d:h_ w3.drew ⟨some ⟨b,0,none⟩,2,2⟩ _:=(h_.iG b3).ext (Ext.drew _);have put:∀{W:θ} {t:fU} {l:List UInt8} (n:Int) (k:Nat),h_ W t l->l.length<=100->iZ n (k:Int)->n<2^62->jd t n (k:Int) W λr w'=>Buf w' r (bytesV (l++jX k n.toNat))/\Ext W w'/\(∀b,fU.at r b->W.heap.size<=b):=by
    intro W t l n k h1 h2 h3 h4;refine cmS2 (Jq h1 (by omega) n (k:Int) h4) ?_;rintro r w' ⟨h5,h6,h7⟩;refine⟨?_,h6,h7⟩;simpa [j_,h3] using h5
   have m2:iZ ((z:Nat):Int) (2:Nat):=⟨⟨by omega,by omega⟩,by omega,by simp;omega⟩;have m3:iZ ((p.bits:Nat):Int) (2:Nat):=⟨⟨by omega,by omega⟩,by omega,by simp;omega⟩;have m4:iZ ((s:Nat):Int) (2:Nat):=⟨⟨by omega,by omega⟩,by omega,by simp;omega⟩;have m5:iZ p.src (4:Nat):=⟨⟨by omega,by omega⟩,q1.1,by have:=q1.2;simp;omega⟩;have m6:iZ p.dst (4:Nat):=⟨⟨by omega,by omega⟩,q2.1,by have:=q2.2;simp;omega⟩;have q1':=q1.2;have q2':=q2.2;refine cmS2 (put (z:Int) 2 b3d (by simp[iQ]) m2 (by omega)) ?_;rintro t4 w4 ⟨b4,f4,_⟩;simp only[sx,iE,iJ,aeA,abY,adB,(r3a.ext f4).cell];refine cmS2 (put p.id 2 (h_.iG b4) (by simp[iQ]) g4 (by omega)) ?_;rintro t5 w5 ⟨b5,f5,_⟩;refine cmS2 (put (p.bits:Int) 2 (h_.iG b5) (by simp[iQ]) m3 (by omega)) ?_;rintro t6 w6 ⟨b6,f6,n6⟩;have r6:=((r3a.ext f4).ext f5).ext f6;simp only[abY,adB,fZ,gq,r6.cell];refine gu λc w7 r7 e7 _ f7=> ?_;obtain⟨u,hu⟩:∃u:Nat,p.ttl=(u:Int):=⟨p.ttl.toNat,by omega⟩;obtain⟨v,hv⟩:∃v:Nat,p.proto=(v:Int):=⟨p.proto.toNat,by omega⟩;rw[hu,hv,UA,UA] at r7;have b7:h_ w7 ⟨some ⟨c,0,none⟩,2,2⟩ (jX 1 p.ttl.toNat++jX 1 p.proto.toNat):=by
    rw[QF,QF,hu,hv];exact h_.iG (h_.row (l:=[UInt8.ofNat u,UInt8.ofNat v]) (by simpa [bytesV] using r7))
   refine ji (b6.ext f7) b7 (by simp[iQ]) λt8 w8 b8 f8 n8 _=> ?_;have s3:=f3.size;have s4:=f4.size;have s5:=f5.size;have s6:=f6.size;have s7:=f7.size;have hdr3:w3.drew.heap.size=w3.heap.size:=rfl;have x3:Ext w w3.drew:=((f1.trans (Ext.drew _)).trans f2).trans (f3.trans (Ext.drew _));have x7:Ext w3.drew w7:=((f4.trans f5).trans f6).trans f7;have x8:Ext w3.drew w8:=x7.new f8 λy hy h=>by have:=n6 y h;omega
   refine cmS2 (put (s:Int) 2 (h_.iG b8) (by simp[iQ]) m4 (by omega)) ?_;rintro t9 w9 ⟨b9,f9,_⟩;have r9:=(r3a.ext (x8.trans f9)).drew;simp only[abY,adB,fZ,gq,r9.cell];refine cmS2 (put p.src 4 ((h_.iG b9).ext (Ext.drew _)) (by simp[iQ]) m5 (by omega)) ?_;rintro t10 U ⟨Y,f10,_⟩;simp only[sx,iE,iJ,aeA,abY,adB,(r9.ext f10).cell];refine cmS2 (put p.dst 4 (h_.iG Y) (by simp[iQ]) m6 (by omega)) ?_;rintro t11 Z ⟨aa,f11,n11⟩;have ab:=(r9.ext f10).ext f11;simp only[abY,adB,fZ,gI,ab.cell];have J:Ext w Z:=(x3.trans x8).trans ((f9.trans (Ext.drew _)).trans (f10.trans f11));refine ji aa (ho.ext J) (by simp[iQ];omega) λt12 w12 ac f12 n12 _=> ?_;have s11:=J.size;have s10:w.heap.size<=U.heap.size:=((x3.trans x8).trans ((f9.trans (Ext.drew _)).trans f10)).size;refine⟨?_,J.new f12 λy hy h=>by have:=n11 y h;omega,λy hy=> ?_⟩
   ·have:p.head s=jX 1 (64+(20+p.opts.length) / 4)++jX 1 p.tos.toNat++jX 2 ((z:Int)).toNat++jX 2 p.id.toNat++jX 2 ((p.bits:Int)).toNat++(jX 1 p.ttl.toNat++jX 1 p.proto.toNat)++jX 2 ((s:Int)).toNat++jX 4 p.src.toNat++jX 4 p.dst.toNat++p.opts:=by
     rw[Η,Η,Η,hz];simp only[kZ.head,ajj]
    rw[this];exact ac
   ·rcases n12 y hy with h|h
    ·have:=n11 y h;omega
    ·omega
  cases hm:p.mf with
  |false=>rw[hm] at hj8;exact m9 _ hj8
  |true=>rw[hm] at hj8;exact m9 _ hj8
 have e0:Int.tdiv p.off 8=((p.off.toNat / 8:Nat):Int):=by rw[akP o1];omega
 simp -zeta only[e0];have hq:p.off.toNat / 8<8192:=by omega
 rw[Α (n:=((p.off.toNat / 8:Nat):Int)) (by omega) (by omega)]
 cases I:p.df with
 |false=>
  refine main _ ?_
  cases hm:p.mf with
  |false=>simp[kZ.bits,I,hm]
  |true=>simp only[Δ];rw[Α];simp[kZ.bits,I,hm]
 |true=>
  refine main _ ?_;rw[Α (n:=_+16384) (by omega) (by omega)]
  cases hm:p.mf with
  |false=>simp[kZ.bits,I,hm]
  |true=>simp only[Δ];rw[Α];simp[kZ.bits,I,hm]
theorem ac7 {w:θ} (p:kZ) {o d:fU} (ho:h_ w o p.opts) (hd:h_ w d p.data) (h1:p.opts.length<=2^46) (h2:p.data.length<=2^46):
  Dc p.tos p.id p.off p.ttl p.proto p.src p.dst p.df p.mf o d w λr e w'=>ahK p w w' r e:=by
 apply TS;refine gu λa w1 r1 e1 z1 f1=> ?_;simp -zeta only[sx,iE,iJ,abY,adB,r1.cell];refine cmS1 (WL p (o:=o) (d:=d) ho.1 hd.1 h1 h2) ?_;rintro _ w2 ⟨rfl,f2⟩;have r2:=(r1.ext f2).drew;by_cases hc:p.check=0
 ·have hc':(p.check !=0)=false:=by rw[hc];rfl
  simp -zeta only[Β,abY,adB,fZ,gI,gq,jK,r2.cell,hc'];have hsm:=(oH hc).2.1;have ol:=ho.1;have dl:=hd.1;have ez:(20+(o.len:Int)+(d.len:Int))=((20+p.opts.length+p.data.length:Nat):Int):=by omega
  refine cmS1 (DI _ _ _ _ _ _ _ _ _ _ _ (show o.len<=2^60 by omega) (show d.len<=2^60 by omega) _) ?_;rintro _ w3 ⟨rfl,f3⟩;have r3:=r2.ext f3;simp -zeta only[sx,iE,iJ,aeA,abY,adB,r3.cell,ez];have x3:Ext w w3:=((f1.trans f2).trans (Ext.drew _)).trans f3;refine cmS2 (ώ (s:=0) hc (ho.ext x3) (d:=d) hd.1 rfl (by omega)) ?_;rintro t4 w4 ⟨b4,f4,n4⟩;refine gu λc w5 r5 e5 _ f5=> ?_;have l6:(p.head 0).length=20+p.opts.length:=Nj p 0;refine cmS1 (afg (Ee r5 (h_.iG (b4.ext f5))) (by simp) (by intro q hq;simp only[aiB] at hq;subst hq;simp only;omega)) ?_;rintro _ w6 ⟨rfl,f6⟩;rw[Oa];have e8:65535 - fold (tot (p.head 0))=p.sum:=rfl;rw[e8];have u:p.sum<65536:=by unfold kZ.sum;omega
  have x6:Ext w3 w6.drew:=((f4.trans f5).trans f6).trans (Ext.drew _);have r6:=r3.ext x6;simp -zeta only[abY,adB,fZ,gI,gq,jK,r6.cell];refine cmS1 (DI _ _ _ _ _ _ _ _ _ _ _ (show o.len<=2^60 by omega) (show d.len<=2^60 by omega) _) ?_;rintro _ w7 ⟨rfl,f7⟩;have r7:=r6.ext f7;simp -zeta only[sx,iE,iJ,aeA,abY,adB,r7.cell,ez];have x7:=x3.trans (x6.trans f7);refine cmS2 (ώ (s:=p.sum) hc (ho.ext x7) (d:=d) hd.1 rfl u) ?_;rintro t8 w8 ⟨b8,f8,n8⟩;have r8:=r7.ext f8;simp -zeta only[sx,iE,iJ,aeA,abY,adB,r8.cell];have l8:(p.head p.sum).length=20+p.opts.length:=Nj p _;have x8:=x7.trans f8;have z7:=x7.size;have z8:=x8.size;refine ji b8 (hd.ext x8) (by omega) λs9 w9 b9 f9 n9 _=> ?_;refine⟨hc.symm,λh=>absurd hc h,λ_=>b9,x8.new f9 λy hy h=>by have:=n8 y h;omega,λy hy=> ?_⟩;rcases n9 y hy with h|h
  ·have:=n8 y h;omega
  ·omega
 ·have hc':(p.check !=0)=true:=by simpa using hc
  simp -zeta only[Δ,hc'];exact⟨rfl,λ_=>rfl,λh=>absurd h hc,f1.trans f2,by rintro b ⟨o,h⟩;cases h⟩
theorem QV {w:θ} {s:fU} {l:List UInt8} (h:h_ w s l) (hl:l.length<=2^46) {i k:Int} (hk:1<=k/\k<=4) (hi:0<=i/\i+k<=l.length):jC s i k w λr w'=>r=(num l i.toNat k.toNat:Int)/\Ext w w':=by
 obtain⟨m,rfl⟩:∃m:Nat,k=(m:Int):=⟨k.toNat,by omega⟩;obtain⟨o,rfl⟩:∃o:Nat,i=(o:Int):=⟨i.toNat,by omega⟩;apply Ym;refine cmS8 (agP h (by omega) _ _) ?_;rintro n e w' ⟨hw,hr⟩;subst hw;exact⟨abz (by omega) (by omega) hr,Ext.refl _⟩
theorem X7 {l:List UInt8} {i:Nat} (h:i<l.length):num l i 1=l[i].toNat:=by
 unfold num;rw[akB h,List.take_succ_cons];simp[nN]
theorem Uo {w:θ} {s t:fU} {l m:List UInt8} (hs:h_ w s l) (ht:h_ w t m) (hl:l.length<=2^46) (hm:m.length<=2^46) (h1:20<=hlen l) (h2:hlen l<=l.length) (hm2:m=(l.take (num l 2 2)).drop (hlen l)):
  AB s t w λt i o l' p s' d df mf op da w'=>ϭ w' (field l) t i o l' p s' d df mf op da/\Xa w op/\Xa w da/\Ext w w':=by
 apply Qx;have hsl:=hs.1;refine gu λb w1 r1 e1 z1 f1=> ?_;refine byte_at (i:=0) (hs.ext f1) (by omega) λa0 hc0 _=> ?_;simp -zeta only[sx,iE,iJ,hc0];refine⟨by omega,?_⟩;refine zL (QV (hs.ext f1) hl (by omega) (by omega)) ?_;rintro _ w3 ⟨rfl,f3⟩;have x3:Ext w w3:=f1.trans f3;have rb3:=r1.ext f3;have hs3:=hs.ext x3;have hsz3:=f3.size;have hszx:=x3.size;have n6:=E_ l 6;have hx0:=l[0].toNat_lt;have R:ο.wrap ((ο.wrap (Int.tmod (l[0].toNat:Int) 16)) * 4)=(hlen l:Int):=by
  rw[QL (show 0<l.length by omega),aj6 (by omega),Α (n:=(l[0].toNat:Int) % 16) (by omega) (by omega),Α];omega
 rw[show (Int.toNat 6)=6 from rfl,show (Int.toNat 2)=2 from rfl];intro J;have hJ:∀c W,Row W c [.int .i64 (num l 1 1:Int),.int .i64 (num l 4 2:Int),.int .i64 ((num l 6 2 % 8192 * 8:Nat):Int),.int .i64 (num l 8 1:Int),.int .i64 (num l 9 1:Int),.int .i64 (num l 12 4:Int),.int .i64 (num l 16 4:Int),.bool false,.bool false,.slice none 0 0,.slice none 0 0]->Ext w3 W->w3.heap.size<=c->J ⟨c,0,none⟩ W:=by
  intro c W rc hx hc;simp only[sx,iE,iJ,J];refine⟨by omega,by omega,by omega,by omega,?_⟩;refine gX rc rfl (by simp) λw4 r4 f4 z4=>gX r4 rfl (by simp) λw5 r5 f5 z5=> ?_;have x5:Ext w3 w5:=hx.new ((f4 (·=c) rfl).trans (f5 (·=c) rfl) λ_ _ e=>e) λy hy e=>by omega
  simp only[agE,aho] at r5;have hs5:=hs3.ext x5;have hsz5:=x5.size;rw[R];refine lF hs5 (by omega) (by omega) (by omega) λs7 hs7 _=> ?_;refine ji (l:=[]) Buf.nil hs7 (by simp;omega) λo8 w8 b8 f8 n8 _=> ?_;have y8:Ext w5 w8:=f8.new λy hy ⟨o,h⟩=>by cases h
  have n8':∀y,fU.at o8 y->w5.heap.size<=y:=λy hy=>by
   rcases n8 y hy with ⟨o,h⟩|h
   ·cases h
   ·exact h
  have x8:=x5.trans y8;refine ji (l:=[]) Buf.nil ((ht.ext x3).ext x8) (by simp;omega) λd9 w9 b9 f9 n9 _=> ?_;have y9:Ext w8 w9:=f9.new λy hy ⟨o,h⟩=>by cases h
  have n9':∀y,fU.at d9 y->w8.heap.size<=y:=λy hy=>by
   rcases n9 y hy with ⟨o,h⟩|h
   ·cases h
   ·exact h
  have hcl:=r5.lt;have z8:=y8.size;have z9:=y9.size;refine gX ((r5.ext y8).ext y9) rfl (by simp) λw10 U f10 z10=>gX U rfl (by simp) λu I f11 z11=> ?_;have f1011:gU w9 u (·=c):=(f10 (·=c) rfl).trans (f11 (·=c) rfl) λ_ _ e=>e;have N:Ext w3 u:=(x8.trans y9).nw f1011;simp only[agE,aho] at I;simp only[abY,adB,fZ,gI,gq,jK,I.cell];have rb11:=rb3.ext N;have hb3:=rb3.lt;refine gZ rb11 rfl rfl λO Y f13 z13=> ?_;simp only[abY,adB,fZ,gI,gq,jK,Y.cell];have bit:∀k:Nat,0<k->k<=16384->(Int.tmod (ο.wrap (Int.tdiv (num l 6 2:Int) (k:Int))) 2==1)=(num l 6 2 / k % 2==1):=by
   intro k hk hk2;rw[akP (by omega),<- alh];have:=Nat.div_le_self (num l 6 2) k;generalize num l 6 2 / k=q at this;rw[Α,aj6 (by omega),Jk];by_cases h:q % 2=1
   ·have:((q:Int) % 2=1):=by omega
    simp[h,this]
   ·have:¬((q:Int) % 2=1):=by omega
    simp[h,this]
  refine⟨⟨rfl,rfl,rfl,rfl,rfl,rfl,rfl,bit 16384 (by omega) (by omega),bit 8192 (by omega) (by omega),?_,?_⟩,λx hx=>by have:=n8' _ (b8.at_eq hx);omega,λx hx=>by have:=n9' _ (b9.at_eq hx);omega,?_⟩
  ·have b8':Buf O o8 _:=((b8.ext y9).fr f1011 λy hy e=>by have:=n8' y hy;omega).fr (f13 (·=b) rfl) λy hy e=>by
    have:=n8' y hy;omega
   rw[akC,show Int.toNat (hlen l:Int)=hlen l from rfl,show Int.toNat 20=20 from rfl] at b8';exact h_.iG b8'
  ·have b9':Buf O d9 _:=(b9.fr f1011 λy hy e=>by have:=n9' y hy;omega).fr (f13 (·=b) rfl) λy hy e=>by
    have:=n9' y hy;omega
   rw[akC,hm2] at b9';exact h_.iG b9'
  ·exact(x3.trans N).new (f13 (·=b) rfl) λy hy e=>by omega
 have hs3d:=hs3.ext (Ext.drew w3);refine byte_at (i:=1) hs3d (by omega) λa1 hc1 _=> ?_;simp -zeta only[fZ,gq,hc1];refine⟨by omega,byte_at (i:=8) hs3d (by omega) λa8 hc8 _=> ?_⟩;simp -zeta only[fZ,gq,hc8];refine byte_at (i:=9) hs3d (by omega) λa9 hc9 _=> ?_;simp -zeta only[fZ,gq,hc9];have hx:=Ext.refl w3.drew;have l2:20<=l.length:=by omega
 have hdr:w3.drew.heap.size=w3.heap.size:=rfl;have t1:=l[1].toNat_lt;have t8:=l[8].toNat_lt;have t9:=l[9].toNat_lt;have v1:ο.wrap (l[1].toNat:Int)=(num l 1 1:Int):=by rw[Α,X7 (by omega)]
 have v8:ο.wrap (l[8].toNat:Int)=(num l 8 1:Int):=by rw[Α,X7 (by omega)]
 have v9:ο.wrap (l[9].toNat:Int)=(num l 9 1:Int):=by rw[Α,X7 (by omega)]
 have v6:ο.wrap ((Int.tmod (num l 6 2:Int) 8192) * 8)=((num l 6 2 % 8192 * 8:Nat):Int):=by
  rw[aj6 (by omega),Α];omega
 simp -zeta only[v1,v8,v9,v6]
 repeat' (first
  |(with_reducible refine And.intro ?_ ?_)
  |((with_reducible refine zL (QV (hs3d.ext hx) hl (by omega) (by omega)) ?_);rintro _ W ⟨rfl,f⟩;replace hx:=hx.trans f;(try replace rc:=rc.ext f);(try simp -zeta only[aeA,og hc1 hx,og hc8 hx,og hc9 hx]))
  |((with_reducible refine gu λc W rc ec _ f=> ?_);have hc:=ahO hx.size (Nat.le_of_eq ec.symm);clear ec;replace hx:=hx.trans f;(try simp -zeta only[aeA,og hc1 hx,og hc8 hx,og hc9 hx]))
  |((with_reducible refine gZ rc rfl rfl λW rc2 fc zc=> ?_);exact hJ _ W rc2 ((Ext.drew w3).trans (hx.new (fc (·=_) rfl) λy hy e=>by omega)) (by omega)))
theorem ab8 {w:θ} {l:List UInt8} {q:Bool} {e:Int} (h:qL l q=e) (he:e≠0):ϭ w (V4.read l q) 0 0 0 0 0 0 0 false false ⟨none,0,0⟩ ⟨none,0,0⟩:=by
 unfold V4.read;rw[h,Ε he];exact WX _
theorem Y7 (w:θ):Xa w ⟨none,0,0⟩:=λ_ h=>by cases h
set_option maxRecDepth 100000 in
theorem afj {w:θ} {s:fU} {l:List UInt8} (hs:h_ w s l) (hl:l.length<=2^40) (q:Bool):
  EM s q w λt i o l' p s' d df mf op da e w'=>e=qL l q/\ϭ w' (V4.read l q) t i o l' p s' d df mf op da/\Xa w op/\Xa w da/\Ext w w':=by
 apply Vy;have hsl:=hs.1;refine gu λa w1 r1 e1 z1 f1=> ?_;have fin:∀(e:Int) W,Ext w1 W->qL l q=e->e≠0->ig [(Value.int .i64 0),(Value.int .i64 0),(Value.int .i64 0),(Value.int .i64 0),(Value.int .i64 0),(Value.int .i64 0),(Value.int .i64 0),(Value.bool false),(Value.bool false),(Value.slice none 0 0),(Value.slice none 0 0)] W ⟨a,0,none⟩ 0 λu=>
   YX ν (u.cell? ⟨a,0,none⟩) λy1=>YX ν (u.cell? ⟨a,1,none⟩) λy2=>YX ν (u.cell? ⟨a,2,none⟩) λy3=>YX ν (u.cell? ⟨a,3,none⟩) λy4=>YX ν (u.cell? ⟨a,4,none⟩) λy5=>
   YX ν (u.cell? ⟨a,5,none⟩) λy6=>YX ν (u.cell? ⟨a,6,none⟩) λy7=>YX .bool (u.cell? ⟨a,7,none⟩) λy8=>YX .bool (u.cell? ⟨a,8,none⟩) λy9=>YX .slice (u.cell? ⟨a,9,none⟩) λU=>YX .slice (u.cell? ⟨a,10,none⟩) λZ=>
   (e=qL l q/\ϭ u (V4.read l q) y1 y2 y3 y4 y5 y6 y7 y8 y9 U Z/\Xa w U/\Xa w Z/\Ext w u):=by
  intro e W hx he aa;refine gZ (r1.ext hx) rfl rfl λu ab f28 _=> ?_;simp only[abY,adB,fZ,gI,gq,jK,ab.cell];exact⟨he.symm,ab8 he aa,Y7 w,Y7 w,(f1.trans hx).new (f28 (·=a) rfl) λy hy e=>by omega⟩
 have ropen:∀e,mF l q=e->e≠0->qL l q=e:=by
  intro e h he;unfold qL;rw[h,Ζ he]
 by_cases c1:l.length<20
 ·have c1':((s.len:Int)<20):=by omega
  simp only[sx,iE,iJ,c1',aaA];exact fin 3 w1 (Ext.refl _) (ropen 3 (by simp[mF,c1]) (by omega)) (by omega)
 have c1':¬((s.len:Int)<20):=by omega
 simp only[c1',aaV,Β];have hs1:=(hs.ext f1).ext (Ext.drew w1);refine byte_at (i:=0) hs1 (by omega) λa0 hc0 hb0=> ?_;have hx0:=l[0].toNat_lt;have ac:ο.wrap ((ο.wrap (Int.tmod (l[0].toNat:Int) 16)) * 4)=(hlen l:Int):=by
  rw[QL (show 0<l.length by omega),aj6 (by omega),Α (n:=(l[0].toNat:Int) % 16) (by omega) (by omega),Α];omega
 simp only[sx,iE,iJ,hc0,ac];refine⟨by omega,?_⟩;refine zL (QV hs1 (by omega) (by omega) (by omega)) ?_;rintro _ w2 ⟨rfl,f2⟩;have x2:Ext w1 w2:=(Ext.drew w1).trans f2;simp only[aeA,og hc0 f2];rw[show (Int.toNat 2)=2 from rfl];have hs2:=hs1.ext f2;refine byte_at (i:=0) hs2 (by omega) λa1 hc1 _=> ?_;have ev:(IntKind.u8.wrap (Int.tdiv (l[0].toNat:Int) 16) !=4)=decide (ver l≠4):=by
  rw[aft (show 0<l.length by omega),akP (by omega),IntKind.wrap_u8];by_cases h:l[0].toNat / 16=4
  ·have:((l[0].toNat:Int) / 16 % 256)=4:=by omega
   rw[this];simp[h]
  ·have:¬((l[0].toNat:Int) / 16 % 256)=4:=by omega
   simp[h,this]
 simp only[fZ,gq,hc1,ev];refine⟨by omega,?_⟩;by_cases v:ver l≠4
 ·simp only[v,ne_eq,alq,aaA,Δ];exact fin 4 w2 x2 (ropen 4 (by simp only[mF];rw[Ε (by omega),Ζ (.inl v)]) (by omega)) (by omega)
 simp only[v,aaV,Β];by_cases ae:hlen l<20
 ·have I:((hlen l:Int)<20):=by omega
  simp only[I,aaA,Δ];exact fin 4 w2 x2 (ropen 4 (by simp only[mF];rw[Ε (by omega),Ζ (.inr ae)]) (by omega)) (by omega)
 have I:¬((hlen l:Int)<20):=by omega
 have o1:mF l q=if l.length<hlen l\/(l.length<num l 2 2/\q=false) then 3 else if num l 2 2<hlen l\/32768<=num l 6 2 then 4 else 0:=by
  simp only[mF];rw[Ε (by omega),Ε (by rintro(h|h);exact v h;omega)]
 simp only[I,aaV,Β];by_cases c3:l.length<hlen l
 ·have c3':((hlen l:Int)>(s.len:Int)):=by omega
  simp only[c3',aaA,Δ];exact fin 3 w2 x2 (ropen 3 (by rw[o1,Ζ (.inl c3)]) (by omega)) (by omega)
 have c3':¬((hlen l:Int)>(s.len:Int)):=by omega
 simp only[c3',aaV,Β];by_cases c4:l.length<num l 2 2/\q=false
 ·have c4':((num l 2 2:Int)>(s.len:Int)):=by omega
  simp only[c4',aaA,c4.2,aek,Δ];have:=fin 3 w2 x2 (ropen 3 (by rw[o1,Ζ (.inr c4)]) (by omega)) (by omega);rw[c4.2] at this;exact this
 have cont:∀X Y:Prop,(bif !q then (bif decide ((num l 2 2:Int)>(s.len:Int)) then X else Y) else Y)=Y:=by
  intro X Y
  cases q with
  |true=>simp
  |false=>
   have c4':¬((num l 2 2:Int)>(s.len:Int)):=λh=>c4 ⟨by omega,rfl⟩;simp only[c4',aaV,aek,Β,Δ]
 rw[Ε (by rintro(h|h);exact c3 h;exact c4 h)] at o1;simp only[cont];by_cases c5:num l 2 2<hlen l
 ·have c5':((num l 2 2:Int)<(hlen l:Int)):=by omega
  simp only[c5',aaA,Δ];exact fin 4 w2 x2 (ropen 4 (by rw[o1,Ζ (.inl c5)]) (by omega)) (by omega)
 have c5':¬((num l 2 2:Int)<(hlen l:Int)):=by omega
 simp only[c5',aaV,Β];refine zL (QV hs2 (by omega) (by omega) (by omega)) ?_;rintro _ w5 ⟨rfl,f5⟩;rw[show (Int.toNat 6)=6 from rfl,show (Int.toNat 2)=2 from rfl];have x5:=x2.trans f5;by_cases c6:32768<=num l 6 2
 ·have c6':((num l 6 2:Int)>=32768):=by omega
  simp only[c6',aaA,Δ];exact fin 4 w5 x5 (ropen 4 (by rw[o1,Ζ (.inr c6)]) (by omega)) (by omega)
 have c6':¬((num l 6 2:Int)>=32768):=by omega
 simp only[c6',aaV,Β];have ho:mF l q=0:=by rw[o1,Ε (by omega)]
 have hz:=WB ho;have hs5:=hs2.ext f5;have N:(if (s.len:Int)<(num l 2 2:Int) then (s.len:Int) else (num l 2 2:Int))=((min (num l 2 2) l.length:Nat):Int):=by
  split<;>omega
 have hlo:=Si (l:=l);have cut:∀W,Ext w5 W->∀K:fU->Prop,(∀s',h_ W s' ((l.take (num l 2 2)).drop (hlen l))->K s')->kJ s 1 (hlen l:Int) (if (s.len:Int)<(num l 2 2:Int) then (s.len:Int) else (num l 2 2:Int)) K:=by
  intro W hx K hK;rw[N];refine lF (hs5.ext hx) (by omega) (by omega) (by omega) λs' hs' _=>hK s' ?_;rw[Η,Η,Nat.min_comm,<- List.take_take,aji (l:=l.take (num l 2 2)) (by rw[ahP];omega)] at hs';exact hs'
 cases q with
 |true=>
  simp only[ab6,Β];refine cut w5 (Ext.refl _) _ λs6 hs6=> ?_;refine cmS12 (Uo hs5 hs6 (by omega) (by simp;omega) hz.1 hz.2.1 rfl) ?_;rintro _ _ _ _ _ _ _ _ _ op da w7 ⟨⟨rfl,rfl,rfl,rfl,rfl,rfl,rfl,rfl,rfl,hop,J⟩,no,nd,f7⟩;refine Gu rfl rfl λg w8 r8 e8 z8 f8=> ?_;simp only[sx,iE,iJ,abY,adB,r8.cell];have x8:Ext w1 w8:=(x5.trans f7).trans f8;refine gZ (r1.ext x8) rfl rfl λw9 r9 f9 _=> ?_;simp only[abY,adB,fZ,gI,gq,jK,r9.cell];have rd0:qL l true=0:=by unfold qL;rw[ho];simp
  have s1:=f1.size;have s5:=x5.size;refine⟨by rw[rd0],?_,λx hx=>by have:=no x hx;omega,λx hx=>by have:=nd x hx;omega,(f1.trans x8).new (f9 (·=a) rfl) λy hy e=>by omega⟩;unfold V4.read;rw[Ζ rd0];refine⟨rfl,rfl,rfl,rfl,rfl,rfl,rfl,rfl,rfl,?_,?_⟩
  ·exact h_.fr (hop.ext f8) (f9 (·=a) rfl) λx hx _ e=>by have:=no x hx;omega
  ·exact h_.fr (J.ext f8) (f9 (·=a) rfl) λx hx _ e=>by have:=nd x hx;omega
 |false=>
  simp only[aek,Δ];refine lF hs5 (by omega) (by omega) (by omega) λs4 hs4 _=> ?_;rw[show (Int.toNat 0)=0 from rfl,alg,Η] at hs4;refine gu λd w4 r4 e4 z4 f4=> ?_;refine cmS0 (adf (Ee r4 (hs4.ext f4)) (by simp) (by intro q hq;simp only[aiB] at hq;subst hq;simp only[ahP];omega)) ?_;rintro _ w6 ⟨rfl,f6⟩;rw[Oa];have x6:Ext w5 w6:=f4.trans f6;by_cases hr:fold (tot (l.take (hlen l)))=65535
  ·simp only[hr,aaA,ab6,Β];refine cut w6 x6 _ λs6 hs6=> ?_;refine cmS12 (Uo (hs5.ext x6) hs6 (by omega) (by simp;omega) hz.1 hz.2.1 rfl) ?_;rintro _ _ _ _ _ _ _ _ _ op da w7 ⟨⟨rfl,rfl,rfl,rfl,rfl,rfl,rfl,rfl,rfl,hop,J⟩,no,nd,f7⟩;have O:=hop.1;have R:=J.1;refine Gu rfl rfl λg w8 r8 e8 z8 f8=> ?_;simp only[sx,iE,iJ,abY,adB,r8.cell];refine cmS1 (WL (field l) (o:=op) (d:=da) O R (by omega) (by omega)) ?_;rintro _ w9 ⟨rfl,f9⟩;have r9:=r8.ext f9;have x9:Ext w1 w9:=(((x5.trans x6).trans f7).trans f8).trans f9;have s1:=f1.size;have s6:=(x5.trans x6).size;have rd:qL l false=if (field l).check≠0 then 4 else 0:=by
    unfold qL;rw[ho,hr];simp
   by_cases hc:(field l).check=0
   ·simp only[hc,show ((0:Int) !=0)=false from rfl,Β,abY,adB,fZ,gI,gq,jK,r9.cell];refine gZ (r1.ext x9) rfl rfl λw10 af f10 _=> ?_;simp only[abY,adB,fZ,gI,gq,jK,af.cell];have rd0:qL l false=0:=by rw[rd,hc];simp
    refine⟨by rw[rd0],?_,λx hx=>by have:=no x hx;omega,λx hx=>by have:=nd x hx;omega,(f1.trans x9).new (f10 (·=a) rfl) λy hy e=>by omega⟩;unfold V4.read;rw[Ζ rd0];refine⟨rfl,rfl,rfl,rfl,rfl,rfl,rfl,rfl,rfl,?_,?_⟩
    ·exact h_.fr ((hop.ext f8).ext f9) (f10 (·=a) rfl) λx hx _ e=>by have:=no x hx;omega
    ·exact h_.fr ((J.ext f8).ext f9) (f10 (·=a) rfl) λx hx _ e=>by have:=nd x hx;omega
   ·have hc':((field l).check !=0)=true:=by simpa using hc
    simp only[hc',Δ];exact fin 4 w9 x9 (by rw[rd,Ζ hc]) (by omega)
  ·simp only[hr,aaV,aek,Δ];exact fin 5 w6 (x5.trans x6) (by unfold qL;rw[ho];simp[hr]) (by omega)
end Go.Proofs.RN
end
section
namespace Go.Proofs.RN
open Gp Gp.V4 Go.Proofs.VN
theorem QU (a b:Int) (ha:0<=a/\a<2^62) (hb:0<b/\b<=2^40) (w:θ):vI a b w λr w'=>r=a % b/\w'=w:=by
 apply Yn;refine⟨by omega,by omega,?_,rfl⟩;rw[aj6 ha.1];have h1:=Int.emod_nonneg a (b:=b) (by omega);have h2:=Int.emod_lt_of_pos a hb.1;rw[Α,aj6 (by omega),Int.add_emod_right,Int.emod_emod]
theorem abR {w:θ} {d:fU} {l:List UInt8} (hd:h_ w d l) (hl:l.length<=65527) {src dst:Nat} (h1:src<65536) (h2:dst<65536) (b:Bool) {s:Nat} (hs:s<65536):
  xP (src:Int) (dst:Int) b d (s:Int) w λr w'=>h_ w' r (jX 2 src++jX 2 dst++jX 2 (8+l.length)++jX 2 s++l)/\Ext w w':=by
 apply TY;have dl:=hd.1;have put:∀{W:θ} {t:fU} {l:List UInt8} (n k:Nat),h_ W t l->l.length<=100->iZ (n:Int) (k:Int)->n<2^62->jd t (n:Int) (k:Int) W λr w'=>Buf w' r (bytesV (l++jX k n))/\Ext W w'/\(∀b,fU.at r b->W.heap.size<=b):=by
  intro W t l n k h1 h2 h3 h4;refine cmS2 (Jq h1 (by omega) (n:Int) (k:Int) (by omega)) ?_;rintro r w' ⟨h5,h6,h7⟩;refine⟨?_,h6,h7⟩;simpa [j_,h3] using h5
 have fit:∀n:Nat,n<65536->iZ (n:Int) ((2:Nat):Int):=λn h=>⟨⟨by omega,by omega⟩,by omega,by simp;omega⟩;refine gu λa w1 r1 e1 z1 f1=> ?_;have r1d:=r1.drew;simp only[sx,iE,iJ,abY,adB,r1d.cell];refine cmS2 (put src 2 h_.nil (by simp) (fit _ h1) (by omega)) ?_;rintro t2 w2 ⟨b2,f2,n2⟩;simp only[sx,iE,iJ,aeA,abY,adB,(r1d.ext f2).cell];refine cmS2 (put dst 2 (h_.iG b2) (by simp[iQ]) (fit _ h2) (by omega)) ?_;rintro t3 w3 ⟨b3,f3,n3⟩;have r3:=(r1d.ext f2).ext f3;simp only[abY,adB,fZ,gI,r3.cell];rw[Α,show (8+(d.len:Int))=((8+l.length:Nat):Int) by omega];refine cmS2 (put (8+l.length) 2 (h_.iG b3) (by simp[iQ]) (fit _ (by omega)) (by omega)) ?_;rintro t4 w4 ⟨b4,f4,n4⟩;refine cmS2 (put s 2 (h_.iG b4) (by simp[iQ]) (fit _ hs) (by omega)) ?_;rintro t5 w5 ⟨b5,f5,n5⟩;have r5:=(r3.ext f4).ext f5;simp only[abY,adB,fZ,gI,r5.cell];have x4:Ext w w4:=(f1.trans (Ext.drew _)).trans ((f2.trans f3).trans f4);have z4:=x4.size;refine ji b5 (hd.ext (x4.trans f5)) (by simp[iQ];omega) λt6 w6 b6 f6 n6 _=> ?_;exact⟨h_.iG (by simpa using b6),(x4.trans f5).new f6 λy hy h=>by have:=n5 y h;omega⟩
end Go.Proofs.RN
end
section
namespace Go.Proofs.RN
open Gp Gp.V4 Go.Proofs Go.Proofs.VN
theorem IQ (l:List UInt8) (n k:Nat) (h0:1<=k) (h1:k<=4) (hn:n<256^k):j_ l (n:Int) (k:Int)=l++jX k n:=by
 unfold j_;rw[Ζ,Η,Η];refine⟨⟨by omega,by omega⟩,by omega,?_⟩;rw[Η]
 exact_mod_cast hn
def psB (a b n:Nat):List UInt8:=jX 4 a++jX 4 b++[0]++jX 1 17++jX 2 n
theorem agL (a b n:Nat):(psB a b n).length=12:=by simp[psB,iQ]
theorem aaW {a b n:Nat} (ha:a<4294967296) (hb:b<4294967296) (hn:n<65536):AN.yh (a:Int) (b:Int) 17 (n:Int)=psB a b n:=by
 unfold AN.yh;have e1:((a:Int) % 4294967296)=(a:Int):=by omega
 have e2:((b:Int) % 4294967296)=(b:Int):=by omega
 have e3:((17:Int) % 256)=17:=by omega
 have e4:((n:Int) % 65536)=(n:Int):=by omega
 rw[e1,e2,e3,e4];have p:∀(l:List UInt8) (n k:Nat),1<=k->k<=4->n<256^k->Proofs.j_ l (n:Int) (k:Int)=l++jX k n:=IQ;have q1:=p [] a 4 (by omega) (by omega) ha;have q2:=p ([]++jX 4 a) b 4 (by omega) (by omega) hb;have q3:=p ([]++jX 4 a++jX 4 b) 17 2 (by omega) (by omega) (by omega);have q4:=p ([]++jX 4 a++jX 4 b++jX 2 17) n 2 (by omega) (by omega) hn;rw[show ((4:Nat):Int)=4 from rfl] at q1 q2;rw[show ((2:Nat):Int)=2 from rfl] at q3 q4;rw[show ((17:Nat):Int)=17 from rfl] at q3;rw[q1,q2,q3,q4];simp[psB,jX]
theorem afi {w:θ} {a b z:Nat} (h1:a<4294967296) (h2:b<4294967296) (h4:z<65536):
  AL (a:Int) (b:Int) 17 (z:Int) w λr w'=>h_ w' r (psB a b z)/\Ext w w':=by
 apply Qy;have e1:((a:Int) % 4294967296)=(a:Int):=by omega
 have e2:((b:Int) % 4294967296)=(b:Int):=by omega
 have e3:((17:Int) % 256)=17:=by omega
 have e4:((z:Int) % 65536)=(z:Int):=by omega
 refine cmS1 (QU _ _ (by omega) (by omega) w) ?_;rintro _ w0 ⟨rfl,hw⟩;subst hw;rw[e1];refine cmS2 (Jq h_.nil (by simp) _ 4 (by omega)) ?_;rintro t1 w1 ⟨b1,f1,n1⟩;refine cmS1 (QU _ _ (by omega) (by omega) w1) ?_;rintro _ w2 ⟨rfl,hw⟩;subst hw;have q1:=IQ [] a 4 (by omega) (by omega) h1;rw[show ((4:Nat):Int)=4 from rfl] at q1;rw[q1,akC] at b1;rw[e2];refine cmS2 (Jq (h_.iG b1) (by simp[iQ]) _ 4 (by omega)) ?_;rintro t2 w2 ⟨b2,f2,n2⟩;have q2:=IQ (jX 4 a) b 4 (by omega) (by omega) h2;rw[show ((4:Nat):Int)=4 from rfl] at q2;rw[q2] at b2;refine gu λc w3 r3 e3 z3 f3=> ?_;have b3:h_ w3 ⟨some ⟨c,0,none⟩,1,1⟩ [0]:=h_.iG (h_.row (l:=[0]) (by simpa [bytesV] using r3));refine ji (b2.ext f3) b3 (by simp[iQ]) λt4 w4 b4 f4 n4 _=> ?_;have z1':=f1.size;have x4:Ext w0 w4:=(f1.trans (f2.trans f3)).new f4 λy hy h=>by have:=n2 y h;omega
 refine cmS1 (QU _ _ (by omega) (by omega) w4) ?_;rintro _ w5 ⟨rfl,hw⟩;subst hw;refine cmS2 (Jq (h_.iG b4) (by simp[iQ]) _ 1 (by omega)) ?_;rintro t5 w5 ⟨b5,f5,n5⟩;have q5:=IQ (jX 4 a++jX 4 b++[0]) 17 1 (by omega) (by omega) (by omega);rw[show ((1:Nat):Int)=1 from rfl,show ((17:Nat):Int)=17 from rfl] at q5;rw[show ((17:Int) % 256)=17 from by decide,q5] at b5;refine cmS1 (QU _ _ (by omega) (by omega) w5) ?_;rintro _ w6 ⟨rfl,hw⟩;subst hw;rw[e4];refine cmS2 (Jq (h_.iG b5) (by simp[iQ]) _ 2 (by omega)) ?_;rintro t6 w6 ⟨b6,f6,n6⟩;have q6:=IQ (jX 4 a++jX 4 b++[0]++jX 1 17) z 2 (by omega) (by omega) h4;rw[show ((2:Nat):Int)=2 from rfl] at q6;rw[q6] at b6;exact⟨h_.iG b6,(x4.trans f5).trans f6⟩
def UY (src dst s:Nat) (l:List UInt8):List UInt8:=jX 2 src++jX 2 dst++jX 2 (8+l.length)++jX 2 s++l
def YL (a b src dst:Nat) (l:List UInt8):Nat:=if fold (tot (psB a b (8+l.length))+tot (UY src dst 0 l))=65535 then 65535 else 65535 - fold (tot (psB a b (8+l.length))+tot (UY src dst 0 l))
def ϥ (a b src dst:Nat) (l:List UInt8):List UInt8:=UY src dst (YL a b src dst l) l
theorem zM (src dst s:Nat) (l:List UInt8):(UY src dst s l).length=8+l.length:=by simp[UY,iQ];omega
theorem abN (a b src dst:Nat) (l:List UInt8):1<=YL a b src dst l/\YL a b src dst l<=65535:=by
 unfold YL;split
 ·omega
 ·have:=Nc (tot (psB a b (8+l.length))+tot (UY src dst 0 l));omega
theorem Xw (src dst s:Nat) (l:List UInt8):UY src dst s l=UInt8.ofNat (src / 256)::UInt8.ofNat src::UInt8.ofNat (dst / 256)::UInt8.ofNat dst::UInt8.ofNat ((8+l.length) / 256)::UInt8.ofNat (8+l.length)::UInt8.ofNat (s / 256)::UInt8.ofNat s::l:=by
 simp[UY,jX]
theorem ag0 {src dst s:Nat} (l:List UInt8) (hs:s<65536):tot (UY src dst s l)=tot (UY src dst 0 l)+s:=by
 rw[Xw,Xw];simp only[tot,alo];omega
theorem adu {src dst s:Nat} {l:List UInt8} (h1:src<65536) (h2:dst<65536) (h3:8+l.length<65536) (h4:s<65536):
  VN.wordAt (UY src dst s l) 0=src/\VN.wordAt (UY src dst s l) 2=dst/\VN.wordAt (UY src dst s l) 4=8+l.length/\VN.wordAt (UY src dst s l) 6=s:=by
 rw[Xw];unfold VN.wordAt;simp only[d_,ajY,alo];omega
theorem afQ {a b src dst:Nat} {l:List UInt8} (ha:a<4294967296) (hb:b<4294967296) (h1:src<65536) (h2:dst<65536) (h3:l.length<=60000):
  AN.VQ (a:Int) (b:Int) (ϥ a b src dst l)/\VN.wordAt (ϥ a b src dst l) 0=src/\VN.wordAt (ϥ a b src dst l) 2=dst/\(ϥ a b src dst l).drop 8=l:=by
 obtain⟨s1,s2⟩:=abN a b src dst l;obtain⟨w0,w2,w4,w6⟩:=adu (l:=l) (s:=YL a b src dst l) h1 h2 (by omega) (by omega);have hlen:=zM src dst (YL a b src dst l) l;unfold ϥ;refine⟨⟨by omega,by rw[w4,hlen],by omega,?_⟩,w0,w2,by rw[Xw];rfl⟩;rw[hlen,aaW ha hb (by omega),ag0 l (by omega)];have h:=V9 (tot (psB a b (8+l.length))+tot (UY src dst 0 l));unfold YL;split
 ·rename_i h5;unfold fold at h5 ⊢;split at h5
  ·omega
  ·rw[Ε (by omega)];omega
 ·rw[<- akr];exact h
theorem ag3 {w:θ} {d:fU} {l:List UInt8} (hd:h_ w d l) (hl:l.length<=60000) {a b src dst:Nat} (ha:a<4294967296) (hb:b<4294967296) (h1:src<65536) (h2:dst<65536):
  Df (a:Int) (b:Int) (src:Int) (dst:Int) false d w λr e w'=>e=0/\h_ w' r (ϥ a b src dst l)/\Ext w w':=by
 apply TV;have dl:=hd.1;refine gu λc w1 r1 e1 z1 f1=> ?_;have fit:∀n:Nat,n<65536->iZ (n:Int) 2:=λn h=>⟨⟨by omega,by omega⟩,by omega,by simp;omega⟩;have rd:∀{W:θ} {Q:Int->Int->Bool->fU->Prop},Row W c [.int .i64 (src:Int),.int .i64 (dst:Int),.bool false,.slice d.a d.len d.cap]->Q (src:Int) (dst:Int) false d->Ld ν W (Addr.add ⟨c,0,none⟩ 0) λx6=>Ld ν W (Addr.add ⟨c,0,none⟩ 1) λx7=>Ld .bool W (Addr.add ⟨c,0,none⟩ 2) λx8=>Ld .slice W (Addr.add ⟨c,0,none⟩ 3) λx9=>Q x6 x7 x8 x9:=
  λhr hq=>Ld_i 0 (src:Int) hr (Ld_i 1 (dst:Int) hr (Ld_b 2 false hr (Ld_s 3 d hr hq)))
 refine rd r1 ?_;have u:Dh (src:Int) (dst:Int) false d w1 λr w'=>r=0/\Ext w1 w':=by
  apply TW;refine gu λc w2 r2 e2 z2 f2=> ?_;refine Ld_i 0 (src:Int) r2 ?_;refine cmS0 (Bg _ _ _) ?_;rintro r w3 ⟨hr,hw⟩;rw[ab9 (fit _ h1)] at hr;subst hr hw;rw[ab6,Β];refine Ld_i 1 (dst:Int) r2 ?_;refine cmS0 (Bg _ _ _) ?_;rintro r w3 ⟨hr,hw⟩;rw[ab9 (fit _ h2)] at hr;subst hr hw;rw[ab6,Β];refine Ld_s 3 d r2 ?_;have:¬((d.len:Int)>65527):=by omega
  rw[abW this,Β];exact⟨rfl,f2⟩
 refine cmS1 u ?_;rintro _ w2 ⟨rfl,f2⟩;have r2:=r1.ext f2;rw[show ((0:Int) !=0)=false from rfl,Β];refine rd r2 ?_;refine cmS2 (abR (s:=0) ((hd.ext f1).ext f2) (by omega) h1 h2 false (by omega)) ?_;rintro t3 w3 ⟨b3,f3⟩;have l3:=b3.1;simp only[adH,iQ] at l3;refine Ld_b 2 false (r2.ext f3) ?_;rw[Β];rw[show ((t3.len:Nat):Int)=((8+l.length:Nat):Int) by omega];refine cmS2 (afi ha hb (by omega)) ?_;rintro t4 w4 ⟨b4,f4⟩;refine gu λg w5 r5 e5 z5 f5=> ?_;have hp:Parts w5 ⟨some ⟨g,0,none⟩,2,2⟩ [(t4,psB a b (8+l.length)),(t3,UY src dst 0 l)]:=by
  refine⟨rfl,λi p hi=> ?_⟩
  match i with
  |0=>
   simp at hi;subst hi;exact⟨g,0,rfl,by rw[r5.cell];rfl,b4.ext f5⟩
  |1=>
   simp at hi;subst hi;exact⟨g,0,rfl,by rw[r5.cell];rfl,(b3.ext f4).ext f5⟩
  |i+2=>simp at hi
 refine cmS1 (afg hp (by simp) (by
  intro q hq;simp only[afm,ajp,ajV] at hq;rcases hq with rfl|rfl
  ·simp only[agL];omega
  ·simp only[zM];omega)) ?_
 rintro _ w6 ⟨rfl,f6⟩;have y6:=f3.trans (f4.trans (f5.trans f6));have x6:=(f1.trans f2).trans y6;have ht:qN [(t4,psB a b (8+l.length)),(t3,UY src dst 0 l)]=tot (psB a b (8+l.length))+tot (UY src dst 0 l):=by simp[qN]
 rw[ht];obtain⟨s1,s2⟩:=abN a b src dst l;intro I;have hJ:I ((YL a b src dst l:Nat):Int):=by
  simp only[I];refine rd (r2.ext y6) ?_;refine cmS2 (abR (d:=d) (hd.ext x6) (by omega) h1 h2 false (by omega)) ?_;rintro t7 w7 ⟨b7,f7⟩;exact⟨by trivial,b7,x6.trans f7⟩
 clear_value I;have hfl:=Nc (tot (psB a b (8+l.length))+tot (UY src dst 0 l));unfold YL at hJ;by_cases h5:fold (tot (psB a b (8+l.length))+tot (UY src dst 0 l))=65535
 ·rw[Ζ h5] at hJ;rw[h5];exact hJ
 ·rw[Ε h5] at hJ;rw[show (((65535 - fold (tot (psB a b (8+l.length))+tot (UY src dst 0 l)):Nat):Int)==0)=false by rw[akJ];omega,Β];exact hJ
end Go.Proofs.RN
end
section
namespace Go.Proofs.AN
open Gp Gp.V4 Go.Proofs Go.Proofs.VN
open Gp.Bind (In64)
variable {w w':θ}
theorem ai3 {w:θ} {ad:Addr} {x0 x1 x2 x3 x4 x5 x6:Int} {x7 x8:Bool} {x9 h:fU} {Q:Int->Int->Int->Int->Int->Int->Int->Bool->Bool->fU->fU->Prop}
  (hc:∀j,j<11->w.cell? (ad.add j)=(gQ x0 x1 x2 x3 x4 x5 x6 x7 x8 x9 h)[j]?) (hq:Q x0 x1 x2 x3 x4 x5 x6 x7 x8 x9 h):iC w ad Q:=by
 unfold iC;exact⟨x0,hc 0 (by omega),x1,hc 1 (by omega),x2,hc 2 (by omega),x3,hc 3 (by omega),x4,hc 4 (by omega),x5,hc 5 (by omega),x6,hc 6 (by omega),x7,hc 7 (by omega),x8,hc 8 (by omega),x9,hc 9 (by omega),h,hc 10 (by omega),hq⟩
theorem ahm {w:θ} {ad:Addr} {x0 x1 x2:Int} {x3:fU} {x4 x5 x6 x7 x8 x9 h:Int} {u I:Bool} {J N:fU} {O R U Y Z aa ab:Int} {Q:Int->Int->Int->fU->Int->Int->Int->Int->Int->Int->Int->Bool->Bool->fU->fU->Int->Int->Int->Int->Int->Int->Int->Prop}
  (hc:∀j,j<22->w.cell? (ad.add j)=(GI x0 x1 x2 x3 x4 x5 x6 x7 x8 x9 h u I J N O R U Y Z aa ab)[j]?) (hq:Q x0 x1 x2 x3 x4 x5 x6 x7 x8 x9 h u I J N O R U Y Z aa ab):MC w ad Q:=by
 unfold MC;exact⟨x0,hc 0 (by omega),x1,hc 1 (by omega),x2,hc 2 (by omega),x3,hc 3 (by omega),x4,hc 4 (by omega),x5,hc 5 (by omega),x6,hc 6 (by omega),x7,hc 7 (by omega),x8,hc 8 (by omega),x9,hc 9 (by omega),h,hc 10 (by omega),u,hc 11 (by omega),I,hc 12 (by omega),J,hc 13 (by omega),N,hc 14 (by omega),O,hc 15 (by omega),R,hc 16 (by omega),U,hc 17 (by omega),Y,hc 18 (by omega),Z,hc 19 (by omega),aa,hc 20 (by omega),ab,hc 21 (by omega),hq⟩
def uz (a b src dst ttl:Nat) (l:List UInt8):kZ:=⟨0,0,0,ttl,17,a,b,false,false,[],RN.ϥ a b src dst l⟩
theorem Ox {a b src dst ttl:Nat} {l:List UInt8} (ha:a<4294967296) (hb:b<4294967296) (h3:ttl<256) (hl:l.length<=60000):(uz a b src dst ttl l).check=0:=by
 have lm:(RN.ϥ a b src dst l).length=8+l.length:=RN.zM _ _ _ _;have fine:(uz a b src dst ttl l).fine:=
  ⟨⟨⟨⟨by omega,by omega⟩,by simp[uz],by simp[uz]⟩,⟨⟨by omega,by omega⟩,by simp[uz],by simp[uz];omega⟩,⟨⟨by omega,by omega⟩,by simp[uz],by simp[uz]⟩,⟨⟨by omega,by omega⟩,by simp[uz],by simp[uz]⟩⟩,
   ⟨⟨by simp[uz],by simp[uz];omega⟩,⟨by simp[uz],by simp[uz];omega⟩⟩,⟨by simp[uz],by simp[uz],by simp[uz],by simp[uz]⟩,by simp[uz],by simp[uz]⟩
 have sh:(uz a b src dst ttl l).short:=⟨by simp[uz];omega,by simp[uz];omega⟩;unfold kZ.check;rw[Ζ fine,Ζ sh]
theorem RP {a b src dst ttl:Nat} {l:List UInt8} (ha:a<4294967296) (hb:b<4294967296) (h1:src<65536) (h2:dst<65536) (h3:ttl<256) (hl:l.length<=60000):
  DR (uz a b src dst ttl l)/\wordAt (uz a b src dst ttl l).data 0=src/\wordAt (uz a b src dst ttl l).data 2=dst/\(uz a b src dst ttl l).data.drop 8=l/\(uz a b src dst ttl l).data.length=8+l.length:=by
 obtain⟨q1,q2,q3,q4⟩:=RN.afQ (l:=l) ha hb h1 h2 hl;exact⟨⟨rfl,Ox ha hb h3 hl,rfl,Int.le_refl _,q1⟩,q2,q3,q4,RN.zM _ _ _ _⟩
theorem Xv {d:fU} {l:List UInt8} (hd:h_ w d l) (hl:l.length<=60000) {a b src dst ttl:Nat} (ha:a<4294967296) (hb:b<4294967296) (h1:src<65536) (h2:dst<65536) (h3:ttl<256):
  jP (a:Int) (b:Int) (src:Int) (dst:Int) (ttl:Int) d w λr w'=>h_ w' r (uz a b src dst ttl l).bytes/\Ext w w':=by
 apply NM;have lm:(RN.ϥ a b src dst l).length=8+l.length:=RN.zM _ _ _ _;refine cmS7 (RN.ag3 hd hl ha hb h1 h2) ?_;rintro r _ w1 ⟨rfl,hm,f1⟩;refine cmS7 (RN.ac7 (uz a b src dst ttl l) (o:=⟨none,0,0⟩) (d:=r) h_.nil hm (by simp[uz]) (by show (RN.ϥ a b src dst l).length<=2^46;omega)) ?_;rintro t e w2 ⟨he,_,hb2,f2,_⟩;exact⟨h_.iG (hb2 (Ox ha hb h3 hl)),f1.trans f2⟩
theorem afP {a b src dst ttl:Nat} {l:List UInt8}:(uz a b src dst ttl l).bytes.length=28+l.length:=by
 have lm:(RN.ϥ a b src dst l).length=8+l.length:=RN.zM _ _ _ _;unfold kZ.bytes;rw[adH,Nj];show _+(RN.ϥ a b src dst l).length=_;rw[lm];show 20+0+_=_;omega
abbrev ahz (w w':θ) (q:kZ) (o d:fU):Prop:=h_ w' o q.opts/\h_ w' d q.data/\(∀x,o.a=some x->w.heap.size<=x.block)/\∀x,d.a=some x->w.heap.size<=x.block
theorem WO {s:fU} {l:List UInt8} (hs:h_ w s l) (hl:l.length<=2^40) {K:Int->Int->Int->Int->Int->Int->Int->Bool->Bool->fU->fU->Int->b_}
  (hK:∀o d w',Ext w w'->ahz w w' (V4.read l false) o d->K (V4.read l false).tos (V4.read l false).id (V4.read l false).off (V4.read l false).ttl (V4.read l false).proto (V4.read l false).src (V4.read l false).dst (V4.read l false).df (V4.read l false).mf o d (qL l false) w'):
  xO s w K:=by
 apply TU;refine gu λa w1 r1 e1 z1 f1=> ?_;refine cmS11 (RN.afj (hs.ext f1) hl false) ?_;rintro t i o l' p s' d df mf op da e w2 ⟨rfl,⟨rfl,rfl,rfl,rfl,rfl,rfl,rfl,rfl,rfl,b1,b2⟩,n1,n2,f2⟩;have r2:=r1.ext f2;refine StN_f r2 λw3 r3 f3 z3=> ?_;refine lK r3 ?_;refine hK _ _ w3 ((f1.trans f2).nw f3) ⟨b1.fr f3 λad ha h0 e=>jW r2 (by simp) b1 ha h0 e,b2.fr f3 λad ha h0 e=>jW r2 (by simp) b2 ha h0 e,λx hx=> ?_,λx hx=> ?_⟩
 ·have:=n1 x hx;omega
 ·have:=n2 x hx;omega
theorem O9 {s:fU} {l:List UInt8} (hs:h_ w s l) (hl:l.length<=2^40) {K:Int->Int->Int->Int->Int->Int->Int->Bool->Bool->fU->fU->b_}
  (hK:∀o d w',Ext w w'->ahz w w' (V4.read l false) o d->K (V4.read l false).tos (V4.read l false).id (V4.read l false).off (V4.read l false).ttl (V4.read l false).proto (V4.read l false).src (V4.read l false).dst (V4.read l false).df (V4.read l false).mf o d w'):
  kL s w K:=by
 apply Qu;refine gu λa w1 r1 e1 z1 f1=> ?_;refine WO (hs.ext f1) hl λo d w2 f2 ⟨b1,b2,n1,n2⟩=> ?_;have z2:=f2.size;refine gu λb w3 r3 e3 z3 f3=> ?_;refine StN_f r3 λw4 r4 f4 z4=> ?_;have x4:Ext w2 w4:=f3.nw f4;refine lK r4 ?_;have h:=(r1.ext f2).ext x4;refine StN_f h λw5 r5 f5 z5=> ?_;refine lK r5 ?_;have b1':=b1.ext x4;have b2':=b2.ext x4;refine hK _ _ w5 (((f1.trans f2).trans x4).nw f5) ⟨b1'.fr f5 λad ha h0 e=>jW h (by simp) b1' ha h0 e,b2'.fr f5 λad ha h0 e=>jW h (by simp) b2' ha h0 e,λx hx=> ?_,λx hx=> ?_⟩
 ·have:=n1 x hx;omega
 ·have:=n2 x hx;omega
theorem RQ {a b src dst ttl:Nat} (ha:a<4294967296) (hb:b<4294967296) (h1:src<65536) (h2:dst<65536) (h3:ttl<256) {s:fU} (hs:h_ w s (uz a b src dst ttl []).bytes) {K:Int->Int->Int->Int->Int->Int->Int->Bool->Bool->fU->fU->b_}
  (hK:∀o d w',Ext w w'->ahz w w' (uz a b src dst ttl []) o d->K (uz a b src dst ttl []).tos (uz a b src dst ttl []).id (uz a b src dst ttl []).off (uz a b src dst ttl []).ttl (uz a b src dst ttl []).proto (uz a b src dst ttl []).src (uz a b src dst ttl []).dst (uz a b src dst ttl []).df (uz a b src dst ttl []).mf o d w'):
  kL s w K:=by
 have hc:=Ox (src:=src) (dst:=dst) (l:=[]) ha hb h3 (by simp);obtain⟨q1,q2,_⟩:=aaX hc [];rw[ali] at q1 q2;have h:V4.read (uz a b src dst ttl []).bytes false=uz a b src dst ttl []:=by unfold V4.read;rw[Ζ q1,q2]
 refine O9 hs (by rw[afP];simp) ?_;rw[h];exact hK
theorem afr {A0 A1 A2:Int} {s:fU} {l:List UInt8} (q:kZ) {o d:fU} {B0 B1 B2 B3 B4 B5 B6:Int} (hs:h_ w s l) (hl:l.length<=2^40) (ho:h_ w o q.opts) (hd:h_ w d q.data) (h1:q.opts.length<=2^40) (h2:q.data.length<=2^40)
  {K:Int->Int->Int->Int->Int->Int->Int->Bool->Bool->fU->fU->b_}
  (hK:∀(p:kZ) o' d' w',Ext w w'->h_ w' o' p.opts->h_ w' d' p.data->p.opts.length<=2^40->p.data.length<=2^40->(o'=o/\p=q\/∀x,o'.a=some x->w.heap.size<=x.block)->(d'=d/\p=q\/∀x,d'.a=some x->w.heap.size<=x.block)->K p.tos p.id p.off p.ttl p.proto p.src p.dst p.df p.mf o' d' w'):
  sN A0 A1 A2 s q.tos q.id q.off q.ttl q.proto q.src q.dst q.df q.mf o d B0 B1 B2 B3 B4 B5 B6 w K:=by
 apply NJ;refine gu λa w1 r1 e1 z1 f1=> ?_;refine gu λb w2 r2 e2 z2 f2=> ?_;have x2:=f1.trans f2;have u:=r1.ext f2;have za:=f1.size;have zb:=f2.size;refine Ld_s 3 s u ?_;refine WO (hs.ext x2) hl λo' d' w3 f3 ⟨b1,b2,n1,n2⟩=> ?_;have z3:=f3.size;refine gu λc w4 r4 e4 z4 f4=> ?_;refine StN_f r4 λw5 r5 f5 z5=> ?_;have x5:Ext w3 w5:=f4.nw f5;have h:=(r2.ext f3).ext x5;have I:=(u.ext f3).ext x5;have y5:=(x2.trans f3).trans x5;have hrl:=ϊ l false
 cases (qL l false==0)
 ·rw[Β];have hc:∀j,j<11->w5.cell? (Addr.add (Addr.add ⟨a,0,none⟩ 4) j)=(gQ q.tos q.id q.off q.ttl q.proto q.src q.dst q.df q.mf o d)[j]? :=by
   intro j hj;rw[gJ,gJ,I.cell]
   match j,hj with
   |0,_=>rfl
   |1,_=>rfl
   |2,_=>rfl
   |3,_=>rfl
   |4,_=>rfl
   |5,_=>rfl
   |6,_=>rfl
   |7,_=>rfl
   |8,_=>rfl
   |9,_=>rfl
   |10,_=>rfl
  refine ai3 hc ?_;refine StN_f h λw6 r6 f6 z6=> ?_;refine lK r6 ?_;exact hK q o d w6 (y5.nw f6) ((ho.ext y5).fr f6 λad ha h0 e=>jW h (by simp) (ho.ext y5) ha h0 e) ((hd.ext y5).fr f6 λad ha h0 e=>jW h (by simp) (hd.ext y5) ha h0 e) h1 h2 (.inl ⟨rfl,rfl⟩) (.inl ⟨rfl,rfl⟩)
 ·rw[Δ];refine lK r5 ?_;refine StN_f h λw6 r6 f6 z6=> ?_;refine lK r6 ?_;have b1':=b1.ext x5;have b2':=b2.ext x5;refine hK (V4.read l false) o' d' w6 (y5.nw f6) (b1'.fr f6 λad ha h0 e=>jW h (by simp) b1' ha h0 e) (b2'.fr f6 λad ha h0 e=>jW h (by simp) b2' ha h0 e) (by omega) (by omega) (.inr λx hx=> ?_) (.inr λx hx=> ?_)
  ·have:=n1 x hx;omega
  ·have:=n2 x hx;omega
end Go.Proofs.AN
end
