import Derived.Test.YtlpncoeijhpddaaGreatDoorW16
import Derived.Test.YtlpncoeijhpddaaGreatDoorW14
import Derived.Test.YtlpncoeijhpddaaGreatDoorW10
import Derived.Test.YtlpncoeijhpddaaGreatDoorW3
import Derived.Test.YtlpncoeijhpddaaGreatDoorRows
import GoSem.ClaimGoes
import Derived.KernelRfl
set_option maxRecDepth 100000
set_option maxHeartbeats 4000000
section
namespace Go.Proofs.EN
open Gp Gp.V4 Go.Proofs Go.Proofs.AN Go.Proofs.VN
open Gp.Bind (Bnd Slots live GoodB freeN getS In64)
open Gp.Ses (Ses)
variable {w w':θ} {a:EA} {c:Cf} {e:ES}
structure uS (e e':ES):Prop where
 S:e'.S=e.S
 now:e'.now=e.now
 tn:e'.tn<=e.tn+1
 un:∀(k:Nat) (s:Ses),e'.SS[k]? =some (some s)->e.SS[k]? =some (some s)\/∃(j:Nat) (b:Bnd),s.bd=(j:Int)/\e.S[j]? =some (some b)/\b.pr=6
theorem af0 (h:lS w a c e) (hg:Gd c e) (hm:CfM c) (ht:e.tn<2^62) {bd ra rp st:Int} {so:Option Int} (p:kZ) (u:e.M (Bind.keyS [bd,ra,rp])=so) (hb:∃(j:Nat) (b:Bnd),bd=(j:Int)/\e.S[j]? =some (some b)/\b.pr=p.proto) (i3:∀n∈[bd,ra,rp],In64 n)
  {o d:gG} (ho:iH w o p.opts) (hd:iH w d p.data) (h1:p.opts.length<=2^40) (h2:p.data.length<=2^40) {K:Int->b_}
  (hE:∀r w',Ext w w'->p.proto=6->r≠0->K r w')
  (hK:∀w' a' e',ig w w' (iW a)->lS w' a' c e'->Gd c e'->Grow a a' w.heap.size->a'.x=a.x->uS e e'->(p.proto≠6->Ext w w')->K 0 w'):
  uY (some ⟨a.x,0,none⟩) bd true (so.getD 0) so.isSome st ra rp p.tos p.id p.off p.ttl p.proto p.src p.dst p.df p.mf o d w K:=by
 apply Jq;refine gU λb7 w1 r1 e1 z1 f1=> ?_;refine gU λb8 w2 r2 e2 z2 f2=> ?_;have x2:=f1.trans f2;have r1:=r1.ext f2;refine iF r2 rfl ?_;by_cases hp:p.proto=6;rotate_left
 ·rw[show (p.proto !=6)=true by simp_all,abt];exact hK w2 a e (x2 _) (h.ext x2) hg (Grow.refl a _) rfl ⟨rfl,rfl,by omega,λ_ _ h=> .inl h⟩ λ_=>x2
 rw[show (p.proto !=6)=false by rw[hp];rfl,aaf];refine rd7 r1 (lu r2 ?_);refine cmS3 (step_ok _ _ _ _ _ _ _ p (ho.ext x2) (hd.ext x2) h1 h2 false) ?_;rintro nx ok w3 ⟨_,f3⟩;have r3:=r1.ext f3;have r4:=r2.ext f3;have x3:=x2.trans f3
 cases ok
 ·rw[afk,abt];exact hE 8 w3 x3 hp (by decide)
 rw[adt,aaf];intro J;have hJ:∀q W,Ext w3 W->(q=false->so.isSome=true\/((Gp.Ses.live 0 e.SS).length:Int)<c.ns)->J q W:=by
  intro q W hx hq;simp -zeta only[J]
  cases q
  rotate_left
  ·rw[abt];exact hE 6 W (x3.trans hx) hp (by decide)
  rw[aaf];refine rd7 (r3.ext hx) ?_;refine iF (r4.ext hx) rfl ?_;have zx:=(x3.trans hx).size;refine adw (h.ext (x3.trans hx)) hg hm (.inr (.inl hp)) ht ?_ λw4 a' M F k s f4 _ _ _ hs hE' hG I N=>hK w4 a' _ (((x3.trans hx) _).trans f4 λ_ _ q=>q) hE' hG (λb hb=>(I b hb).imp (λh=>h) λh=>by omega) N ⟨rfl,rfl,Int.le_refl _,λk' s' h'=> ?_⟩ λhh=>absurd hp hh;rotate_left
  ·have h':=h';rw[akQ] at h';split at h'
   ·split at h'
    ·have:=akR (akR h');subst this;obtain⟨j,b,hj,O,R⟩:=hb;refine .inr ⟨j,b,?_,O,R.trans hp⟩;rcases hs with ⟨hk,hk2,s0,h0,rfl⟩|⟨_,_,rfl⟩
     ·obtain⟨v,rfl⟩:=amP.1 hk;obtain⟨k2,s2,g1,g2,g3,_⟩:=aez h i3 u
      grind
     ·exact hj
    ·cases h'
   simp_all
  cases so with
  |some v=>
   obtain⟨k,s,g1,g2,_⟩:=aez h i3 u
   grind
  |none=>
   grind
 clear_value J;refine iF r3 rfl ?_
 cases hs:so.isSome
 rotate_left
 ·rw[adt,aaf];exact hJ false w3 (Ext.refl _) λ_=> .inl hs
 rw[afk,abt];refine cmS0 (Ue (h.ext x3)) ?_;rintro r w4 ⟨rfl,f4⟩;exact hJ _ w4 f4 λhh=> .inr (by simp_all)
theorem afJ (h:lS w a c e) (hm:CfM c):w.cell? (Addr.add (Addr.add ⟨a.x,0,none⟩ 5) 29)=some (Β (ci c 29)):=by
 obtain⟨A0,A1,A2,A3,A4,A5,A6,A7,A8,A9,A10,A11,A12,A13,A14,A15,A16,A17,A18,A19,A20,A21,A22,A23,A24,A25,A26,A27,A28,A29,A30,A31,A32,A33,A34,A35,hC,_⟩:=hm.wt;rw[gY,gY,h.hd.cell];unfold ci;rw[hC];rfl
def InG (c:Cf) (e:ES) (p:kZ) (i x2 x6:Int) (x8:Bool) (why:Int):Prop:=
 (why=9/\e.Mo (Bind.keyS [17,p.dst,(wordAt p.data 2:Int)])=none)\/∃(j:Nat) (b:Bnd),e.Mo (Bind.keyS [17,p.dst,(wordAt p.data 2:Int)])=some (j:Int)/\e.S[j]? =some (some b)/\
  ((why=10/\b.st=false/\¬alw (ci c 29) p.src (wordAt p.data 0:Int) (rem e (j:Int)))\/(why=0/\(b.st=true\/alw (ci c 29) p.src (wordAt p.data 0:Int) (rem e (j:Int)))/\i=b.sw/\x6=b.ad/\x2=p.off/\x8=p.mf))
theorem aag (h:lS w a c e) (hg:Gd c e) (hm:CfM c) (ht:e.tn<2^62) (p:kZ) {o d:gG} (ho:iH w o p.opts) (hd:iH w d p.data) (h1:p.opts.length<=2^40) (h2:p.data.length<=2^40)
  (au:∀ad,o.a=some ad->0<p.opts.length->¬iW a ad.block) (av:∀ad,d.a=some ad->0<p.data.length->¬iW a ad.block) (ah:∀(j:Nat) (b:Bnd),e.S[j]? =some (some b)->agG c b)
  {K:Int->Int->Int->Int->Int->Int->Int->Int->Bool->Bool->gG->gG->Int->b_}
  (hE:∀i x0 x1 x2 x3 x4 x5 x6 x7 x8 x9 U why w',Ext w w'->(rC p->p.data.length<=60000->InG c e p i x2 x6 x8 why)->K i x0 x1 x2 x3 x4 x5 x6 x7 x8 x9 U why w')
  (hK:∀i x0 x1 x2 x3 x4 x5 x6 x7 x8 x9 U w' a' e',ig w w' (iW a)->lS w' a' c e'->Gd c e'->Grow a a' w.heap.size->a'.x=a.x->uS e e'->(p.proto≠6->Ext w w')->(rC p->p.data.length<=60000->InG c e p i x2 x6 x8 0)->K i x0 x1 x2 x3 x4 x5 x6 x7 x8 x9 U 0 w'):
  kD (some ⟨a.x,0,none⟩) p.tos p.id p.off p.ttl p.proto p.src p.dst p.df p.mf o d w K:=by
 apply O4;refine gU λb1 w1 r1 e1 z1 f1=> ?_;refine gU λb2 w2 r2 e2 z2 f2=> ?_;have x2:=f1.trans f2;have r1:=r1.ext f2;have za:=f1.size;have zb:=f2.size;have fin:∀(W:θ) (why:Int),Ext w2 W->(rC p->p.data.length<=60000->∀i x2 x6 x8,InG c e p i x2 x6 x8 why)->
   iE ξ W ⟨b2,0,none⟩ 0 λY=>iG Y ⟨b2,0,none⟩ λy0 y1 y2 y3 y4 y5 y6 y7 y8 y9 Z=>K 0 y0 y1 y2 y3 y4 y5 y6 y7 y8 y9 Z why Y:=by
  intro W why hW hL;refine gZ (r2.ext hW) rfl rfl λw4 r4 f4' z4=> ?_;have f4:=f4' _ rfl;refine lu r4 ?_;exact hE _ _ _ _ _ _ _ _ _ _ _ _ why w4 ((x2.trans hW).new f4 λy hy e=>by omega) λq1 q2=>hL q1 q2 _ _ _ _
 intro J7;have hJ7:∀v W,Ext w2 W->(v=true->¬rC p)->(v=false->p.check=0)->J7 v W:=by
  intro v W hW hv hc0;simp -zeta only[J7]
  cases v
  rotate_left
  ·rw[abt];exact fin W 1 hW λhh=>absurd hh (hv rfl)
  have hc0:=hc0 rfl;rw[aaf];have r1W:=r1.ext hW;have xW:=x2.trans hW;refine lu r1W ?_;refine Ym p (hd.ext xW) h2 λk1 k2 k3 d' is w3 m f3 hd' aw ax=> ?_;refine gU λb3 w4 r4 e4 z4 f4=> ?_;refine gZ r4 rfl rfl λw5 r5 f5' z5=> ?_;have f5:=f5' _ rfl;have ai:=f4.new f5 λy hy e=>by omega
  have g5:=f3.trans ai
  cases is
  rotate_left
  ·rw[abt];have hn:¬rC p:=λhh=>by have:=ax rfl;have:=hh.1;omega
   refine lu (r1W.ext g5) ?_;refine Yx (K:=λx53 x54 x55 x56 W=>_) r5 ?_;refine abZ (h.ext (xW.trans g5)) p (ho.ext (xW.trans g5)) h1 k1 k2 k3 (hd'.ext ai) aw λi y0 y1 y2 y3 y4 y5 y6 y7 y8 y9 Z why w6 f6=> ?_;refine gZ ((r2.ext hW).ext (g5.trans f6)) rfl rfl λw7 r7 f7' z7=> ?_;have f7:=f7' _ rfl;refine lu r7 ?_;exact hE _ _ _ _ _ _ _ _ _ _ _ _ why w7 (((xW.trans g5).trans f6).new f7 λy hy e=>by omega) λhh=>absurd hh hn
  rw[aaf];refine lu (r1W.ext g5) ?_;refine cmS10 (agW p (ho.ext (xW.trans g5)) (hd.ext (xW.trans g5)) h1 h2) ?_;rintro x y z ee w6 ⟨⟨iy,iz,hp0,aa⟩,f6⟩;refine gU λb4 w7 r7 e7 z7 f7=> ?_;refine gZ r7 rfl rfl λw8 r8 f8' z8=> ?_;have f8:=f8' _ rfl;have g8:=(g5.trans f6).trans (f7.new f8 λy hy e=>by omega);by_cases aj:ee=0;rotate_left
  ·rw[show (ee !=0)=true by simp_all,abt];refine cmS1 (adx ee w8) ?_;rintro r w9 ⟨hr,hw9⟩;subst hw9;exact fin w9 r (hW.trans g8) λhh=>absurd (aa hh).1 aj
  subst aj;rw[show ((0:Int) !=0)=false from rfl,aaf];obtain⟨rfl,hpr3⟩:=hp0 rfl;have g8d:=g8.trans (Ext.drew w8);have x8:=xW.trans g8d;have hE8:=h.ext x8;refine jS.2 (iO (k:= .ptr) (y:=some ⟨a.B.d,0,none⟩) (by rw[gY];exact hE8.c2) ?_);refine Ld_i 0 p.proto r8.drew (Ld_i 6 p.dst (r1W.ext g8d) (Ld_i 2 z r8.drew ?_));obtain⟨idst,isrc⟩:In64 p.dst/\In64 p.src:=by
   obtain⟨q1,q2⟩:=(pG hc0).1.2.1;unfold kL at q1 q2;unfold In64;constructor<;>omega
  have ipr:In64 p.proto:=by unfold In64;omega
  have iz:In64 z:=by unfold mW at iz;unfold In64;omega
  have iy:In64 y:=by unfold mW at iy;unfold In64;omega
  have i3o:∀n∈[p.proto,p.dst,z],In64 n:=by
   intro n hn;simp only[agI,ajr,alf] at hn;rcases hn with rfl|rfl|rfl
   ·exact ipr
   ·exact idst
   ·exact iz
  refine cmS3 (Ou hE8.db p.proto p.dst z i3o) ?_;rintro n t w9 ⟨rfl,rfl,f9⟩;have g9:=g8d.trans f9;have hkey:rC p->Bind.keyS [17,p.dst,(wordAt p.data 2:Int)]=Bind.keyS [p.proto,p.dst,z]:=λhh=>by rw[hh.1,(aa hh).2.2]
  have ay:rC p->(wordAt p.data 0:Int)=y:=λhh=>(aa hh).2.1.symm
  cases az:e.Mo (Bind.keyS [p.proto,p.dst,z]) with
  |none=>
   rw[alH,afk,abt];exact fin w9 9 (hW.trans g9) λhh _ _ _ _ _=> .inl ⟨rfl,by grind⟩
  |some v=>
  rw[akt,adt,aaf,alO];obtain⟨j,b,hj,N,rfl⟩:=(h.db.good.o _ _).1 az;have ab:b.pr=p.proto:=by
   have N:=Gp.Bind.keyS_inj (by simp[Bnd.o]) (h.db.good.ok j b hj).2 i3o N;simp only[Bnd.o,amh,amf] at N;exact(ah j b hj).2.2.2.2.2.1.trans N.1
  have aA:getS e.S (j:Int)=some b:=Gp.Bind.lX.2 ⟨by omega,by trivial⟩;have hE9:=h.ext (xW.trans g9);refine jS.2 (iO (k:= .ptr) (y:=some ⟨a.B.d,0,none⟩) (by rw[gY];exact hE9.c2) ?_);refine cmS14 (Dz hE9.db _) ?_;rintro a1 a2 a3 a4 a5 a6 a7 a8 r w10 ⟨_,hR,f10⟩;rw[aA] at hR;obtain⟨rfl,rfl,rfl,rfl,rfl,rfl,rfl,rfl⟩:=hR;refine gU λb5 Y aB e11 z11 f11=> ?_;refine StN_f aB λak aC f12 z12=> ?_;have zf10:=f10.size;have zg9:=(xW.trans g9).size;have g12:Ext w8.drew ak:=f9.trans (f10.trans (f11.nw f12));have r1C:=(r1W.ext g8d).ext g12;refine Ld_i 0 p.proto (r8.drew.ext g12) (Ld_i 5 p.src r1C (Ld_i 1 y (r8.drew.ext g12) ?_));refine cmS13 (QE _ _ _ _) ?_;rintro _ rp w13 ⟨rfl,am,f13⟩;have irp:In64 rp:=(by rw[am];split<;>first|decide|exact iy)
  have hgr:rC p->(wordAt p.data 0:Int)=rp:=λhh=>by rw[am,acZ (by have:=hh.1;omega)];exact ay hh
  have hE13:=(hE8.ext g12).ext f13;have ij:In64 (j:Int):=by
   have:=(afg.1 hj).1;have:=h.db.len;have:=h.cf.b1;unfold In64;omega
  have i3:∀n∈[(j:Int),p.src,rp],In64 n:=by
   intro n hn;simp only[agI,ajr,alf] at hn;rcases hn with rfl|rfl|rfl
   ·exact ij
   ·exact isrc
   ·exact irp
  refine find_ok hE13 (j:Int) true p.src _ i3 λw14 f14=> ?_;generalize aiM e (VR e true (j:Int) p.src rp)=st;generalize ac:VR e true (j:Int) p.src rp=so;have ac:e.M (Bind.keyS [(j:Int),p.src,rp])=so:=ac;refine gU λb6 w15 aD e15 z15 f15=> ?_;refine StN_f aD λI ae f16 z16=> ?_;have g16:Ext ak I:=f13.trans (f14.trans (f15.nw f16));have g16d:=g16.trans (Ext.drew I);have r1D:=r1C.ext g16d;have r12D:=aC.ext g16d;have xD:Ext w2 I.drew:=(hW.trans g8d).trans (g12.trans g16d);have zD:=xD.size;have lt1:=r1D.lt;have lt12:=r12D.lt;have ho1:∀q,w.heap.size<=q->¬iW a q:=λq hq ⟨k,hk⟩=>by have:=h.lt k q hk;omega
  intro J168;have an:∀W',Ext I.drew W'->(rC p->b.st=true\/alw (ci c 29) p.src rp (rem e (j:Int)))->J168 false W':=by
   intro W' hW' aE;simp -zeta only[J168];rw[aaf];have af:=ae.drew.ext hW';have r1':=r1D.ext hW';have xW':Ext w W':=x2.trans (xD.trans hW');refine rd7 af (lu r1' ?_);refine af0 (h.ext xW') hg hm ht p ac ⟨j,b,rfl,hj,ab⟩ i3 (ho.ext xW') (hd.ext xW') h1 h2 (λr u f17 h6 hr=> ?_) λu a' e' f17 hE' hG' J hx' aF aG=> ?_
   ·rw[show (r !=0)=true by simp_all,abt];exact fin u r ((xD.trans hW').trans f17) λhh=>by have:=hh.1;omega
   show cond false _ _;rw[aaf];have zW:=(xD.trans hW').size;have zV:=f17.size;have aH:iH u o p.opts:=(ho.ext xW').fr f17 λad q1 q2=>au ad q1 q2;have aI:iH u d p.data:=(hd.ext xW').fr f17 λad q1 q2=>av ad q1 q2;have r1V:=r1'.fr f17 (ho1 _ (by omega));have r5V:=(r12D.ext hW').fr f17 (ho1 _ (by omega));have r2V:=(r2.ext (xD.trans hW')).fr f17 (ho1 _ (by omega));refine lu r1V ?_;refine Ld_i 2 b.ad r5V (Ld_i 3 b.po r5V ?_);refine ale p aH aI h1 h2 b.ad b.po λy0 y1 y2 y3 y4 y5 y6 y7 y8 y9 Z ee w19 f19 hM=> ?_;refine gU λb9 w20 aJ e20 z20 f20=> ?_;refine StN_f aJ λao aK f21 z21=> ?_;have zf19:=f19.size;have O:Ext u ao.drew:=(f19.trans (f20.nw f21)).trans (Ext.drew ao);refine Ld_i 0 b.sw (r5V.ext O) (lu aK.drew ?_);refine StN_f (r2V.ext O) λag aL f22 z22=> ?_;refine lu aL ?_;have lb2:=r2V.lt;have fT:ig u ag (·=b2):=(O _).trans f22 λ_ _ q=>q;have fA:ig w ag (iW a):=((xW' _).trans f17 λ_ _ q=>q).trans fT λy hy e=>by omega
   have n2:¬iW a' b2:=λhh=>(J b2 hh).elim (ho1 b2 (by omega)) λh=>by omega
   refine hK _ _ _ _ _ _ _ _ _ _ _ _ ag a' e' fA (hE'.fr fT λk q hq e=>n2 ⟨k,e ▸ hq⟩) hG' (λq hq=>(J q hq).imp (λh=>h) λh=>by omega) hx' aF (λhh=>((xW'.trans (aG hh)).trans O).nw f22) λhh hl=> .inr ⟨j,b,by grind,hj,.inr ⟨rfl,by grind,rfl,?_⟩⟩;have aq:=ah j b hj;obtain⟨_,_,q2,_,_,_,q6,_,q8⟩:=(hM ⟨hh,⟨(pG hc0).1.2.1.1,by unfold kL;have:=aq.2.1;omega⟩,by have:=aq.2.2.2.1;omega,hl⟩).pk.f;trivial
  have aM:∀W',Ext I.drew W'->b.st=false->(rC p->¬alw (ci c 29) p.src rp (rem e (j:Int)))->J168 true W':=by
   intro W' hW' R aE;simp -zeta only[J168];rw[abt];exact fin W' 10 (xD.trans hW') λhh _ _ _ _ _=> .inr ⟨j,b,by grind,hj,.inl ⟨rfl,R,by grind⟩⟩
  clear_value J168;refine Ld_b 7 b.st r12D ?_
  cases R:b.st
  rotate_left
  ·rw[adt,aaf];exact an _ (Ext.refl _) λ_=> .inl R
  rw[afk,abt];have hE16:=hE8.ext (g12.trans g16d);have c5:∀{V:θ},Ext I.drew V->V.cell? (Addr.add (Addr.add ⟨b6,0,none⟩ 5) 0)=some (Β p.src)/\V.cell? (Addr.add (Addr.add ⟨b6,0,none⟩ 5) 1)=some (Β rp):=λhV=>⟨by rw[gY,gY,(ae.drew.ext hV).cell];rfl,by rw[gY,gY,(ae.drew.ext hV).cell];rfl⟩;obtain⟨k5,k6⟩:=c5 (Ext.refl _);refine jS.2 (iO (k:= .int .i64) (y:=ci c 29) (afJ hE16 hm) (iO (k:= .int .i64) (y:=p.src) k5 (iO (k:= .int .i64) (y:=rp) k6 ?_)));refine cmS2 (aiG hE16 _) ?_;rintro rs u ⟨aN,f17⟩;obtain⟨k5',k6'⟩:=c5 f17;refine⟨k5',k6',afJ (hE16.ext f17) hm,?_⟩;have aO:(rem e (j:Int)).length<=2^40:=by
   unfold rem;rw[aiz];refine akK (anf _ _) ?_;have:=Gp.Ses.jL e.SS 0;have:=h.sl;have:=h.cf.s1;omega
  refine cmS0 (afv _ _ _ aN aO) ?_;rintro rr ar ⟨hr,f18⟩
  cases rr
  ·exact aM ar (f17.trans f18) R λ_ hh=>by grind
  ·exact an ar (f17.trans f18) λ_=> .inr (hr.1 rfl)
 clear_value J7;refine cmS0 (uG (h.ext x2)) ?_;rintro q w3 ⟨rfl,hw⟩;subst hw;rw[adt,aaf];refine lu r1 ?_;refine cmS0 (Yn p (ho.ext x2) (hd.ext x2) h1 h2) ?_;rintro q w3 ⟨rfl,f3⟩;refine hJ7 _ w3 f3 (λhv hh=> ?_) λhv=> ?_
 ·obtain⟨_,g2,g3,g4,_⟩:=hh
  simp_all
 simp_all
end Go.Proofs.EN
end
section
namespace Go.Proofs.EN
open Gp Gp.V4 Go.Proofs Go.Proofs.AN Go.Proofs.VN
open Go.Proofs.CN (T16 T7 e16 e7 OkP fineP chk chk_one refbase_ok base_good base_fine)
open Gp.Bind (Bnd Slots live GoodB freeN getS In64)
open Gp.Ses (Ses)
theorem adu {e:ES} {j:Int} {x:Int×Int}:x∈rem e j↔∃(k:Nat) (s:Ses),e.SS[k]? =some (some s)/\s.bd=j/\(s.ra,s.rp)=x:=by
 unfold rem SN.zH;rw[alp];constructor
 ·rintro⟨⟨v,s⟩,hv,hx⟩;obtain⟨h1,h2⟩:=al1.1 hv;obtain⟨k,h3,_⟩:=Gp.Ses.kY.1 h1
  grind
 ·rintro⟨k,s,h1,h2,h3⟩;exact⟨((k:Int),s),al1.2 ⟨Gp.Ses.kY.2 ⟨k,h1,by omega⟩,by simp_all⟩,h3⟩
theorem take1:PN.Fp 17 5000 1 1024 65535 [3325256705] []=some (17,3325256705,5000):=rfl
theorem dgw {a b src dst:Nat} (ha:a<4294967296) (hb:b<4294967296) (h1:src<65536) (h2:dst<65536):rC (rQ a b src dst 9 [])/\wordAt (rQ a b src dst 9 []).data 0=src/\wordAt (rQ a b src dst 9 []).data 2=dst/\(rQ a b src dst 9 []).data.length=8:=by
 obtain⟨q1,q2,q3,_,q5⟩:=Uh (l:=[]) ha hb h1 h2 (show 9<256 by omega) (by simp)
 simp_all
theorem ajc {w:θ} {a:EA} {c:Cf} {e:ES} (h:lS w a c e) (hG:Gd c e) (hm:CfM c) (ht:e.tn<2^62) (N:ci c 29=2) {j k:Nat} {b:Bnd} {s:Ses} (hj:e.S[j]? =some (some b)) (hb:b.o=[17,3325256705,5000]/\b.st=false)
  (hk:e.SS[k]? =some (some s)) (hs:s.bd=(j:Int)) (ho:∀(k':Nat) (s':Ses),e.SS[k']? =some (some s')->s'=s) (src:Nat) (I:src<4294967296) {o d:gG} (bo:iH w o (rQ src 3325256705 53 5000 9 []).opts) (bd:iH w d (rQ src 3325256705 53 5000 9 []).data) (nd:∀ad,d.a=some ad->¬iW a ad.block)
  {K:Int->Int->Int->Int->Int->Int->Int->Int->Bool->Bool->gG->gG->Int->b_}
  (hD:∀i x0 x1 x2 x3 x4 x5 x6 x7 x8 x9 u w',Ext w w'->(s.ra,s.rp)≠((src:Int),53)->K i x0 x1 x2 x3 x4 x5 x6 x7 x8 x9 u 10 w')
  (hK:∀x0 x1 x2 x3 x4 x5 x7 x8 x9 u w',Ext w w'->(s.ra,s.rp)=((src:Int),53)->K b.sw x0 x1 x2 x3 x4 x5 b.ad x7 x8 x9 u 0 w'):
  kD (some ⟨a.x,0,none⟩) (rQ src 3325256705 53 5000 9 []).tos (rQ src 3325256705 53 5000 9 []).id (rQ src 3325256705 53 5000 9 []).off (rQ src 3325256705 53 5000 9 []).ttl (rQ src 3325256705 53 5000 9 []).proto (rQ src 3325256705 53 5000 9 []).src (rQ src 3325256705 53 5000 9 []).dst (rQ src 3325256705 53 5000 9 []).df (rQ src 3325256705 53 5000 9 []).mf o d w K:=by
 obtain⟨q1,q2,q3,q4⟩:=dgw (b:=3325256705) (src:=53) (dst:=5000) I (by omega) (by omega) (by omega);have hmo:=(h.db.good.o _ _).2 ⟨j,b,hj,by rw[hb.1],rfl⟩;have J:alw (ci c 29) (src:Int) 53 (rem e (j:Int))↔(s.ra,s.rp)=((src:Int),53):=by
  unfold alw;rw[N,adu]
  grind
 have same:∀{j':Nat} {b':Bnd},e.Mo (Bind.keyS [17,3325256705,5000])=some (j':Int)->e.S[j']? =some (some b')->j'=j/\b'=b:=by
  grind
 have key:∀{i x2 x6 why:Int} {x8:Bool},InG c e (rQ src 3325256705 53 5000 9 []) i x2 x6 x8 why->(why=10/\(s.ra,s.rp)≠((src:Int),53))\/(why=0/\i=b.sw/\x6=b.ad/\(s.ra,s.rp)=((src:Int),53)):=by
  intro i x2 x6 why x8 hw;unfold InG at hw;rw[q2,q3] at hw;rcases hw with ⟨_,h⟩|⟨j',b',g1,g2,g3⟩
  ·have h:e.Mo (Bind.keyS [17,3325256705,5000])=none:=h
   grind
  ·obtain⟨rfl,rfl⟩:=same g1 g2;rcases g3 with ⟨rfl,_,g4⟩|⟨rfl,g4,rfl,rfl,_,_⟩
   ·exact .inl ⟨rfl,λhh=>g4 (J.2 hh)⟩
   ·rcases g4 with g4|g4
    ·grind
    ·exact .inr ⟨rfl,rfl,rfl,J.1 g4⟩
 have p17:(rQ src 3325256705 53 5000 9 []).proto=17:=rfl;refine aag h hG hm ht _ bo bd (by simp[rQ]) (by omega) (λ_ _ h=>absurd h (by simp[rQ])) (λad q _=>nd ad q) hG.inv.mp ?_ ?_
 ·intro i x0 x1 x2 x3 x4 x5 x6 x7 x8 x9 u why w' hx hw;rcases key (hw q1 (by omega)) with ⟨rfl,h⟩|⟨rfl,rfl,rfl,h⟩
  ·exact hD _ _ _ _ _ _ _ _ _ _ _ _ w' hx h
  ·exact hK _ _ _ _ _ _ _ _ _ _ w' hx h
 ·intro i x0 x1 x2 x3 x4 x5 x6 x7 x8 x9 u w' a' e' _ _ _ _ _ _ hx hw;rcases key (hw q1 (by omega)) with ⟨h,_⟩|⟨_,rfl,rfl,h⟩
  ·cases h
  ·exact hK _ _ _ _ _ _ _ _ _ _ w' (hx (by omega)) h
theorem afD {w:θ} (hH:Hdl w):lF w λr w'=>r=true/\Ext w w':=by
 have h00:=cell_lt hH;apply U7;refine cmS20 (refbase_ok w) ?_;rintro p0 p1 p2 p3 p4 p5 p6 p7 p8 p9 p10 p11 p12 p13 p14 p15 sw po n18 n19 n20 n21 n22 n23 n24 n25 n26 n27 n28 n29 n30 n31 n32 n33 n34 st w1 ⟨bs,bp,hB,rfl,rfl,rfl,rfl,rfl,rfl,rfl,rfl,rfl,rfl,rfl,rfl,rfl,rfl,rfl,rfl,rfl,rfl,rfl,rfl,rfl,rfl,rfl,rfl,rfl,rfl,rfl,rfl,rfl,rfl,rfl,rfl,rfl,rfl,rfl,rfl⟩;have hz:∀{W:θ},ny 7 e7 W ⟨none,0,0⟩ ([]:List T7):=λ{W}=>ny.nil;refine adv hB.sl hB.pl hz (by simp) (by simp) (by simp) (λr w' _ hr hc=>absurd (chk_one hc (.inr ⟨base_good,.inr ⟨base_fine,rfl⟩⟩)) hr) λaf u w2 a e f2 hE hI _ hM U=> ?_;obtain⟨hm,_,_⟩:=cfm (p0:=32) (p1:=1) (p2:=13) (p3:=184) (p4:=0) (p5:=0) (p6:=0) (p7:=0) (p8:=0) (p9:=0) (p10:=0) (p11:=0) (p12:=0) (p13:=0) (p14:=0) (p15:=1) (st:=⟨none,0,0⟩) rfl af u;have hG:=gd0 hM hI;have he:e=e0 2 64 128:=by
  have hM:Maps _ (e0 2 64 128) [] e:=hM;generalize hq:([]:List Bnd)=q at hM
  cases hM with
  |nil=>rfl
  |no=>simp at hq
  |yes=>simp at hq
 subst he;have x2:=hB.ext.trans f2;intro J;have hJ:J false->(bif Option.isNone (some (⟨a.x,0,none⟩:Addr)) then J true else J ((0:Int) !=0)):=λh=>h;refine hJ ?_;simp -zeta only[J];rw[aaf];refine cmS2 (Ug (l:=[]) (a:=167772161) (b:=3221225985) (src:=5000) (dst:=53) (ttl:=9) iH.nil (by simp) (by omega) (by omega) (by omega) (by omega) (by omega)) ?_;rintro rr w3 ⟨I,f3⟩;refine M_ (a:=167772161) (b:=3221225985) (src:=5000) (dst:=53) (ttl:=9) (by omega) (by omega) (by omega) (by omega) (by omega) (by simp) I λo d w4 f4 ⟨bo,bd,no,nd⟩=> ?_;obtain⟨q1,q2,q3,q4⟩:=dgw (a:=167772161) (b:=3221225985) (src:=5000) (dst:=53) (by omega) (by omega) (by omega) (by omega);have O:=f3.trans f4;have hog:∀b,iW a b->w1.heap.size<=b:=λb ⟨k,hk⟩=>U k b hk;have hl2:∀b,iW a b->b<w3.heap.size:=λb ⟨k,hb⟩=>(hE.ext f3).lt k b hb;have hz1:=hB.ext.size;have N:∀c:Cf,c.sw.len=2->Law c 1 (rQ 167772161 3221225985 5000 53 9 []):=λc hc=>⟨⟨by omega,by omega⟩,q1,by omega⟩;refine out_ok (hE.ext O) hG hm (by trivial) (hH.ext (x2.trans O)) (λh=>by grind) 1 (rQ 167772161 3221225985 5000 53 9 []) bo bd (by simp[rQ]) (by omega)
  (λad ha _ ho=>by trivial) (λad ha _ ho=>by grind) ?_ ?_
 ·intro x0 x1 x2' x3 x4 x5 x6 x7 x8 x9 ag why w5 hx5 hL;exfalso;obtain⟨hf,_⟩:=hL (N _ rfl);rw[q2] at hf;rcases hf with ⟨_,h⟩|⟨_,h|h⟩|⟨_,h⟩
  ·trivial
  ·trivial
  ·trivial
  trivial
 intro x0 x1 x2' x3 x4 x5 x6 x7 x8 x9 ag w5 a3 e3 hf5 hE5 hG5 hgr5 Y Z hL;have ht3:e3.tn<2^62:=by
  have h1:=Z.tn;have h2:(e0 2 64 128).tn=0:=rfl;omega
 obtain⟨⟨j,b,k,s,g1,g2,g3,g4,g5,g6,g7,g8,g9,_,⟨gf,_,_⟩,gS,gT⟩,_⟩:=hL (N _ rfl);obtain⟨_,_,_,_,_,rfl,_⟩:=gf;rw[q3] at g9;rw[q2] at gT;obtain⟨gT,gst⟩:=gT rfl;have gT:PN.Fp 17 5000 1 1024 65535 [3325256705] []=some (b.opr,b.oad,b.opo):=gT;rw[take1] at gT;have gT:=akR gT;simp only[alX] at gT;obtain⟨t1,t2,t3⟩:=gT;have ab:b.o=[17,3325256705,5000]:=by unfold Bnd.o;simp_all
 have hz3:=O.size;have x5w:=((x2.trans O).fr hf5).new λy hy ho=>by grind
 refine gU λu1 w6 r6 e6 z6 f6=> ?_;refine gZ r6 rfl rfl λw7 r7 f7' z7=> ?_;have f7:=f7' _ rfl;have y7:=f6.new f7 λy hy e=>by omega
 intro R;have hJ73:R false->(bif ((0:Int) !=0) then R true else Ld ν w7 (Addr.add ⟨u1,0,none⟩ 5) λx140=>R (x140 !=3325256705)):=λh=>Ld_i 5 b.oad r7 (by rw[<- t2];exact h);refine hJ73 ?_;simp -zeta only[R];rw[aaf];have ho:∀(k':Nat) (s':Ses),e3.SS[k']? =some (some s')->s'=s:=by
  intro k' s' h;rw[gS,akQ] at h;split at h
  ·simp_all
  ·have h:(List.replicate 128 (none:Option Ses))[k']? =some (some s'):=h
   grind
 rw[<- Y];refine cmS2 (Ug (l:=[]) (a:=3221225985) (b:=3325256705) (src:=53) (dst:=5000) (ttl:=9) iH.nil (by simp) (by omega) (by omega) (by omega) (by omega) (by omega)) ?_;rintro rr w8 ⟨I,f8⟩;refine M_ (a:=3221225985) (b:=3325256705) (src:=53) (dst:=5000) (ttl:=9) (by omega) (by omega) (by omega) (by omega) (by omega) (by simp) I λo d w9 f9 ⟨bo,bd,_,nd⟩=> ?_;have y9:=y7.trans (f8.trans f9);refine ajc (hE5.ext y9) hG5 hm ht3 rfl g1 ⟨ab,gst⟩ g6 g7 ho 3221225985 (by omega) bo bd (λad ha ⟨k,hk⟩=>by have:=nd ad ha;have:=hE5.lt k _ hk;have:=(y7.trans f8).size;omega) ?_ ?_
 ·intro _ _ _ _ _ _ _ _ _ _ _ _ _ _ ah;exact absurd (by rw[g8,g9];rfl) ah
 intro z0 z1 z2 z3 z4 z5 z7' z8 z9 z10 w10 f10 _;refine gU λu2 w11 ai e11 z11 f11=> ?_;refine StN_f ai λac aj f12 z12=> ?_;have aa:Ext w5 ac:=(y9.trans f10).trans (f11.nw f12);refine cmS2 (Ug (l:=[]) (a:=3221225986) (b:=3325256705) (src:=53) (dst:=5000) (ttl:=9) iH.nil (by simp) (by omega) (by omega) (by omega) (by omega) (by omega)) ?_;rintro rr w13 ⟨I,f13⟩;refine M_ (a:=3221225986) (b:=3325256705) (src:=53) (dst:=5000) (ttl:=9) (by omega) (by omega) (by omega) (by omega) (by omega) (by simp) I λo d w14 f14 ⟨bo,bd,_,nd⟩=> ?_;have g14:=f13.trans f14;have ak:=aa.trans g14;refine ajc (hE5.ext ak) hG5 hm ht3 rfl g1 ⟨ab,gst⟩ g6 g7 ho 3221225986 (by omega) bo bd (λad ha ⟨k,hk⟩=>by have:=nd ad ha;have:=hE5.lt k _ hk;have:=(aa.trans f13).size;omega) ?_ ?_;rotate_left
 ·intro _ _ _ _ _ _ _ _ _ _ _ _ ae;rw[g8,g9] at ae;have:=congrArg Prod.fst ae;have:(3221225985:Int)=3221225986:=this;omega
 intro vi v0 v1 v2 v3 v4 v5 v6 v7 v8 v9 v10 w15 f15 _;refine gU λu3 w16 am e16 z16 f16=> ?_;refine StN_f am λan r17 f17 z17=> ?_;have g17:Ext ac an:=(g14.trans f15).trans (f16.nw f17);intro J137;have hJ137:J137 true:=⟨rfl,(x5w.trans aa).trans g17⟩;clear_value J137;rw[show ((0:Int)==0)=true from rfl,abt,g2,show ((1:Int)==1)=true from rfl,abt];refine Ld_i 6 b.ad (aj.ext g17) ?_;rw[g4];exact hJ137
end Go.Proofs.EN
end
section
namespace Go.Proofs.EN
open Gp Gp.V4 Go.Proofs Go.Proofs.AN Go.Proofs.VN
open Gp.Bind (Bnd Slots live GoodB freeN getS In64)
open Gp.Ses (Ses)
variable {w w':θ} {a:EA} {c:Cf} {e:ES}
theorem Ν {s:gG} {l:List UInt8} (h:iH w s l) {ad:Addr} (ha:s.a=some ad) (h0:0<l.length):ad.block<w.heap.size:=by
 obtain⟨a,h1,h2⟩:=h.at_ (adP h0);rw[ha] at h1
 cases h1
 exact cell_lt h2
theorem alJ {W:θ} {a:Nat} {x0 x1 x2:Int} {x3:gG} {x4 x5 x6 x7 x8 x9 h:Int} {u I:Bool} {J N:gG} {O R U Y Z aa ab:Int} {Q:Int->Int->Int->gG->Int->Int->Int->Int->Int->Int->Int->Bool->Bool->gG->gG->Int->Int->Int->Int->Int->Int->Int->Prop}
  (hr:Row W a (Ob x0 x1 x2 x3 x4 x5 x6 x7 x8 x9 h u I J N O R U Y Z aa ab)) (hq:Q x0 x1 x2 x3 x4 x5 x6 x7 x8 x9 h u I J N O R U Y Z aa ab):TG W ⟨a,0,none⟩ Q:=
 aje (λi _=>by rw[gY,ahn,hr.cell]) hq
theorem abG (h:lS w a c e) (hg:Gd c e) (t:Int) {K:Int->b_} (hK:∀r w' a' e',Nx c w w' a a' e e'->K r w'):mJ (some ⟨a.x,0,none⟩) t w K:=
 TP h hg t λr w' a' e' f hE hG u hx hA=>hK r w' a' e' ⟨f,hE,hG,u,hx,λhu k s j b h1 h2 h3 h4=>by have:=hu k s j b ((hA.SS k s).1 h1).1 h2 (hA.S j b h3) h4;have:=hA.now;have:=(agq hg.le t).1;omega,by have:=hA.tn;omega⟩
theorem Stp.Un {e':ES} {sw:Int} (h:Stp c e e' sw) (hg:Gd c e) (hu:Un c e):EN.Un c e':=by
 intro k s j b h1 h2 h3 h4;rcases h.un k s h1 with g|⟨j',b',nx,q1,q2,q3⟩
 ·obtain⟨j',b',q1,q2⟩:=hg.sb k s g;have:j'=j:=by omega
  subst this;have q3:=h.S _ _ q2;rw[h3] at q3;have:=akR (akR q3);subst this;have:=hu k s j' b g h2 q2 h4;rw[h.now];exact this
 ·have:j'=j:=by omega
  subst this;rw[h3] at q2;have:=akR (akR q2);subst this;rw[q3,h4,h.now];unfold N8 Hq;omega
theorem uS.Un {e':ES} (h:uS e e') (hu:Un c e):EN.Un c e':=by
 intro k s j b h1 h2 h3 h4;rw[h.S] at h3;rcases h.un k s h1 with g|⟨j',b',q1,q2,q3⟩
 ·have:=hu k s j b g h2 h3 h4;rw[h.now];exact this
 grind
theorem cb {b:Bool} {P Q:Prop} (h:P) (h':Q):bif b then P else Q:=by cases b<;>assumption
structure Pl (c:Cf) (w0 w:θ) (a:EA) (s:gG) (xs:List Dn):Prop where
 cf:CfM c
 x:Ext w0 w
 own:∀b,iW a b->w0.heap.size<=b
 hd:Hdl w0
 l:ϖ w0 s xs
 n:xs.length<=40
 m:∀x∈xs,x.bl.length<=1500/\x.q.data.length<=1500/\x.q.opts.length<=100
theorem aiy {w0:θ} {s:gG} {xs:List Dn} (h:lS w a c e) (hg:Gd c e) (hp:Pl c w0 w a s xs) (ht:e.tn<=2^20) {K:b_}
  (hK:∀w' a' e',ig w w' (iW a)->lS w' a' c e'->Gd c e'->Grow a a' w.heap.size->a'.x=a.x->(Un c e->Un c e')->e'.tn<=e.tn+40->K w'):
  FV (some ⟨a.x,0,none⟩) s w K:=by
 apply Xh;obtain⟨hm,hx0,aa,hH,I,h40,ak⟩:=hp;have h00:=cell_lt hH;have hsl:=I.sl.len;have hz0:=hx0.size;refine g_ (λq W=>∃(j:Nat) (a':EA) (e':ES),j<=xs.length/\q.1=(j:Int)/\ig w W (iW a)/\lS W a' c e'/\Gd c e'/\Grow a a' w.heap.size/\a'.x=a.x/\(Un c e->Un c e')/\e'.tn<=e.tn+j) (λq _=>(s.len - q.1).toNat) ⟨0,a,e,by omega,rfl,ig.refl _ _,h,hg,Grow.refl a _,rfl,λh=>h,by omega⟩ ?_;rintro⟨i,⟨⟩⟩ W ⟨j,a',e',hj,hi,hf,hE,hG,N,O,ac,htn⟩ next Y
 dsimp -zeta only at hi ⊢;subst hi;by_cases ae:(j:Int)<(s.len:Int);rotate_left
 ·rw[adX ae,aaf];exact hK W a' e' hf hE hG N O ac (by omega)
 rw[aff ae,abt];have zW:=hf.size;have hog:=λb hb=>(N b hb).elim (aa b) λh=>by omega
 have hW0:=(hx0.fr hf).new λb hb ho=>by grind
 intro J6;have hJ6:∀V W' a2 e2,Ext W V->Nx c V W' a' a2 e' e2->J6 W':=by
  intro V W' a2 e2 hx hn;simp -zeta only[J6];rw[show ο.wrap ((j:Int)+1)=((j+1:Nat):Int) by rw[Α];rfl];have zx:=hx.size;refine Y _ _ ⟨j+1,a2,e2,by omega,rfl,(hf.ext hx).trans hn.fr λb hb ho=>(N b ho).elim (λh=>h) λh=>by omega,hn.eng,hn.gd,N.trans (λb hb=>(hn.gr b hb).imp (λh=>h) λh=>akK zx h) zW,hn.x.trans O,λh=>hn.un (ac h),by have:=hn.tn;omega⟩ (by omega)
 clear_value J6;have af:=adP (show j<xs.length by omega);have J:=akU (show j<xs.length by omega);generalize xs[j]=y at af J;refine ai_ (I.ext hW0) af ?_;refine gU λg w2 r2 e2 z2 f2=> ?_;refine gZ r2 rfl rfl λw3 r3 f3' z3=> ?_;have f3:=f3' _ rfl;have x3:=f2.new f3 λy hy e=>by omega
 obtain⟨v1,v2,v3⟩:=I.by_ y J;obtain⟨m1,m2,m3⟩:=ak y J;have y0:=hW0.trans x3;refine alJ r3 ?_;refine ahe y.q (v1.ext y0) (by omega) (v2.ext y0) (v3.ext y0) (by omega) (by omega) λp o' d' w4 f4 bo bd l1 l2 no nd=> ?_;refine gU λu w5 r5 e5 z5 f5=> ?_;refine gZ r5 rfl rfl λw6 r6 f6' z6=> ?_;have f6:=f6' _ rfl;have Z:=f5.new f6 λy hy e=>by omega
 have x6:=(x3.trans f4).trans Z;have rg:=r3.ext (f4.trans Z);have bo:=bo.ext Z;have bd:=bd.ext Z;have hE6:=hE.ext x6;have hH6:=hH.ext (hW0.trans x6);have hlw:∀b,iW a' b->b<w3.heap.size:=λb ⟨k,hb⟩=>(hE.ext x3).lt k b hb;have ag:∀ad,o'.a=some ad->0<p.opts.length->¬iW a' ad.block:=by
  intro ad ha h0 ho;rcases no with ⟨rfl,rfl⟩|no
  ·have:=Ν v2 ha h0
   grind
  grind
 have ah:∀ad,d'.a=some ad->0<p.data.length->¬iW a' ad.block:=by
  intro ad ha h0 ho;rcases nd with ⟨rfl,rfl⟩|nd
  ·have:=Ν v3 ha h0
   grind
  grind
 rw[<- O];refine iF rg rfl ?_;intro R;have hG0:=hG;have hJ72t:R true:=by
  simp -zeta only[R];rw[abt];refine iF rg rfl (lu r6 ?_);refine out_ok hE6 hG hm (by omega) hH6 (λh=>by grind) y.sw p bo bd l1 l2 ag ah (λx0 x1 x2 x3 x4 x5 x6' x7 x8 x9 ab why W' hx _=>hJ6 w6 W' a' e' x6 (Nx.ext hE6 hG hx)) λx0 x1 x2 x3 x4 x5 x6' x7 x8 x9 ab W' a2 e2 hf hE hG N O ai _=>hJ6 w6 W' a2 e2 x6 ⟨hf,hE,hG,N,O,ai.Un hG0,ai.tn⟩
 have hJ72f:R false:=by
  simp -zeta only[R];rw[aaf];intro U;have hJ99t:U true:=by
   simp -zeta only[U];rw[abt];refine lu r6 ?_;exact aag hE6 hG hm (by omega) p bo bd l1 l2 ag ah hG.inv.mp (λi x0 x1 x2 x3 x4 x5 x6' x7 x8 x9 ab why W' hx _=>hJ6 w6 W' a' e' x6 (Nx.ext hE6 hG hx)) λi x0 x1 x2 x3 x4 x5 x6' x7 x8 x9 ab W' a2 e2 hf hE hG N O aj _ _=>hJ6 w6 W' a2 e2 x6 ⟨hf,hE,hG,N,O,aj.Un,aj.tn⟩
  have hJ99f:U false:=by
   simp -zeta only[U];rw[aaf]
   cases (y.op==7)
   rotate_left
   ·rw[abt];refine iF rg rfl ?_;exact abG hE6 hG _ λr W' a2 e2 hn=>hJ6 w6 W' a2 e2 x6 hn
   rw[aaf]
   cases (y.op==8)
   rotate_left
   ·rw[abt];refine iF rg rfl ?_;exact aga hE6 hG _ λr W' a2 e2 hn=>hJ6 w6 W' a2 e2 x6 hn
   rw[aaf];have rt:∀(i:Nat) (x:Int),(dnV y)[15+i]? =some (Β x)->w6.cell? (Addr.add (Addr.add ⟨g,0,none⟩ 15) i)=some (Β x):=λi x hx=>by
    rw[gY,gY,rg.cell,ahn];exact hx
   cases (y.op==9)
   rotate_left
   ·rw[abt];refine iO (rt 0 _ rfl) (iO (rt 1 _ rfl) (iO (rt 2 _ rfl) (iO (rt 3 _ rfl) (iO (rt 4 _ rfl) (iO (rt 5 _ rfl) (iO (rt 6 _ rfl) ?_))))));exact ajZ hE6 hG ⟨y.t0,y.t1,y.t2,y.t3,y.t4,y.t5,y.t6,true⟩ rfl λr W' a2 e2 hn=>hJ6 w6 W' a2 e2 x6 hn
   ·rw[aaf];refine iO (rt 0 _ rfl) (iO (rt 1 _ rfl) (iO (rt 2 _ rfl) (iO (rt 3 _ rfl) ?_)));exact ahj hE6 hG _ _ _ _ (I.t y J) λr W' a2 e2 hn=>hJ6 w6 W' a2 e2 x6 hn
  clear_value U;have hJ:∀q,U q:=λq=>by cases q<;>assumption
  exact cb (hJ _) (cb (hJ _) (hJ _))
 clear_value R;have hJ:∀q,R q:=λq=>by cases q<;>assumption
 exact cb (hJ _) (cb (hJ _) (cb (hJ _) (hJ _)))
end Go.Proofs.EN
end
section
namespace Go.Proofs.EN
open Gp Gp.V4 Go.Proofs Go.Proofs.AN Go.Proofs.VN
open Gp.Bind (Bnd Slots live GoodB freeN getS In64)
open Gp.Ses (Ses)
open Go.Proofs.SN (SlN_ix)
variable {w w':θ} {a:EA} {c:Cf} {e:ES}
theorem ahN (h:lS w a c e) (x:Int):wW (some ⟨a.x,0,none⟩) x w λr w'=>r=decide (x∈c.pl)/\w'=w:=by
 apply ND;intro J;refine cmS0 (uG h) ?_;rintro r w1 ⟨rfl,hw⟩;subst hw;rw[abt];refine jS.2 (iO h.c0 ?_);exact cmS0 (PN.ab8 h.pl x) λr w' h=>h
theorem adl (h:lS w a c e):sJ (some ⟨a.x,0,none⟩) w λr w'=>r=(e.now:Int)/\w'=w:=by
 apply NH;refine cmS0 (uG h) ?_;rintro r w1 ⟨rfl,hw⟩;subst hw;rw[adt,aaf];exact jS.2 (iO (by rw[gY];exact h.c41) ⟨rfl,rfl⟩)
def Told (i n:Int) (b:Bnd):Prop:=b.st=true/\b.sw=i/\b.pr=17/\b.ad=167772161/\b.po=n
theorem ahf (b:Bnd) {f0 f1:Nat} {i n:Int} (h0:Row w f0 [Β i]) (h1:Row w f1 [.int .u16 n]) (hn:0<=n/\n<65536) {K:Bool->b_} (hK:∀r w',Ext w w'->(r=false->¬Told i n b)->K r w'):
  BI b.sw b.pr b.ad b.po b.opr b.oad b.opo b.st ⟨f0,0,none⟩ ⟨f1,0,none⟩ w K:=by
 apply Lj;refine gU λq w2 r2 e2 z2 f2=> ?_;intro J;have hJ:∀r,(r=false->¬Told i n b)->J r:=λr hr=>hK r w2 f2 hr;clear_value J;refine iF r2 rfl ?_
 cases hs:b.st
 ·rw[aaf];exact hJ _ λ_ h=>by rw[h.1] at hs;cases hs
 rw[abt];refine iF r2 rfl (iF r2 rfl (iF r2 rfl (iF r2 rfl ?_)));refine iF (h0.ext f2) rfl (iF (h1.ext f2) rfl ?_);rw[Α];refine hJ _ λhr ⟨_,q1,q2,q3,q4⟩=> ?_
 simp_all
theorem ahg {s:gG} {L:List Bnd} (hb:ny 8 eB w s L) (hl:s.len<=2^40) {f0 f1:Nat} {i n:Int} (h0:Row w f0 [Β i]) (h1:Row w f1 [.int .u16 n]) (hn:0<=n/\n<65536) {K:Bool->b_} (hK:∀r w',Ext w w'->(r=false->∀b∈L,¬Told i n b)->K r w'):
  jv s (Value.func (.func 17) #[] #[(Value.pointer (some ⟨f0,0,none⟩)),(Value.pointer (some ⟨f1,0,none⟩))]) w K:=by
 apply pI;apply qA;have hlen:=hb.len;refine g_ (λst W=>∃j:Nat,j<=L.length/\st.1=(j:Int)/\Ext w W/\∀(k:Nat) (b:Bnd),k<j->L[k]? =some b->¬Told i n b) (λst _=>L.length - st.1.toNat) ⟨0,by omega,rfl,Ext.refl _,λ_ _ h=>by omega⟩ ?_;rintro⟨x,⟨⟩⟩ W ⟨j,hj,hx,hW,hno⟩ next u
 simp only at hx;subst hx;by_cases I:j<L.length;rotate_left
 ·rw[show decide ((j:Int)<(s.len:Int))=false by rw[adX];omega,aaf];refine hK _ W hW λ_ b hb=> ?_;obtain⟨k,hk⟩:=amo hb
  grind
 rw[show decide ((j:Int)<(s.len:Int))=true by rw[aff];omega,abt];obtain⟨b,hv⟩:∃b,L[j]? =some b:=⟨_,adP I⟩;refine SlN_ix Ul (by omega) (hb.ext hW) (by omega) (by rw[abu];exact hv) λa1 c1=> ?_;refine iO (c1 0 _ rfl) (iO (c1 1 _ rfl) (iO (c1 2 _ rfl) (iO (c1 3 _ rfl) (iO (c1 4 _ rfl) (iO (c1 5 _ rfl) (iO (c1 6 _ rfl) (iO (c1 7 _ rfl) ?_)))))));refine CN.kJ (by kernel_rfl) ?_;refine Calls.mono (ahf b (h0.ext hW) (h1.ext hW) hn (K:=λr W'=>Ext W W'/\(r=false->¬Told i n b)) λr w' h1 h2=>⟨h1,h2⟩) ?_;rintro ev W' ⟨r,he,hW',hr⟩;refine⟨_,he,_,rfl,?_⟩
 cases r
 rotate_left
 ·rw[abt];exact hK _ W' (hW.trans hW') λh=>by simp_all
 rw[aaf,Α];refine u _ _ ⟨j+1,by omega,rfl,hW.trans hW',λk x hk hx=> ?_⟩ (by omega)
 grind
theorem ahi {sa da p q:Int} {L:List UInt8} (hp:mW p) (hq:mW q) (hl:L.length<=60000):
  ∃x y:UInt8,(NW sa da p q false L)[0]? =some x/\(NW sa da p q false L)[1]? =some y/\((x.toNat * 256+y.toNat:Nat):Int)=p/\(NW sa da p q false L).length=8+L.length:=by
 obtain⟨p0,p1⟩:=hp;obtain⟨q0,q1⟩:=hq;have hf:∀n:Int,0<=n->n<65536->jm n 2:=λn h0 h1=>⟨by decide,h0,by trivial⟩;have hu:Sm p q L=kC 2 p.toNat++kC 2 q.toNat++kC 2 (8+(L.length:Int)).toNat++kC 2 0++L:=by
  unfold Sm mP;rw[adZ (hf p (by omega) (by omega)),adZ (hf q (by omega) (by omega)),adZ (hf (8+(L.length:Int)) (by omega) (by omega)),adZ (hf 0 (by omega) (by omega))];simp
 refine⟨UInt8.ofNat (p.toNat / 256),UInt8.ofNat p.toNat,?_,?_,?_,?_⟩
 ·unfold NW;rw[acZ (by decide),hu];simp[kC]
 ·unfold NW;rw[acZ (by decide),hu];simp[kC]
 ·simp;omega
 ·unfold NW;rw[acZ (by decide),hu];simp[kC];omega
theorem abO {q:kZ} (ho:q.opts=[]) {x y:UInt8} (hx:q.data[0]? =some x) (hy:q.data[1]? =some y):q.bytes[20]? =some x/\q.bytes[21]? =some y/\q.bytes.length=20+q.data.length:=by
 have hh:(q.head q.sum).length=20:=by rw[I9,ho];rfl
 unfold kZ.bytes;refine⟨?_,?_,by simp_all⟩<;>rw[alh (by omega),hh]
 ·exact hx
 ·exact hy
theorem ag0 {oad:Int} (ho:kL oad) {p:kZ} (hc:p.check=0) (hm:p.mf=false) {l:List UInt8} (hl:l.length=p.data.length):({p with src:=oad,data:=l}:kZ).check=0:=by
 obtain⟨⟨g1,⟨_,g2⟩,⟨g3,g4,g5,_⟩,g6,g7⟩,s1,s2⟩:=pG hc;have fine:({p with src:=oad,data:=l}:kZ).fine:=⟨g1,⟨ho,g2⟩,⟨g3,g4,g5,λh=>by simp_all⟩,g6,g7⟩;have sh:({p with src:=oad,data:=l}:kZ).short:=⟨by simp_all,by simp_all⟩;unfold kZ.check
 simp_all
end Go.Proofs.EN
end
section
namespace Go.Proofs.EN
open Gp Gp.V4 Go.Proofs Go.Proofs.AN Go.Proofs.VN
open Go.Proofs.CN (T16 T7 e16 e7 OkP fineP chk chk_one bnds okB)
open Gp.Bind (Bnd Slots live GoodB freeN getS In64)
open Gp.Ses (Ses)
structure Bk (c:Cf) (w V:θ) (a3 a4:EA) (e4:ES) (i:Int) (n t:Nat) (j:Nat) (b:Bnd) (k:Nat) (s:Ses):Prop where
 fr:ig w V (iW a3)
 en:lS V a4 c e4
 gd:Gd c e4
 gr:Grow a3 a4 w.heap.size
 x:a4.x=a3.x
 un:Un c e4
 tn:e4.tn<2^61
 S:e4.S[j]? =some (some b)
 b:b.sw=i/\b.pr=17/\b.ad=167772161/\b.po=(n:Int)
 SS:e4.SS[k]? =some (some s)
 s:s.bd=(j:Int)/\s.ra=134744072/\s.rp=(t:Int)
variable {c:Cf} {w V V':θ} {a a3 a4:EA} {e e4 e5:ES} {i:Int} {n t j k:Nat} {b:Bnd} {s:Ses}
theorem Bk.ext (h:Bk c w V a3 a4 e4 i n t j b k s) (hf:Ext V V'):Bk c w V' a3 a4 e4 i n t j b k s:=
 ⟨h.fr.ext hf,h.en.ext hf,h.gd,h.gr,h.x,h.un,h.tn,h.S,h.b,h.SS,h.s⟩
theorem Bk.frg {g:Nat} (h:Bk c w V a3 a4 e4 i n t j b k s) (hf:ig V V' (·=g)) (hg:w.heap.size<=g) (ho:¬iW a4 g):Bk c w V' a3 a4 e4 i n t j b k s:=
 ⟨h.fr.trans hf λy hy e=>by omega,h.en.fr hf λk y hy e=>ho ⟨k,e ▸ hy⟩,h.gd,h.gr,h.x,h.un,h.tn,h.S,h.b,h.SS,h.s⟩
theorem Bk.mo (h:Bk c w V a3 a4 e4 i n t j b k s):b.o=[17,b.oad,b.opo]/\kL b.oad/\(0<=b.opo/\b.opo<=65535)/\b.oad∈c.pl/\∀(e':ES),GoodB e'.S e'.Mi e'.Mo->(∀(j:Nat) (b:Bnd),e'.S[j]? =some (some b)->e4.S[j]? =some (some b))->
  ∀(j':Nat) (b':Bnd),e'.Mo (Bind.keyS [17,b.oad,b.opo])=some (j':Int)->e'.S[j']? =some (some b')->j'=j/\b'=b:=by
 have hm:=h.gd.inv.mp j b h.S;have ho:b.o=[17,b.oad,b.opo]:=by unfold Bnd.o;rw[<- hm.2.2.2.2.2.1,h.b.2.1]
 have hp:=h.en.cf.hp _ hm.2.2.1;refine⟨ho,by unfold CN.nC at hp;unfold kL;omega,hm.2.2.2.2.1,hm.2.2.1,λe' hg hs j' b' h1 h2=> ?_⟩;have g1:=(h.en.db.good.o _ _).2 ⟨j,b,h.S,by rw[ho],rfl⟩;obtain⟨j2,b2,q1,q2,q3⟩:=(hg.o _ _).1 h1;have g2:=(h.en.db.good.o _ _).2 ⟨j2,b2,hs j2 b2 q1,q2,rfl⟩;rw[g1] at g2;have:=akR g2;have e1:j2=j:=by omega
 have e2:j'=j:=by omega
 subst e2;have h3:=hs _ _ h2;rw[h.S] at h3;exact⟨rfl,(akR (akR h3)).symm⟩
theorem ads (h:lS w a c e) (hg:Gd c e) (hm:CfM c) (ht:e.tn<2^62) (p:kZ) (hp:rC p) (h0:p.opts=[]) (h1:p.data.length<=60000) {o d:gG} (ho:iH w o p.opts) (hd:iH w d p.data) (u:∀ad,d.a=some ad->0<p.data.length->¬iW a ad.block)
  {K:Int->Int->Int->Int->Int->Int->Int->Int->Bool->Bool->gG->gG->Int->b_}
  (hK:∀i x0 x1 x2 x3 x4 x5 x6 x7 x8 x9 I why w',Ext w w'->InG c e p i x2 x6 x8 why->K i x0 x1 x2 x3 x4 x5 x6 x7 x8 x9 I why w'):
  kD (some ⟨a.x,0,none⟩) p.tos p.id p.off p.ttl p.proto p.src p.dst p.df p.mf o d w K:=
 aag h hg hm ht p ho hd (by rw[h0];simp) (by omega) (λ_ _ h=>absurd h (by simp[h0])) u hg.inv.mp (λ_ _ _ _ _ _ _ _ _ _ _ _ _ w' hx hw=>hK _ _ _ _ _ _ _ _ _ _ _ _ _ w' hx (hw hp h1))
  λ_ _ _ _ _ _ _ _ _ _ _ _ w' _ _ _ _ _ _ _ _ hx hw=>hK _ _ _ _ _ _ _ _ _ _ _ _ _ w' (hx (by rw[hp.1];decide)) (hw hp h1)
theorem Bk.first (h:Bk c w V a3 a4 e4 i n t j b k s) (h29:0<=ci c 29/\ci c 29<=2) {P:kZ} (h0:P.src=134744072) (h1:P.dst=b.oad) (h2:(wordAt P.data 0:Int)=(t:Int)) (h3:(wordAt P.data 2:Int)=b.opo) (h4:P.off=0) (h5:P.mf=false)
  {i' x2 x6 why:Int} {x8:Bool} (hw:InG c e4 P i' x2 x6 x8 why):why=0/\i'=i/\x6=167772161/\x2=0/\x8=false:=by
 obtain⟨m1,_,_,_,m5⟩:=h.mo;have u:e4.Mo (Bind.keyS [17,b.oad,b.opo])=some (j:Int):=(h.en.db.good.o _ _).2 ⟨j,b,h.S,by rw[m1],rfl⟩;unfold InG at hw;rw[h0,h1,h2,h3,h4,h5] at hw;rcases hw with ⟨_,g⟩|⟨j',b',g1,g2,g3⟩
 ·rw[u] at g;cases g
 obtain⟨rfl,rfl⟩:=m5 e4 h.en.db.good (λ_ _ h=>h) j' b' g1 g2;rcases g3 with ⟨_,_,g4⟩|⟨rfl,_,rfl,rfl,rfl,rfl⟩
 ·exfalso;apply g4;unfold alw;have hs:(134744072,(t:Int))∈rem e4 (j':Int):=adu.2 ⟨k,s,h.SS,h.s.1,by rw[h.s.2.1,h.s.2.2]⟩;by_cases c0:ci c 29=0
  ·exact .inl c0
  by_cases c1:ci c 29=1
  ·exact .inr (.inl ⟨c1,_,hs,rfl⟩)
  ·exact .inr (.inr ⟨by omega,hs⟩)
 ·exact⟨rfl,h.b.1,h.b.2.2.1,rfl,rfl⟩
theorem Bk.second {T:Nat} (h:Bk c w V a3 a4 e4 i n t j b k s) (hb:b.st=false) (hA:JV e4 e5 T) (hT:(T:Int)=(e4.now:Int)+ci c 30) (hg:GoodB e5.S e5.Mi e5.Mo) {P:kZ} (h1:P.dst=b.oad) (h3:(wordAt P.data 2:Int)=b.opo)
  {i' x2 x6 why:Int} {x8:Bool} (hw:InG c e5 P i' x2 x6 x8 why):why=9:=by
 obtain⟨m1,_,_,_,m5⟩:=h.mo;unfold InG at hw;rw[h1,h3] at hw;rcases hw with ⟨g,_⟩|⟨j',b',g1,g2,g3⟩
 ·exact g
 obtain⟨rfl,rfl⟩:=m5 e5 hg hA.S j' b' g1 g2;obtain⟨k2,s2,q1,q2⟩:=hA.gone j' b' g2 hb ⟨k,s,h.SS,h.s.1⟩;obtain⟨q3,q4⟩:=(hA.SS k2 s2).1 q1;have:=h.un k2 s2 j' b' q3 q2 h.S h.b.2.1;omega
abbrev MX (n t:Nat) (l:List UInt8):kZ:=rQ 167772161 134744072 n t 9 l
abbrev N7 (a p t:Nat) (l:List UInt8):kZ:=rQ 134744072 a t p 9 l
abbrev dgq (n t:Nat) (l:List UInt8) (b:Bnd):kZ:={MX n t l with src:=b.oad,data:=NW b.oad 134744072 b.opo (t:Int) false l}
theorem afU {n t:Nat} {l:List UInt8} (hn:n<65536) (ht:t<65536) (hl:l.length<=500):rC (MX n t l)/\wordAt (MX n t l).data 0=n/\wordAt (MX n t l).data 2=t/\(MX n t l).data.drop 8=l/\(MX n t l).data.length=8+l.length:=Uh (by omega) (by omega) hn ht (by omega) (by omega)
theorem afV {a p t:Nat} {l:List UInt8} (ha:a<4294967296) (hn:p<65536) (ht:t<65536) (hl:l.length<=500):rC (N7 a p t l)/\wordAt (N7 a p t l).data 0=t/\wordAt (N7 a p t l).data 2=p/\(N7 a p t l).data.length=8+l.length:=
 have h:=Uh (by omega) ha ht hn (by omega) (by omega)
 ⟨h.1,h.2.1,h.2.2.1,h.2.2.2.2⟩
theorem ahB (awake:∀w,Hdl w->lF w λr w'=>r=true/\Ext w w') {w:θ} {p0 p1 p2 p3 p4 p5 p6 p7 p8 p9 p10 p11 p12 p13 p14 p15:Int} {sw po:gG} {n18 n19 n20 n21 n22 n23 n24 n25 n26 n27 n28 n29 n30 n31 n32 n33 n34:Int} {st:gG} {sl:List T16} {pl:List Int} {tl:List T7} (aK:ny 16 e16 w sw sl) (av:ny 1 CN.eI w po pl) (Z:ny 7 e7 w st tl) {s:gG} {xs:List Dn} (hs:ϖ w s xs) {m n t:Nat} (hmm:m<256) (hn:n<65536) (ht:t<65536) {d:gG} {l:List UInt8} (hd:iH w d l) (hH:Hdl w):
  EO p0 p1 p2 p3 p4 p5 p6 p7 p8 p9 p10 p11 p12 p13 p14 p15 sw po n18 n19 n20 n21 n22 n23 n24 n25 n26 n27 n28 n29 n30 n31 n32 n33 n34 st s (m:Int) (n:Int) (t:Int) d w λr w'=>r=true/\Ext w w':=by
 have h00:0<w.heap.size:=cell_lt hH;apply O1;refine gU λa w0 r1 e1 z1 f0=>⟨rfl,?_⟩;refine gU λu w1 ru e2 z2 f1=> ?_;have r1:=r1.ext f1;have f1:=f0.trans f1;have rd:∀W (Q:_),Row W a (jO p0 p1 p2 p3 p4 p5 p6 p7 p8 p9 p10 p11 p12 p13 p14 p15 sw po n18 n19 n20 n21 n22 n23 n24 n25 n26 n27 n28 n29 n30 n31 n32 n33 n34 st)->Q p0 p1 p2 p3 p4 p5 p6 p7 p8 p9 p10 p11 p12 p13 p14 p15 sw po n18 n19 n20 n21 n22 n23 n24 n25 n26 n27 n28 n29 n30 n31 n32 n33 n34 st->tC W ⟨a,0,none⟩ Q:=by
  intro W Q hr hq;simp only[sx,hr.cell];exact hq
 intro J;have aw:∀V,Ext w V->lF V λr w'=>r=true/\Ext w w':=λV hV=>cmS0 (awake V (hH.ext hV)) λr w' ⟨hr,hf⟩=>⟨hr,hV.trans hf⟩;have ax:∀W,Ext w1 W->J true W:=by
  intro W hW;simp only[J,abt];exact aw W (f1.trans hW)
 have aU:=av.len;have hdl:=hd.1;have aV:∀W,Ext w1 W->sw.len<=8->po.len<=4->st.len<=12->xs.length<=40->(∀x∈xs,x.bl.length<=1500/\x.q.data.length<=1500/\x.q.opts.length<=100)->l.length<=500->chk (p0,p1,p2,p3,p4,p5,p6,p7,p8,p9,p10,p11,p12,p13,p14,p15,()) sw.len po.len st.len n18 n19 n20 n21 n22 n23 n24 n25 n26 n27 n28 n29 n30 n31 n32 n33 n34 sw.len sl pl tl 0->J false W:=by
  intro W hW l1 l2 l3 l4 l5 l6' hc;simp -zeta only[J,aaf];have r1W:=r1.ext hW;have xW:=f1.trans hW;refine rd _ _ r1W ?_;refine adv (aK.ext xW) (av.ext xW) (Z.ext xW) (by omega) (by omega) (by omega) (λr w2 _ hr hc2=>absurd (chk_one hc hc2).symm hr) λaL ac w2 a2 e2 f2 hE hI hNoS R ay=> ?_;obtain⟨hm,u1,u2⟩:=cfm aU aL ac;have hG:=gd0 R hI;obtain⟨_,m2,_,_,m5⟩:=R.rest;have m5:e2.tn=0:=m5;have hU:Un ⟨jO p0 p1 p2 p3 p4 p5 p6 p7 p8 p9 p10 p11 p12 p13 p14 p15 sw po n18 n19 n20 n21 n22 n23 n24 n25 n26 n27 n28 n29 n30 n31 n32 n33 n34 st,sw,pl,n18,n19,n20,n21,n22⟩ e2:=λk s j b h1=>by
   rw[m2] at h1;have h1:(List.replicate n22.toNat (none:Option Ses))[k]? =some (some s):=h1;rw[amA] at h1;split at h1<;>cases h1
  have b:=aL.nums;simp only[bnds,agI,ajr,alf,forall_eq_or_imp,forall_eq,okB] at b;obtain⟨b1,_,_,_,_,_,_,_,_,_,_,_,_,b14,b15,_⟩:=b;have hzW:=xW.size;have hzW1:=hW.size;obtain⟨c,hc⟩:∃c,c=(⟨jO p0 p1 p2 p3 p4 p5 p6 p7 p8 p9 p10 p11 p12 p13 p14 p15 sw po n18 n19 n20 n21 n22 n23 n24 n25 n26 n27 n28 n29 n30 n31 n32 n33 n34 st,sw,pl,n18,n19,n20,n21,n22⟩:Cf):=⟨_,rfl⟩;have c29:ci c 29=n29:=by rw[hc];rfl
  have csw:c.sw=sw:=by rw[hc]
  have c30:ci c 30=n30:=by rw[hc];rfl
  rw[<- hc] at hE hG hm hU;clear hc;intro ar;have hJ50:ar false->(bif Option.isNone (some (⟨a2.x,0,none⟩:Addr)) then ar true else ar ((0:Int) !=0)):=λh=>h;refine hJ50 ?_;simp -zeta only[ar];rw[aaf];have ae:∀b,iW a2 b->W.heap.size<=b:=λb ⟨k,hk⟩=>ay k b hk;refine aiy hE hG ⟨hm,xW.trans f2,λb hb=>by have:=ae b hb;omega,hH,hs,l4,l5⟩ (by omega) λw3 a3 e3 f3 hE3 hG3 az hx3 hU3 ht3=> ?_;have hU3:=hU3 hU;have x3:Ext w w3:=((xW.trans f2).fr f3).new λb hb ho=>by have:=ae b ho;omega
  have z3:=f3.size;have z2':=f2.size;have N:∀b,iW a3 b->W.heap.size<=b:=λb hb=>(az b hb).elim (ae b) λh=>by omega
  have r3:Row w3 a (jO p0 p1 p2 p3 p4 p5 p6 p7 p8 p9 p10 p11 p12 p13 p14 p15 sw po n18 n19 n20 n21 n22 n23 n24 n25 n26 n27 n28 n29 n30 n31 n32 n33 n34 st):=(r1W.ext f2).fr f3 λho=>by have:=ae _ ho;have:=r1W.lt;omega
  have ru3:Row w3 u [.int .u16 (n:Int)]:=((ru.ext hW).ext f2).fr f3 λho=>by have:=ae _ ho;have:=(ru.ext hW).lt;omega
  refine Ld_s 16 sw r3 ⟨by omega,?_⟩;refine gU λv w4 r4 e4 z4 f4=> ?_;refine iC r4 rfl (by simp) λw5 r5 f5' z5=> ?_;have f5:ig w4 w5 (·=v):=f5' _ rfl;simp only[af5] at r5;have ab:Ext w3 w5:=f4.nw f5;obtain⟨i,hi,hi0,hi1⟩:∃i:Int,Int.tmod (ο.wrap (m:Int)) (sw.len:Int)=i/\0<=i/\i<(sw.len:Int):=by
   rw[Α];exact⟨_,rfl,Int.tmod_nonneg _ (by omega),Int.tmod_lt_of_pos _ (by omega)⟩
  rw[hi] at r5;rw[<- hx3];have hE5:=hE3.ext ab;have x5:=x3.trans ab;have af:∀b,iW a3 b->b<w5.heap.size:=λb ⟨k,hk⟩=>hE5.lt k b hk;intro U;have aW:∀(g:Nat) (why:Int) V,Ext w V->(why=5\/why=6\/why=7)->U ⟨g,0,none⟩ why V:=by
   intro g why V hV hw;simp -zeta only[U];rcases hw with rfl|rfl|rfl
   ·exact aw V hV
   ·exact aw V hV
   ·exact aw V hV
  obtain⟨pg,pw0,pw2,pd8,plen⟩:=afU hn ht l6';have ai:Law c i (MX n t l):=⟨⟨hi0,csw ▸ hi1⟩,pg,by omega⟩;have aM:∀V,Ext w5 V->jC 167772161 134744072 (ο.wrap (n:Int)) (ο.wrap (t:Int)) 9 d V λr V'=>iH V' r (MX n t l).bytes/\Ext V V':=by
   intro V hV;rw[show ο.wrap (n:Int)=(n:Int) from Α,show ο.wrap (t:Int)=(t:Int) from Α];exact Ug (a:=167772161) (b:=134744072) (ttl:=9) (hd.ext (x5.trans hV)) (by omega) (by omega) (by omega) hn ht (by omega)
  have z35:=ab.size;have nu:¬iW a3 u:=λho=>by have:=N _ ho;have:=(ru.ext hW).lt;omega
  have nv:¬iW a3 v:=λ⟨k,hk⟩=>by have:=hE3.lt k v hk;omega
  have ru5:=ru3.ext ab;have cu:∀{V},ig w5 V (iW a3)->V.cell? ⟨u,0,none⟩=some (.int .u16 (n:Int)):=λhf=>by rw[(ru5.fr hf nu).cell];rfl
  have cv:∀{V},ig w5 V (iW a3)->V.cell? ⟨v,0,none⟩=some (Β i):=λhf=>by rw[(r5.fr hf nv).cell];rfl
  have aX:∀(g:Nat) V a4 e4 j b k s' x0 x1 x2 x3 x4 x5 x6 x7 x8 x9 aN,Bk c w5 V a3 a4 e4 i n t j b k s'->
    PkR V (dgq n t l b) x0 x1 x2 x3 x4 x5 x6 x7 x8 x9 aN->Row V g (gX x0 x1 x2 x3 x4 x5 x6 x7 x8 x9 aN)->w5.heap.size<=g->¬iW a4 g->U ⟨g,0,none⟩ 0 V:=by
   intro g V a4 e4 j b k s' y0 y1 y2 y3 y4 y5 y6 y7 y8 y9 I hB hP hr hgw aA;simp -zeta only[U];show cond false _ _;rw[aaf];obtain⟨mo1,mo2,mo3,mo4,_⟩:=hB.mo;unfold kL at mo2;obtain⟨oa,aB⟩:∃oa:Nat,b.oad=(oa:Int):=⟨b.oad.toNat,by omega⟩;have aC:oa<4294967296:=by omega
   obtain⟨op,hop⟩:∃op:Nat,b.opo=(op:Int):=⟨b.opo.toNat,by omega⟩;have aD:op<65536:=by omega
   obtain⟨X,Y,hX,hY,hXY,aO⟩:=ahi (sa:=b.oad) (da:=134744072) (p:=b.opo) (q:=(t:Int)) (L:=l) ⟨by omega,by omega⟩ ⟨by omega,by omega⟩ (by omega);obtain⟨⟨rfl,rfl,rfl,rfl,rfl,rfl,rfl,rfl,rfl⟩,po',pd'⟩:=hP;have aP:=ag0 (oad:=b.oad) mo2 pg.2.1 rfl (l:=NW b.oad 134744072 b.opo (t:Int) false l) (by rw[aO,plen]);obtain⟨zx,zy,zl⟩:=abO (q:=(dgq n t l b)) rfl hX hY;refine aai (λi _=>by rw[gY,ahn,hr.cell]) ?_;refine cmS5 (RN.Yv (dgq n t l b) po' pd' (by simp[rQ]) (by rw[aO];omega)) ?_;rintro rb _ V1 ⟨rfl,_,aE,fV,_⟩;have hb:=iH.iM (aE aP);have aF:=hb.1.trans (zl.trans (show _=28+l.length by show 20+(NW b.oad 134744072 b.opo (t:Int) false l).length=_;omega));have xV:Ext w V:=x5.new hB.fr λb hb ho=>by have:=N b ho;omega
   have zV:=hB.fr.size;have zV1:=fV.size;have rv:Row V1 v [Β i]:=(r5.fr hB.fr nv).ext fV;have rux:Row V1 u [.int .u16 (n:Int)]:=(ru5.fr hB.fr nu).ext fV;have rax:Row V1 a (jO p0 p1 p2 p3 p4 p5 p6 p7 p8 p9 p10 p11 p12 p13 p14 p15 sw po n18 n19 n20 n21 n22 n23 n24 n25 n26 n27 n28 n29 n30 n31 n32 n33 n34 st):=(((r3.ext ab).fr hB.fr λho=>by have:=N _ ho;have:=r1W.lt;omega)).ext fV;have rgx:=hr.ext fV;have hB1:=hB.ext fV;have hE1:=hB1.en;have O:∀b,iW a4 b->b<V1.heap.size:=λb ⟨k,hk⟩=>hE1.lt k b hk;intro aY;rw[aP,show ((0:Int) !=0)=false from rfl,aaf,show decide ((rb.len:Int)<28)=false by rw[adX];omega];simp -zeta only[aY,aaf];intro aG;have aa:∀(g2:Nat) V2 o2 d2,Ext V1 V2->Row V2 g2 (gX (N7 oa op t l).tos (N7 oa op t l).id (N7 oa op t l).off (N7 oa op t l).ttl (N7 oa op t l).proto (N7 oa op t l).src (N7 oa op t l).dst (N7 oa op t l).df (N7 oa op t l).mf o2 d2)->V1.heap.size<=g2->iH V2 o2 (N7 oa op t l).opts->iH V2 d2 (N7 oa op t l).data->(∀x,d2.a=some x->V1.heap.size<=x.block)->aG ⟨g2,0,none⟩ V2:=by
    intro g2 V2 o2 d2 hV2 hr2 hg2 bo bd nd;simp -zeta only[aG];have hB2:=hB1.ext hV2;have hE2:=hB2.en;have rv2:=rv.ext hV2;obtain⟨pg2,pw20,pw22,plen2⟩:=afV aC aD ht l6';refine aai (λi _=>by rw[gY,ahn,hr2.cell]) ?_;rw[<- hB.x];refine ads hE2 hB2.gd hm (by have:=hB.tn;omega) (N7 oa op t l) pg2 rfl (by omega) bo bd (λad ha _ ho=>by have:=nd ad ha;have:=O _ ho;omega) λi' k0 k1 k2 k3 k4 k5 k6 k7 k8 k9 k10 why V3 f3 hw=> ?_;obtain⟨rfl,rfl,rfl,rfl,rfl⟩:=hB2.first (by omega) rfl aB.symm (by rw[pw20]) (by rw[pw22,hop]) rfl rfl hw
    refine gU λag V4 r4' e4' z4' f4'=> ?_;refine gZ r4' rfl rfl λV5 r6' f5' z5'=> ?_;have f5'':ig V4 V5 (·=ag):=f5' _ rfl;have zV2:=hV2.size;have zV3:=f3.size;have xx:Ext V2 V5:=(f3.trans f4').new f5'' λy hy e=>by omega
    have hB5:=hB2.ext xx;have hE5':=hB5.en;have aj:=hV2.trans xx;intro J122;rw[show ((0:Int) !=0)=false from rfl,aaf];refine Ld_i 0 i' (rv.ext aj) ?_;rw[show (i' !=i')=false by simp,aaf];refine Ld_i 6 167772161 r6' ?_;rw[show ((167772161:Int) !=167772161)=false from rfl,aaf];refine Ld_i 5 b.oad (rgx.ext aj) ?_;refine cmS0 (ahN hE5' b.oad) ?_;rintro r V6 ⟨rfl,hV6⟩;subst hV6;rw[show decide (b.oad∈c.pl)=true by rw[aff];exact mo4];simp -zeta only[J122,adt,aaf];have hb1:=hE3.cf.b1;have hs1:=hE3.cf.s1;have hl1:=hE5'.db.len;have hl2:=hE5'.se.len;have hl3:=Gp.Bind.jL e4.S 0;refine aiY hE5' ⟨by omega,by omega⟩ λbs ss V7 f7 aQ _ _ _=> ?_;have aF:=aQ.len;rw[aiz] at aF;refine ahg (aQ.sl Ul (by omega)) (by omega) ((rv.ext aj).ext f7) ((rux.ext aj).ext f7) ⟨by omega,by omega⟩ λr133 V8 f8 aZ=> ?_;have au:=(aj.trans f7).trans f8;have xV8:=(xV.trans fV).trans au;have hB8:=hB1.ext au;have hE8:=hB8.en;intro J135;have hJ135:∀W,Ext V8 W->J135 true W:=by
     intro W hW;simp -zeta only[J135,abt];exact aw W (xV8.trans hW)
    cases r133
    rotate_left
    ·exact hJ135 V8 (Ext.refl _)
    rw[aaf];refine cmS1 (adl hE8) ?_;rintro r V9 ⟨rfl,hV9⟩;subst hV9;by_cases ak:(e4.now:Int)>1099509530624
    ·rw[aff ak];exact hJ135 _ (Ext.refl _)
    rw[adX ak];simp -zeta only[J135,aaf];have Z:b.st=false:=by
     cases a6:b.st with
     |false=>rfl
     |true=>exact absurd ⟨a6,hB.b.1,hB.b.2.1,hB.b.2.2.1,hB.b.2.2.2⟩ (aZ rfl b (alp.2 ⟨((j:Int),b),Gp.Bind.kY.2 ⟨j,hB.S,by omega⟩,rfl⟩))
    have ra8:=(rax.ext au).drew;have x8d:=Ext.drew V9;refine Ld_i 30 n30 ra8 ?_;refine cmS1 (adl (hE8.ext x8d)) ?_;rintro r Va ⟨rfl,a7⟩;subst a7;refine⟨by rw[gY,ra8.cell];rfl,?_⟩;rw[Α];have x1d:=au.trans x8d;refine TP (hE8.ext x8d) hB8.gd _ λr Vb a9 e9 fb hE9 hG9 aH hx9 hA=> ?_;have a8:∀y,iW a4 y->W.heap.size<=y:=λy hy=>(hB.gr y hy).elim (N y) λh=>by have:=ab.size;omega
    have xVb:Ext w Vb:=(xV8.trans x8d).new fb λy hy ho=>by have:=a8 y ho;omega
    have ng2:¬iW a4 g2:=λh=>by have:=O g2 h;omega
    have nag:¬iW a4 ag:=λh=>by have:=O ag h;omega
    have am:=((xx.trans f7).trans f8).trans x8d;have r2b:=(hr2.ext am).fr fb ng2;have ba:=(f7.trans f8).trans x8d;have rab:=(r6'.ext ba).fr fb nag;have z28:=am.size;refine aai (λi _=>by rw[gY,ahn,r2b.cell]) ?_;rw[<- hx9];have ndb:∀ad,d2.a=some ad->0<(N7 oa op t l).data.length->¬iW a4 ad.block:=λad ha _ ho=>by have:=nd ad ha;have:=O _ ho;omega
    refine ads hE9 hG9 hm (by have:=hA.tn;have:=hB.tn;omega) (N7 oa op t l) pg2 rfl (by omega) ((bo.ext am).fr fb λ_ _ h=>absurd h (by simp[rQ])) ((bd.ext am).fr fb ndb) (λad ha h0 ho=>(aH _ ho).elim (ndb ad ha h0) λh=>by have:=Ν (bd.ext am) ha h0;omega) λi'' q0 q1 q2 q3 q4 q5 q6 q7 q8 q9 aR why Vc fc hw2=> ?_;obtain rfl:=hB8.second Z hA (by unfold EN.hop;have:=hB.gd.le;split<;>split<;>omega) hE9.db.good aB.symm (by rw[pw22,hop]) hw2
    refine gU λah Vd rd' ed' zd' fd'=> ?_;refine gZ rd' rfl rfl λVe re' fe' ze'=> ?_;have fe'':ig Vd Ve (·=ah):=fe' _ rfl;have zfc:=fc.size;have xe:Ext Vb Ve:=(fc.trans fd').new fe'' λy hy e=>by omega
    intro J173;rw[show ((9:Int)==9)=true from rfl,abt];refine aai (λi _=>by rw[gY,ahn,(rab.ext xe).cell]) ?_;refine cmS0 (NY _ _ _ _ _ _ _ _ _ _ _ _) ?_;rintro r Vf ⟨rfl,ff⟩;rw[show (!false && decide ((0:Int)<=0))=true from rfl,abt];exact aw Vf ((xVb.trans xe).trans ff)
   clear_value aG;have rd1:=rgx.drew;have x1:=Ext.drew V1;have cg:∀{V},Ext V1.drew V->V.cell? (Addr.add ⟨g,0,none⟩ 5)=some (Β b.oad):=λhf=>by rw[gY,(rd1.ext hf).cell];rfl
   refine Ld_i 5 b.oad rd1 ?_;obtain⟨A,hA,cx⟩:=hb.at_ zx;obtain⟨A',hA',cy⟩:=hb.at_ zy;rw[hA] at hA';obtain rfl:=akR hA';have ixs:∀{i:Int} {Q:Addr->Prop},0<=i->i<28->Q (A.add (i.toNat * 1))->iK rb 1 i Q:=λ{i Q} h0 h1 h=>by
    cases rb with
    |mk ra rl rc=>
     simp only at hA;subst hA;exact(yg ..).2 ⟨h0,by simp only at aF;omega,h⟩
   refine ixs (by omega) (by omega) (iO (k:= .int .u8) (y:=(X.toNat:Int)) cx ?_);refine ixs (by omega) (by omega) (iO (k:= .int .u8) (y:=(Y.toNat:Int)) cy ?_);have cX:∀{V},Ext V1.drew V->V.cell? (A.add ((20:Int).toNat * 1))=some (.int .u8 (X.toNat:Int)):=λhf=>kS cx (x1.trans hf);have cY:∀{V},Ext V1.drew V->V.cell? (A.add ((21:Int).toNat * 1))=some (.int .u8 (Y.toNat:Int)):=λhf=>kS cy (x1.trans hf);have an:∀V,Ext V1.drew V->jC 134744072 b.oad (ο.wrap (t:Int)) (ο.wrap (ο.wrap (ο.wrap (X.toNat:Int) * 256)+ο.wrap (Y.toNat:Int))) 9 d V λr V'=>iH V' r (N7 oa op t l).bytes/\Ext V V':=by
    intro V2 hV2;have hX8:=X.toNat_lt;have hY8:=Y.toNat_lt;rw[show ο.wrap (t:Int)=(t:Int) from Α,show ο.wrap (X.toNat:Int)=(X.toNat:Int) from Α,show ο.wrap (Y.toNat:Int)=(Y.toNat:Int) from Α,Α (n:=(X.toNat:Int) * 256) (by omega) (by omega),Α,show (X.toNat:Int) * 256+(Y.toNat:Int)=(op:Int) by omega,aB];exact Ug (a:=134744072) (ttl:=9) (hd.ext (((xV.trans fV).trans x1).trans hV2)) (by omega) (by omega) (by omega) ht (by omega) (by omega)
   have aI:∀{V:θ} {r:gG} {K:Int->Int->Int->Int->Int->Int->Int->Bool->Bool->gG->gG->b_},iH V r (N7 oa op t l).bytes->(∀o d w',Ext V w'->ahr V w' (N7 oa op t l) o d->K (N7 oa op t l).tos (N7 oa op t l).id (N7 oa op t l).off (N7 oa op t l).ttl (N7 oa op t l).proto (N7 oa op t l).src (N7 oa op t l).dst (N7 oa op t l).df (N7 oa op t l).mf o d w')->jB r V K:=λhr hK=>M_ (by omega) (by omega) ht (by omega) (by omega) (by omega) hr hK;have zd1:=x1.size;refine⟨?_,?_⟩
   ·refine cmS2 (an _ (Ext.refl _)) ?_;rintro r V2 ⟨hr2,g2⟩;have zg2:=g2.size;refine⟨?_,?_⟩
    ·refine aI hr2 λo dd V3 g3 ⟨bo,bd,no,nd⟩=> ?_;refine gU λq V4 rz ez zz fz=> ?_;have y4:=(g2.trans g3).trans fz;have zg3:=g3.size;refine⟨cY y4,cX y4,cg y4,?_⟩;refine gZ rz rfl rfl λV5 r5' f5' z5'=> ?_;have f5'':ig V4 V5 (·=q):=f5' _ rfl;exact aa q V5 o dd ((x1.trans y4).new f5'' λy hy e=>by omega) r5' (by omega) ((bo.ext fz).fr f5'' λ_ _ h=>absurd h (by simp[rQ])) ((bd.ext fz).fr f5'' λad ha h0 e=>by have:=Ν bd ha h0;omega) λx hx=>by have:=nd x hx;omega
    ·refine gU λq V3 rz ez zz fz=> ?_;have y3:=g2.trans fz;refine⟨cY y3,cX y3,cg y3,?_⟩;refine aI (hr2.ext fz) λo dd V4 g4 ⟨bo,bd,no,nd⟩=> ?_;refine gZ (rz.ext g4) rfl rfl λV5 r5' f5' z5'=> ?_;have f5'':ig V4 V5 (·=q):=f5' _ rfl;have zg4:=g4.size;exact aa q V5 o dd ((x1.trans (y3.trans g4)).new f5'' λy hy e=>by omega) r5' (by omega) (bo.fr f5'' λ_ _ h=>absurd h (by simp[rQ])) (bd.fr f5'' λad ha h0 e=>by have:=nd ad ha;omega) λx hx=>by have:=nd x hx;omega
   ·refine gU λq V2 rz ez zz fz=> ?_;refine⟨cY fz,cX fz,cg fz,?_⟩;refine cmS2 (an _ fz) ?_;rintro r V3 ⟨hr3,g3⟩;have zg3:=g3.size;refine aI hr3 λo dd V4 g4 ⟨bo,bd,no,nd⟩=> ?_;refine gZ ((rz.ext g3).ext g4) rfl rfl λV5 r5' f5' z5'=> ?_;have f5'':ig V4 V5 (·=q):=f5' _ rfl;have zg4:=g4.size;exact aa q V5 o dd ((x1.trans ((fz.trans g3).trans g4)).new f5'' λy hy e=>by omega) r5' (by omega) (bo.fr f5'' λ_ _ h=>absurd h (by simp[rQ])) (bd.fr f5'' λad ha h0 e=>by have:=nd ad ha;omega) λx hx=>by have:=nd x hx;omega
  clear_value U;have ao:∀V o dd (K:Int->Int->Int->Int->Int->Int->Int->Bool->Bool->gG->gG->Int->b_),Ext w5 V->iH V o (MX n t l).opts->iH V dd (MX n t l).data->(∀x,dd.a=some x->w5.heap.size<=x.block)->
    (∀y0 y1 y2 y3 y4 y5 y6 y7 y8 y9 I why V',Ext V V'->(why=5\/why=6\/why=7)->K y0 y1 y2 y3 y4 y5 y6 y7 y8 y9 I why V')->
    (∀y0 y1 y2 y3 y4 y5 y6 y7 y8 y9 I V' a4 e4 j b k s',Bk c w5 V' a3 a4 e4 i n t j b k s'->PkR V' (dgq n t l b) y0 y1 y2 y3 y4 y5 y6 y7 y8 y9 I->ig V V' (iW a3)->(∀b,iW a4 b->iW a3 b\/V.heap.size<=b)->K y0 y1 y2 y3 y4 y5 y6 y7 y8 y9 I 0 V')->
    jH (some ⟨a3.x,0,none⟩) i (MX n t l).tos (MX n t l).id (MX n t l).off (MX n t l).ttl (MX n t l).proto (MX n t l).src (MX n t l).dst (MX n t l).df (MX n t l).mf o dd V K:=by
   intro V o dd K hV bo bd nd hd1 hk1;have zV:=hV.size;refine out_ok (hE5.ext hV) hG3 hm (by omega) (hH.ext (x5.trans hV)) (λh=>by have:=N 0 h;omega) i (MX n t l) bo bd (by simp[rQ]) (by omega) (λ_ _ h=>absurd h (by simp[rQ])) (λad ha _ ho=>by have:=nd ad ha;have:=af _ ho;omega) ?_ ?_
   ·intro y0 y1 y2 y3 y4 y5 y6 y7 y8 y9 I why V' hx hL;obtain⟨hf,_⟩:=hL ai;refine hd1 _ _ _ _ _ _ _ _ _ _ _ why V' hx ?_;rcases hf with ⟨rfl,_⟩|⟨rfl,_⟩|⟨rfl,_⟩<;>simp
   ·intro y0 y1 y2 y3 y4 y5 y6 y7 y8 y9 I V' a4 e4 hf hE hG aq bb Z hL;obtain⟨⟨j,b,k,s',q1,q2,q3,q4,q5,q6,q7,q8,q9,_,aJ,_⟩,_⟩:=hL ai;rw[pw0] at q5;rw[pw2] at q9 aJ;rw[pd8] at aJ;have:=Z.tn;exact hk1 _ _ _ _ _ _ _ _ _ _ _ V' a4 e4 j b k s' ⟨(hV _).trans hf λ_ _ h=>h,hE,hG,λy hy=>(aq y hy).imp (λh=>h) λh=>by omega,bb,Z.Un hG3 hU3,by omega,q1,⟨q2,q3,q4,q5⟩,q6,q7,q8,q9⟩ aJ hf aq
  have aS:∀(g:Nat) V y0 y1 y2 y3 y4 y5 y6 y7 y8 y9 I (why:Int),Row V g ξ->w5.heap.size<=g->Ext w5 V->(why=5\/why=6\/why=7)->iE (gX y0 y1 y2 y3 y4 y5 y6 y7 y8 y9 I) V ⟨g,0,none⟩ 0 λV'=>U ⟨g,0,none⟩ why V':=by
   intro g V y0 y1 y2 y3 y4 y5 y6 y7 y8 y9 I why hr hg hV hw;have:=x5.size;refine gZ hr rfl rfl λV' r' f' z'=>aW g why V' ((x5.trans hV).new (f' (·=g) rfl) λy hy e=>by omega) hw
  have aT:∀(g:Nat) V y0 y1 y2 y3 y4 y5 y6 y7 y8 y9 I a4 e4 j b k s',Row V g ξ->w5.heap.size<=g->¬iW a4 g->Bk c w5 V a3 a4 e4 i n t j b k s'->PkR V (dgq n t l b) y0 y1 y2 y3 y4 y5 y6 y7 y8 y9 I->iE (gX y0 y1 y2 y3 y4 y5 y6 y7 y8 y9 I) V ⟨g,0,none⟩ 0 λV'=>U ⟨g,0,none⟩ 0 V':=by
   intro g V y0 y1 y2 y3 y4 y5 y6 y7 y8 y9 I a4 e4 j b k s' hr hg aA hB hP;refine gZ hr rfl rfl λV' r' f'' z'=> ?_;have f':ig V V' (·=g):=f'' _ rfl;exact aX g V' a4 e4 j b k s' _ _ _ _ _ _ _ _ _ _ _ (hB.frg f' hg aA) ⟨hP.f,hP.o.fr f' λad ha h0 e=>jo hr (by simp) hP.o ha h0 e,hP.d.fr f' λad ha h0 e=>jo hr (by simp) hP.d ha h0 e⟩ r' hg aA
  have last:∀(g:Nat) V o dd,Ext w5 V->Row V g ξ->w5.heap.size<=g->iH V o (MX n t l).opts->iH V dd (MX n t l).data->(∀x,dd.a=some x->w5.heap.size<=x.block)->
    jH (some ⟨a3.x,0,none⟩) i (MX n t l).tos (MX n t l).id (MX n t l).off (MX n t l).ttl (MX n t l).proto (MX n t l).src (MX n t l).dst (MX n t l).df (MX n t l).mf o dd V λy0 y1 y2 y3 y4 y5 y6 y7 y8 y9 I why V'=>iE (gX y0 y1 y2 y3 y4 y5 y6 y7 y8 y9 I) V' ⟨g,0,none⟩ 0 λV''=>U ⟨g,0,none⟩ why V'':=by
   intro g V o dd hV hr hg bo bd nd;have n3:¬iW a3 g:=λh=>by have:=af _ h;omega
   refine ao V o dd _ hV bo bd nd (λy0 y1 y2 y3 y4 y5 y6 y7 y8 y9 I why V' hx hw=>aS g V' _ _ _ _ _ _ _ _ _ _ _ why (hr.ext hx) hg (hV.trans hx) hw) λy0 y1 y2 y3 y4 y5 y6 y7 y8 y9 I V' a4 e4 j b k s' hB hP hf aq=> ?_;exact aT g V' _ _ _ _ _ _ _ _ _ _ _ a4 e4 j b k s' (hr.fr hf n3) hg (λh=>(aq g h).elim n3 λh=>by have:=hr.lt;omega) hB hP
  refine Ld_i 0 i r5.drew (iF (k:= .int .u16) (i:=0) (x:=(n:Int)) ru5.drew rfl ?_);have x5d:=Ext.drew w5;have zd:=x5d.size;refine⟨?_,?_⟩
  ·refine cmS2 (aM _ x5d) ?_;rintro r V1 ⟨hr1,g1⟩;have y1:=x5d.trans g1;have zy1:=y1.size;refine⟨cv (y1 _),?_,?_⟩
   ·refine M_ (by omega) (by omega) hn ht (by omega) (by omega) hr1 λo dd V2 g2 ⟨bo,bd,no,nd⟩=> ?_;have y2:=y1.trans g2;have zy2:=y2.size;have nd':∀x,dd.a=some x->w5.heap.size<=x.block:=λx hx=>by have:=nd x hx;omega
    refine⟨cv (y2 _),?_,?_⟩
    ·refine ao V2 o dd _ y2 bo bd nd' (λq0 q1 q2 q3 q4 q5 q6 q7 q8 q9 aR why V3 hx hw=> ?_) λq0 q1 q2 q3 q4 q5 q6 q7 q8 q9 aR V3 a4 e4 j b k s' hB hP hf aq=> ?_
     ·refine gU λg V4 rz ez zz fz=> ?_;have y4:=(y2.trans hx).trans fz;have zz3:=(y2.trans hx).size;exact⟨cu (y4 _),cv (y4 _),aS g V4 _ _ _ _ _ _ _ _ _ _ _ why rz (by omega) y4 hw⟩
     ·refine gU λg V4 rz ez zz fz=> ?_;have zz3:=hB.fr.size;exact⟨cu (hB.fr.ext fz),cv (hB.fr.ext fz),aT g V4 _ _ _ _ _ _ _ _ _ _ _ a4 e4 j b k s' rz (by omega) (λ⟨q,hq⟩=>by have:=hB.en.lt q g hq;omega) (hB.ext fz) ⟨hP.f,hP.o.ext fz,hP.d.ext fz⟩⟩
    ·refine gU λg V3 rz ez zz fz=> ?_;have y3:=y2.trans fz;exact⟨cu (y3 _),cv (y3 _),last g V3 o dd y3 rz (by omega) (bo.ext fz) (bd.ext fz) nd'⟩
   ·refine gU λg V2 rz ez zz fz=> ?_;have y2:=y1.trans fz;have zy2:=y2.size;refine⟨cu (y2 _),cv (y2 _),?_⟩;refine M_ (by omega) (by omega) hn ht (by omega) (by omega) (hr1.ext fz) λo dd V3 g3 ⟨bo,bd,no,nd⟩=> ?_;have y3:=y2.trans g3;exact⟨cv (y3 _),last g V3 o dd y3 (rz.ext g3) (by omega) bo bd λx hx=>by have:=nd x hx;omega⟩
  ·refine gU λg V1 rz ez zz fz=> ?_;have y1:=x5d.trans fz;have zy1:=y1.size;refine⟨cu (y1 _),cv (y1 _),?_⟩;refine cmS2 (aM _ y1) ?_;rintro r V2 ⟨hr2,g2⟩;have y2:=y1.trans g2;have zy2:=y2.size;refine⟨cv (y2 _),?_⟩;refine M_ (by omega) (by omega) hn ht (by omega) (by omega) hr2 λo dd V3 g3 ⟨bo,bd,no,nd⟩=> ?_;have y3:=y2.trans g3;exact⟨cv (y3 _),last g V3 o dd y3 ((rz.ext g2).ext g3) (by omega) bo bd λx hx=>by have:=nd x hx;omega⟩
 clear_value J;refine rd _ _ r1 ?_;refine zY (aK.ext f1) (av.ext f1) (Z.ext f1) (λW hW=>ax W hW) λW hW l1 l2 l3 hc=> ?_;rw[adt,aaf];refine cmS0 (ajK (hs.ext (f1.trans hW))) ?_;rintro fr w3 ⟨hf,f3⟩
 cases fr
 ·exact ax w3 (hW.trans f3)
 obtain⟨hf1,hf2⟩:=hf rfl;rw[adt,aaf];by_cases h5:l.length<=500
 ·rw[show decide ((d.len:Int)>500)=false by rw[adX];omega];exact aV w3 (hW.trans f3) l1 l2 l3 hf1 hf2 h5 hc
 ·rw[show decide ((d.len:Int)>500)=true by rw[aff];omega];exact ax w3 (hW.trans f3)
end Go.Proofs.EN
end
section
namespace Go.Proofs.AN
open Gp Go.Proofs.CN
abbrev alb:jq:= .arr 16 (.int .u8) 1
abbrev aiN:jq:= .agg (.cons (.agg (.cons (.int .i64) 1 (.cons (.int .i64) 1 (.cons (.int .i64) 1 (.cons (.int .i64) 1 .nil))))) 4 (.cons (.agg (.cons (.int .i64) 1 (.cons (.int .i64) 1 (.cons (.int .i64) 1 .nil)))) 3 .nil))
def alc (l:List Int):T16:=(l.getD 0 0,l.getD 1 0,l.getD 2 0,l.getD 3 0,l.getD 4 0,l.getD 5 0,l.getD 6 0,l.getD 7 0,l.getD 8 0,l.getD 9 0,l.getD 10 0,l.getD 11 0,l.getD 12 0,l.getD 13 0,l.getD 14 0,l.getD 15 0,())
def ald (x:aiN.T):T7:=(x.1.1,x.1.2.1,x.1.2.2.1,x.1.2.2.2.1,x.2.1.1,x.2.1.2.1,x.2.1.2.2.1,())
theorem aa5 {l:List Int} (h:l.length=16):∃p0 p1 p2 p3 p4 p5 p6 p7 p8 p9 p10 p11 p12 p13 p14 p15:Int,l=[p0,p1,p2,p3,p4,p5,p6,p7,p8,p9,p10,p11,p12,p13,p14,p15]:=by
 match l,h with
 |[p0,p1,p2,p3,p4,p5,p6,p7,p8,p9,p10,p11,p12,p13,p14,p15],_=>exact⟨p0,p1,p2,p3,p4,p5,p6,p7,p8,p9,p10,p11,p12,p13,p14,p15,rfl⟩
theorem akj {w:θ} {x:(jq.slice alb 16).T} (h:(jq.slice alb 16).In w x):ny 16 e16 w x.1 (x.2.map alc):=
 Ο (by decide) h alc e16 qQ λy hy=>by
  obtain⟨p0,p1,p2,p3,p4,p5,p6,p7,p8,p9,p10,p11,p12,p13,p14,p15,rfl⟩:=aa5 hy.1;rfl
theorem ajP {w:θ} {x:(jq.slice (.int .i64) 1).T} (h:(jq.slice (.int .i64) 1).In w x):ny 1 eI w x.1 (x.2.map λy:Int=>y):=
 Ο (d:= .int .i64) (by decide) h (λy:Int=>y) eI (λ_=>rfl) λy hy=>rfl
theorem akk {w:θ} {x:(jq.slice aiN 7).T} (h:(jq.slice aiN 7).In w x):ny 7 e7 w x.1 (x.2.map ald):=
 Ο (by decide) h ald e7 xw λy hy=>rfl
abbrev alI:jq:= .agg (.cons (.int .i64) 1 (.cons (.int .i64) 1 (.cons (.int .i64) 1 (.cons (.int .i64) 1 (.cons (.int .i64) 1 (.cons (.int .i64) 1 (.cons (.int .i64) 1 (.cons .bool 1 (.cons .bool 1 (.cons (.slice (.int .u8) 1) 1 (.cons (.slice (.int .u8) 1) 1 .nil)))))))))))
abbrev doD:jq:= .agg (.cons (.int .i64) 1 (.cons (.int .i64) 1 (.cons (.int .i64) 1 (.cons (.slice (.int .u8) 1) 1 (.cons alI 11 (.cons aiN 7 .nil))))))
def byG (l:List Int):List UInt8:=l.map λn:Int=>UInt8.ofNat n.toNat
def doG (x:doD.T):Dn:=
 ⟨x.1,x.2.1,x.2.2.1,x.2.2.2.1.1,byG x.2.2.2.1.2,⟨x.2.2.2.2.1.1,x.2.2.2.2.1.2.1,x.2.2.2.2.1.2.2.1,x.2.2.2.2.1.2.2.2.1,x.2.2.2.2.1.2.2.2.2.1,x.2.2.2.2.1.2.2.2.2.2.1,x.2.2.2.2.1.2.2.2.2.2.2.1,x.2.2.2.2.1.2.2.2.2.2.2.2.1,x.2.2.2.2.1.2.2.2.2.2.2.2.2.1,byG x.2.2.2.2.1.2.2.2.2.2.2.2.2.2.1.2,byG x.2.2.2.2.1.2.2.2.2.2.2.2.2.2.2.1.2⟩,
  x.2.2.2.2.1.2.2.2.2.2.2.2.2.2.1.1,x.2.2.2.2.1.2.2.2.2.2.2.2.2.2.2.1.1,x.2.2.2.2.2.1.1.1,x.2.2.2.2.2.1.1.2.1,x.2.2.2.2.2.1.1.2.2.1,x.2.2.2.2.2.1.1.2.2.2.1,x.2.2.2.2.2.1.2.1.1,x.2.2.2.2.2.1.2.1.2.1,x.2.2.2.2.2.1.2.1.2.2.1⟩
theorem akS {w:θ} {x:(jq.slice doD 22).T} (h:(jq.slice doD 22).In w x):ϖ w x.1 (x.2.map doG):=by
 refine⟨Ο (by decide) h doG dnV adf λy hy=>rfl,λy hy=> ?_,λy hy=> ?_⟩<;>obtain⟨z,hz,rfl⟩:=alp.1 hy<;>have u:=h.2 z hz
 rotate_left
 ·have ht:=u.2.2.2.2.2.1.1;intro n hn;simp only[agI,ajr,alf] at hn;rcases hn with rfl|rfl|rfl|rfl
  ·exact wf_i64 ht.1
  ·exact wf_i64 ht.2.1
  ·exact wf_i64 ht.2.2.1
  ·exact wf_i64 ht.2.2.2.1
 exact⟨Tf u.2.2.2.1,Tf u.2.2.2.2.1.2.2.2.2.2.2.2.2.2.1,Tf u.2.2.2.2.1.2.2.2.2.2.2.2.2.2.2.1⟩
end Go.Proofs.AN
end
section
namespace Go.Proofs.YtlpncoeijhpddaaGreatDoor
theorem aer {P:Program} {c:OpenClaim} (hs:c.start= .entering) (h:P.funcs.any Func.goes=false):false=c.goesBy P:=by
 unfold OpenClaim.goesBy Program.goesAt Program.goesFrom;rw[hs];have hg:∀f,P.goes f=false:=by
  intro f;unfold Program.goes;rw[h,Bool.and_false,Bool.or_false,List.any_eq_false];intro g _
  cases e:P.funcs[g]? with
  |none=>simp
  |some fn=>
   have:=Array.any_eq_false'.1 h fn (Array.mem_of_getElem? e);simpa using this
 cases P.funcNamed c.func with
 |none=>rfl
 |some f=>simp[hg]
theorem agk:υ.funcs.any Func.goes=false:=by kernel_rfl
end Go.Proofs.YtlpncoeijhpddaaGreatDoor
end
