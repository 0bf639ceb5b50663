import Derived.Test.YtlpphhjbjjdhfaaGreatDoorW16
import Derived.Test.YtlpphhjbjjdhfaaGreatDoorW14
import Derived.Test.YtlpphhjbjjdhfaaGreatDoorW10
import Derived.Test.YtlpphhjbjjdhfaaGreatDoorW3
import Derived.Test.YtlpphhjbjjdhfaaGreatDoorRows
import GoSem.ClaimGoes
import Derived.KernelRfl
set_option maxRecDepth 100000
set_option maxHeartbeats 4000000
section
namespace Go.Proofs.EN
open Gp Gp.V4 Go.Proofs Go.Proofs.AN Go.Proofs.VN
open Gp.Bind (Bnd Slots live GoodB freeN getS In64)
open Gp.Ses (Ses)
variable {w w':θ} {a:EA} {c:Cf} {e:ES}
structure uQ (e e':ES):Prop where
 S:e'.S=e.S
 now:e'.now=e.now
 tn:e'.tn<=e.tn+1
theorem afr (h:lH w a c e) (hg:Gd c e) (hm:CfM c) (ht:e.tn<2^62) {bd ra rp st:Int} {so:Option Int} (u:e.M (Bind.keyS [bd,ra,rp])=so) (hb:∃(j:Nat) (b:Bnd),bd=(j:Int)/\e.S[j]? =some (some b)) (i3:∀n∈[bd,ra,rp],In64 n)
  (p:lV) {o d:fU} (ho:iD w o p.opts) (hd:iD w d p.data) (h1:p.opts.length<=2^40) (h2:p.data.length<=2^40) {K:Int->b_}
  (hE:∀r w',Ext w w'->p.proto=6->r≠0->K r w')
  (hK:∀w' a' e',gV w w' (iZ a)->lH w' a' c e'->Gd c e'->Grow a a' w.heap.size->a'.x=a.x->uQ e e'->(p.proto≠6->Ext w w')->K 0 w'):
  uD (some ⟨a.x,0,none⟩) bd true (so.getD 0) so.isSome st ra rp p.tos p.id p.off p.ttl p.proto p.src p.dst p.df p.mf o d w K:=by
 apply Ja;refine gy λb7 w1 r1 e1 z1 f1=> ?_;refine gy λb8 w2 r2 e2 z2 f2=> ?_;have x2:=f1.trans f2;have r1:=r1.ext f2;refine gZ r2 rfl ?_;by_cases hp:p.proto=6;rotate_left
 ·rw[show (p.proto !=6)=true by simp_all,aaU];exact hK w2 a e (x2 _) (h.ext x2) hg (Grow.refl a _) rfl ⟨rfl,rfl,by omega⟩ λ_=>x2
 rw[show (p.proto !=6)=false by rw[hp];rfl,aaT];refine rd7 r1 (kJ r2 ?_);refine cmS3 (step_ok _ _ _ _ _ _ _ p (ho.ext x2) (hd.ext x2) h1 h2 false) ?_;rintro nx ok w3 ⟨_,f3⟩;have r3:=r1.ext f3;have r4:=r2.ext f3;have x3:=x2.trans f3
 cases ok
 ·rw[afa,aaU];exact hE 8 w3 x3 hp (by decide)
 rw[adp,aaT];intro J;have hJ:∀q W,Ext w3 W->(q=false->so.isSome=true\/((Gp.Ses.live 0 e.SS).length:Int)<c.ns)->J q W:=by
  intro q W hx hq;simp -zeta only[J]
  cases q
  rotate_left
  ·rw[aaU];exact hE 6 W (x3.trans hx) hp (by decide)
  rw[aaT];refine rd7 (r3.ext hx) ?_;refine gZ (r4.ext hx) rfl ?_;have zx:=(x3.trans hx).size;refine acS (h.ext (x3.trans hx)) hg hm (.inr (.inl hp)) ht ?_ λw4 a' M F k s f4 _ _ _ _ hE' hG I N=>hK w4 a' _ (((x3.trans hx) _).trans f4 λ_ _ q=>q) hE' hG (λb hb=>(I b hb).imp (λh=>h) λh=>by omega) N ⟨rfl,rfl,Int.le_refl _⟩ λhh=>absurd hp hh
  cases so with
  |some v=>
   obtain⟨k,s,g1,g2,_⟩:=afV h i3 u
   grind
  |none=>
   simp_all
 clear_value J;refine gZ r3 rfl ?_
 cases hs:so.isSome
 rotate_left
 ·rw[adp,aaT];exact hJ false w3 (Ext.refl _) λ_=> .inl hs
 rw[afa,aaU];refine cmS0 (TN (h.ext x3)) ?_;rintro r w4 ⟨rfl,f4⟩;exact hJ _ w4 f4 λhh=> .inr (by simp_all)
theorem afb (h:lH w a c e) (hm:CfM c):w.cell? (Addr.add (Addr.add ⟨a.x,0,none⟩ 5) 29)=some (Β (ci c 29)):=by
 obtain⟨A0,A1,A2,A3,A4,A5,A6,A7,A8,A9,A10,A11,A12,A13,A14,A15,A16,A17,A18,A19,A20,A21,A22,A23,A24,A25,A26,A27,A28,A29,A30,A31,A32,A33,A34,A35,hC,_⟩:=hm.wt;rw[gJ,gJ,h.hd.cell];unfold ci;rw[hC];rfl
def InG (c:Cf) (e:ES) (p:lV) (i x6 why:Int):Prop:=
 (why=9/\e.Mo (Bind.keyS [17,p.dst,(wordAt p.data 2:Int)])=none)\/∃(j:Nat) (b:Bnd),e.Mo (Bind.keyS [17,p.dst,(wordAt p.data 2:Int)])=some (j:Int)/\e.S[j]? =some (some b)/\
  ((why=10/\b.st=false/\¬alw (ci c 29) p.src (wordAt p.data 0:Int) (rem e (j:Int)))\/(why=0/\(b.st=true\/alw (ci c 29) p.src (wordAt p.data 0:Int) (rem e (j:Int)))/\i=b.sw/\x6=b.ad))
theorem acP (h:lH w a c e) (hg:Gd c e) (hm:CfM c) (ht:e.tn<2^62) (p:lV) {o d:fU} (ho:iD w o p.opts) (hd:iD w d p.data) (h1:p.opts.length<=2^40) (h2:p.data.length<=2^40)
  (ao:∀ad,o.a=some ad->0<p.opts.length->¬iZ a ad.block) (aq:∀ad,d.a=some ad->0<p.data.length->¬iZ a ad.block) (ar:∀(j:Nat) (b:Bnd),e.S[j]? =some (some b)->af5 c b)
  {K:Int->Int->Int->Int->Int->Int->Int->Int->Bool->Bool->fU->fU->Int->b_}
  (hE:∀i x0 x1 x2 x3 x4 x5 x6 x7 x8 x9 R why w',Ext w w'->(ug p->p.data.length<=60000->InG c e p i x6 why)->K i x0 x1 x2 x3 x4 x5 x6 x7 x8 x9 R why w')
  (hK:∀i x0 x1 x2 x3 x4 x5 x6 x7 x8 x9 R w' a' e',gV w w' (iZ a)->lH w' a' c e'->Gd c e'->Grow a a' w.heap.size->a'.x=a.x->uQ e e'->(p.proto≠6->Ext w w')->(ug p->p.data.length<=60000->InG c e p i x6 0)->K i x0 x1 x2 x3 x4 x5 x6 x7 x8 x9 R 0 w'):
  nH (some ⟨a.x,0,none⟩) p.tos p.id p.off p.ttl p.proto p.src p.dst p.df p.mf o d w K:=by
 apply OB;refine gy λb1 w1 r1 e1 z1 f1=> ?_;refine gy λb2 w2 r2 e2 z2 f2=> ?_;have x2:=f1.trans f2;have r1:=r1.ext f2;have za:=f1.size;have zb:=f2.size;have fin:∀(W:θ) (why:Int),Ext w2 W->(ug p->p.data.length<=60000->∀i x6,InG c e p i x6 why)->
   h_ ξ W ⟨b2,0,none⟩ 0 λU=>iq U ⟨b2,0,none⟩ λy0 y1 y2 y3 y4 y5 y6 y7 y8 y9 Y=>K 0 y0 y1 y2 y3 y4 y5 y6 y7 y8 y9 Y why U:=by
  intro W why hW hL;refine gU (r2.ext hW) rfl rfl λw4 r4 f4' z4=> ?_;have f4:=f4' _ rfl;refine kJ r4 ?_;exact hE _ _ _ _ _ _ _ _ _ _ _ _ why w4 ((x2.trans hW).new f4 λy hy e=>by omega) λq1 q2=>hL q1 q2 _ _
 intro J7;have hJ7:∀v W,Ext w2 W->(v=true->¬ug p)->(v=false->p.check=0)->J7 v W:=by
  intro v W hW hv hc0;simp -zeta only[J7]
  cases v
  rotate_left
  ·rw[aaU];exact fin W 1 hW λhh=>absurd hh (hv rfl)
  have hc0:=hc0 rfl;rw[aaT];have r1W:=r1.ext hW;have xW:=x2.trans hW;refine kJ r1W ?_;refine XT p (hd.ext xW) h2 λk1 k2 k3 d' is w3 m f3 hd' au av=> ?_;refine gy λb3 w4 r4 e4 z4 f4=> ?_;refine gU r4 rfl rfl λw5 r5 f5' z5=> ?_;have f5:=f5' _ rfl;have af:=f4.new f5 λy hy e=>by omega
  have g5:=f3.trans af
  cases is
  rotate_left
  ·rw[aaU];have hn:¬ug p:=λhh=>by have:=av rfl;have:=hh.1;omega
   refine kJ (r1W.ext g5) ?_;refine X5 (K:=λx53 x54 x55 x56 W=>_) r5 ?_;refine abr (h.ext (xW.trans g5)) p (ho.ext (xW.trans g5)) h1 k1 k2 k3 (hd'.ext af) au λi y0 y1 y2 y3 y4 y5 y6 y7 y8 y9 Y why w6 f6=> ?_;refine StN_f ((r2.ext hW).ext (g5.trans f6)) λw7 r7 f7 z7=> ?_;refine kJ r7 ?_;exact hE _ _ _ _ _ _ _ _ _ _ _ _ why w7 (((xW.trans g5).trans f6).nw f7) λhh=>absurd hh hn
  rw[aaT];refine kJ (r1W.ext g5) ?_;refine cmS10 (agm p (ho.ext (xW.trans g5)) (hd.ext (xW.trans g5)) h1 h2) ?_;rintro x y z ee w6 ⟨⟨iy,iz,hp0,Z⟩,f6⟩;refine gy λb4 w7 r7 e7 z7 f7=> ?_;refine StN_f r7 λw8 r8 f8 z8=> ?_;have g8:Ext W w8:=(g5.trans f6).trans (f7.nw f8);by_cases ag:ee=0;rotate_left
  ·rw[show (ee !=0)=true by simp_all,aaU];refine cmS1 (acT ee w8) ?_;rintro r w9 ⟨hr,hw9⟩;subst hw9;exact fin w9 r (hW.trans g8) λhh=>absurd (Z hh).1 ag
  subst ag;rw[show ((0:Int) !=0)=false from rfl,aaT];obtain⟨rfl,hpr3⟩:=hp0 rfl;have g8d:=g8.trans (Ext.drew w8);have x8:=xW.trans g8d;have hE8:=h.ext x8;refine jM.2 (ig (k:= .ptr) (y:=some ⟨a.B.d,0,none⟩) (by rw[gJ];exact hE8.c2) ?_);refine Ld_i 0 p.proto r8.drew (Ld_i 6 p.dst (r1W.ext g8d) (Ld_i 2 z r8.drew ?_));obtain⟨idst,isrc⟩:In64 p.dst/\In64 p.src:=by
   obtain⟨q1,q2⟩:=(qC hc0).1.2.1;unfold kU at q1 q2;unfold In64;constructor<;>omega
  have ipr:In64 p.proto:=by unfold In64;omega
  have iz:In64 z:=by unfold mg at iz;unfold In64;omega
  have iy:In64 y:=by unfold mg at iy;unfold In64;omega
  refine cmS3 (NW hE8.db p.proto p.dst z (by
   intro n hn;simp only[agN,ajH,akL] at hn;rcases hn with rfl|rfl|rfl
   ·exact ipr
   ·exact idst
   ·exact iz)) ?_
  rintro n t w9 ⟨rfl,rfl,f9⟩;have g9:=g8d.trans f9;have hkey:ug p->Bind.keyS [17,p.dst,(wordAt p.data 2:Int)]=Bind.keyS [p.proto,p.dst,z]:=λhh=>by rw[hh.1,(Z hh).2.2]
  have aw:ug p->(wordAt p.data 0:Int)=y:=λhh=>(Z hh).2.1.symm
  cases ax:e.Mo (Bind.keyS [p.proto,p.dst,z]) with
  |none=>
   rw[ald,afa,aaU];exact fin w9 9 (hW.trans g9) λhh _ _ _=> .inl ⟨rfl,by grind⟩
  |some v=>
  rw[ajX,adp,aaT,alf];obtain⟨j,b,hj,_,rfl⟩:=(h.db.good.o _ _).1 ax;have ay:getS e.S (j:Int)=some b:=Gp.Bind.kY.2 ⟨by omega,by trivial⟩;have hE9:=h.ext (xW.trans g9);refine jM.2 (ig (k:= .ptr) (y:=some ⟨a.B.d,0,none⟩) (by rw[gJ];exact hE9.c2) ?_);refine cmS14 (Dq hE9.db _) ?_;rintro a1 a2 a3 a4 a5 a6 a7 a8 r w10 ⟨_,hR,f10⟩;rw[ay] at hR;obtain⟨rfl,rfl,rfl,rfl,rfl,rfl,rfl,rfl⟩:=hR;refine gy λb5 U az e11 z11 f11=> ?_;refine StN_f az λah aA f12 z12=> ?_;have zf10:=f10.size;have zg9:=(xW.trans g9).size;have g12:Ext w8.drew ah:=f9.trans (f10.trans (f11.nw f12));have r1C:=(r1W.ext g8d).ext g12;refine Ld_i 0 p.proto (r8.drew.ext g12) (Ld_i 5 p.src r1C (Ld_i 1 y (r8.drew.ext g12) ?_));refine cmS13 (Ql _ _ _ _) ?_;rintro _ rp w13 ⟨rfl,ai,f13⟩;have irp:In64 rp:=(by rw[ai];split<;>first|decide|exact iy);have hgr:ug p->(wordAt p.data 0:Int)=rp:=λhh=>by rw[ai,ada (by have:=hh.1;omega)];exact aw hh
  have hE13:=(hE8.ext g12).ext f13;have ij:In64 (j:Int):=by
   have:=(aeK.1 hj).1;have:=h.db.len;have:=h.cf.b1;unfold In64;omega
  have i3:∀n∈[(j:Int),p.src,rp],In64 n:=by
   intro n hn;simp only[agN,ajH,akL] at hn;rcases hn with rfl|rfl|rfl
   ·exact ij
   ·exact isrc
   ·exact irp
  refine find_ok hE13 (j:Int) true p.src _ i3 λw14 f14=> ?_;generalize ah8 e (Vq e true (j:Int) p.src rp)=st;generalize aa:Vq e true (j:Int) p.src rp=so;have aa:e.M (Bind.keyS [(j:Int),p.src,rp])=so:=aa;refine gy λb6 w15 aB e15 z15 f15=> ?_;refine StN_f aB λI ab f16 z16=> ?_;have g16:Ext ah I:=f13.trans (f14.trans (f15.nw f16));have g16d:=g16.trans (Ext.drew I);have r1D:=r1C.ext g16d;have r12D:=aA.ext g16d;have xD:Ext w2 I.drew:=(hW.trans g8d).trans (g12.trans g16d);have zD:=xD.size;have lt1:=r1D.lt;have lt12:=r12D.lt;have ho1:∀q,w.heap.size<=q->¬iZ a q:=λq hq ⟨k,hk⟩=>by have:=h.lt k q hk;omega
  intro J168;have aj:∀W',Ext I.drew W'->(ug p->b.st=true\/alw (ci c 29) p.src rp (rem e (j:Int)))->J168 false W':=by
   intro W' hW' aC;simp -zeta only[J168];rw[aaT];have ac:=ab.drew.ext hW';have r1':=r1D.ext hW';have xW':Ext w W':=x2.trans (xD.trans hW');refine rd7 ac (kJ r1' ?_);refine afr (h.ext xW') hg hm ht aa ⟨j,b,rfl,hj⟩ i3 p (ho.ext xW') (hd.ext xW') h1 h2 (λr u f17 h6 hr=> ?_) λu a' e' f17 hE' hG' J hx' aD aE=> ?_
   ·rw[show (r !=0)=true by simp_all,aaU];exact fin u r ((xD.trans hW').trans f17) λhh=>by have:=hh.1;omega
   show cond false _ _;rw[aaT];have zW:=(xD.trans hW').size;have zV:=f17.size;have aF:iD u o p.opts:=(ho.ext xW').fr f17 λad q1 q2=>ao ad q1 q2;have aG:iD u d p.data:=(hd.ext xW').fr f17 λad q1 q2=>aq ad q1 q2;have r1V:=r1'.fr f17 (ho1 _ (by omega));have r5V:=(r12D.ext hW').fr f17 (ho1 _ (by omega));have r2V:=(r2.ext (xD.trans hW')).fr f17 (ho1 _ (by omega));refine kJ r1V ?_;refine Ld_i 2 b.ad r5V (Ld_i 3 b.po r5V ?_);refine akG p aF aG h1 h2 b.ad b.po λy0 y1 y2 y3 y4 y5 y6 y7 y8 y9 Y ee w19 f19 hM=> ?_;refine gy λb9 w20 aH e20 z20 f20=> ?_;refine StN_f aH λak aI f21 z21=> ?_;have zf19:=f19.size;have N:Ext u ak.drew:=(f19.trans (f20.nw f21)).trans (Ext.drew ak);refine Ld_i 0 b.sw (r5V.ext N) (kJ aI.drew ?_);refine StN_f (r2V.ext N) λae aJ f22 z22=> ?_;refine kJ aJ ?_;have lb2:=r2V.lt;have fT:gV u ae (·=b2):=(N _).trans f22 λ_ _ q=>q;have fA:gV w ae (iZ a):=((xW' _).trans f17 λ_ _ q=>q).trans fT λy hy e=>by omega
   have n2:¬iZ a' b2:=λhh=>(J b2 hh).elim (ho1 b2 (by omega)) λh=>by omega
   refine hK _ _ _ _ _ _ _ _ _ _ _ _ ae a' e' fA (hE'.fr fT λk q hq e=>n2 ⟨k,e ▸ hq⟩) hG' (λq hq=>(J q hq).imp (λh=>h) λh=>by omega) hx' aD (λhh=>((xW'.trans (aE hh)).trans N).nw f22) λhh hl=> .inr ⟨j,b,by grind,hj,.inr ⟨rfl,by grind,rfl,?_⟩⟩;have am:=ar j b hj;exact(hM ⟨hh,⟨(qC hc0).1.2.1.1,by unfold kU;have:=am.2.1;omega⟩,by have:=am.2.2.2.1;omega,hl⟩).dst
  have aK:∀W',Ext I.drew W'->b.st=false->(ug p->¬alw (ci c 29) p.src rp (rem e (j:Int)))->J168 true W':=by
   intro W' hW' O aC;simp -zeta only[J168];rw[aaU];exact fin W' 10 (xD.trans hW') λhh _ _ _=> .inr ⟨j,b,by grind,hj,.inl ⟨rfl,O,by grind⟩⟩
  clear_value J168;refine Ld_b 7 b.st r12D ?_
  cases O:b.st
  rotate_left
  ·rw[adp,aaT];exact aj _ (Ext.refl _) λ_=> .inl O
  rw[afa,aaU];have hE16:=hE8.ext (g12.trans g16d);have c5:∀{V:θ},Ext I.drew V->V.cell? (Addr.add (Addr.add ⟨b6,0,none⟩ 5) 0)=some (Β p.src)/\V.cell? (Addr.add (Addr.add ⟨b6,0,none⟩ 5) 1)=some (Β rp):=λhV=>⟨by rw[gJ,gJ,(ab.drew.ext hV).cell];rfl,by rw[gJ,gJ,(ab.drew.ext hV).cell];rfl⟩;obtain⟨k5,k6⟩:=c5 (Ext.refl _);refine jM.2 (ig (k:= .int .i64) (y:=ci c 29) (afb hE16 hm) (ig (k:= .int .i64) (y:=p.src) k5 (ig (k:= .int .i64) (y:=rp) k6 ?_)));refine cmS2 (ah2 hE16 _) ?_;rintro rs u ⟨aL,f17⟩;obtain⟨k5',k6'⟩:=c5 f17;refine⟨k5',k6',afb (hE16.ext f17) hm,?_⟩;have aM:(rem e (j:Int)).length<=2^40:=by
   unfold rem;rw[ahc];refine aj0 (amL _ _) ?_;have:=Gp.Ses.ji e.SS 0;have:=h.sl;have:=h.cf.s1;omega
  refine cmS0 (aeX _ _ _ aL aM) ?_;rintro rr an ⟨hr,f18⟩
  cases rr
  ·exact aK an (f17.trans f18) O λ_ hh=>by grind
  ·exact aj an (f17.trans f18) λ_=> .inr (hr.1 rfl)
 clear_value J7;refine cmS0 (xQ (h.ext x2)) ?_;rintro q w3 ⟨rfl,hw⟩;subst hw;rw[adp,aaT];refine kJ r1 ?_;refine cmS0 (XU p (ho.ext x2) (hd.ext x2) h1 h2) ?_;rintro q w3 ⟨rfl,f3⟩;refine hJ7 _ w3 f3 (λhv hh=> ?_) λhv=> ?_
 ·obtain⟨_,g2,g3,g4,_⟩:=hh
  simp_all
 simp_all
end Go.Proofs.EN
end
section
namespace Go.Proofs.EN
open Gp Gp.V4 Go.Proofs Go.Proofs.AN Go.Proofs.VN
open Go.Proofs.CN (T16 T7 e16 e7 OkP fineP chk chk_one refbase_ok base_good base_fine)
open Gp.Bind (Bnd Slots live GoodB freeN getS In64)
open Gp.Ses (Ses)
theorem ahD {e:ES} {j:Int} {x:Int×Int}:x∈rem e j↔∃(k:Nat) (s:Ses),e.SS[k]? =some (some s)/\s.bd=j/\(s.ra,s.rp)=x:=by
 unfold rem SN.zH;rw[akR];constructor
 ·rintro⟨⟨v,s⟩,hv,hx⟩;obtain⟨h1,h2⟩:=alv.1 hv;obtain⟨k,h3,_⟩:=Gp.Ses.jL.1 h1;exact⟨k,s,h3,by simpa using h2,hx⟩
 ·rintro⟨k,s,h1,h2,h3⟩;exact⟨((k:Int),s),alv.2 ⟨Gp.Ses.jL.2 ⟨k,h1,by omega⟩,by simpa using h2⟩,h3⟩
theorem take1:PN.DF 17 5000 1 1024 65535 [3325256705] []=some (17,3325256705,5000):=rfl
theorem dgw {a b src dst:Nat} (ha:a<4294967296) (hb:b<4294967296) (h1:src<65536) (h2:dst<65536):ug (uM a b src dst 9 [])/\wordAt (uM a b src dst 9 []).data 0=src/\wordAt (uM a b src dst 9 []).data 2=dst/\(uM a b src dst 9 []).data.length=8:=by
 obtain⟨q1,q2,q3,_,q5⟩:=afm (l:=[]) ha hb h1 h2 (show 9<256 by omega) (by simp);exact⟨q1,q2,q3,q5⟩
theorem aiC {w:θ} {a:EA} {c:Cf} {e:ES} (h:lH w a c e) (hG:Gd c e) (hm:CfM c) (ht:e.tn<2^62) (O:ci c 29=2) {j k:Nat} {b:Bnd} {s:Ses} (hj:e.S[j]? =some (some b)) (hb:b.o=[17,3325256705,5000]/\b.st=false)
  (hk:e.SS[k]? =some (some s)) (hs:s.bd=(j:Int)) (ho:∀(k':Nat) (s':Ses),e.SS[k']? =some (some s')->s'=s) (src:Nat) (I:src<4294967296) {o d:fU} (bo:iD w o (uM src 3325256705 53 5000 9 []).opts) (bd:iD w d (uM src 3325256705 53 5000 9 []).data) (nd:∀ad,d.a=some ad->¬iZ a ad.block)
  {K:Int->Int->Int->Int->Int->Int->Int->Int->Bool->Bool->fU->fU->Int->b_}
  (hD:∀i x0 x1 x2 x3 x4 x5 x6 x7 x8 x9 u w',Ext w w'->(s.ra,s.rp)≠((src:Int),53)->K i x0 x1 x2 x3 x4 x5 x6 x7 x8 x9 u 10 w')
  (hK:∀x0 x1 x2 x3 x4 x5 x7 x8 x9 u w',Ext w w'->(s.ra,s.rp)=((src:Int),53)->K b.sw x0 x1 x2 x3 x4 x5 b.ad x7 x8 x9 u 0 w'):
  nH (some ⟨a.x,0,none⟩) (uM src 3325256705 53 5000 9 []).tos (uM src 3325256705 53 5000 9 []).id (uM src 3325256705 53 5000 9 []).off (uM src 3325256705 53 5000 9 []).ttl (uM src 3325256705 53 5000 9 []).proto (uM src 3325256705 53 5000 9 []).src (uM src 3325256705 53 5000 9 []).dst (uM src 3325256705 53 5000 9 []).df (uM src 3325256705 53 5000 9 []).mf o d w K:=by
 obtain⟨q1,q2,q3,q4⟩:=dgw (a:=src) (b:=3325256705) (src:=53) (dst:=5000) I (by omega) (by omega) (by omega);have J:e.Mo (Bind.keyS [17,3325256705,5000])=some (j:Int):=(h.db.good.o _ _).2 ⟨j,b,hj,by rw[hb.1],rfl⟩;have N:alw (ci c 29) (src:Int) 53 (rem e (j:Int))↔(s.ra,s.rp)=((src:Int),53):=by
  unfold alw;rw[O,ahD];constructor
  ·rintro(h|⟨h,_⟩|⟨_,k',s',g1,_,g3⟩)
   ·omega
   ·omega
   ·rw[ho k' s' g1] at g3;exact g3
  ·exact λh=> .inr (.inr ⟨rfl,k,s,hk,hs,h⟩)
 have same:∀{j':Nat} {b':Bnd},e.Mo (Bind.keyS [17,3325256705,5000])=some (j':Int)->e.S[j']? =some (some b')->j'=j/\b'=b:=by
  intro j' b' h1 h2;rw[J] at h1;have:j=j':=by have:=alq h1;omega
  subst this;rw[hj] at h2;exact⟨rfl,(by simpa using h2:b=b').symm⟩
 have key:∀{i x6 why:Int},InG c e (uM src 3325256705 53 5000 9 []) i x6 why->(why=10/\(s.ra,s.rp)≠((src:Int),53))\/(why=0/\i=b.sw/\x6=b.ad/\(s.ra,s.rp)=((src:Int),53)):=by
  intro i x6 why hw;unfold InG at hw;rw[q2,q3] at hw;rcases hw with ⟨_,h⟩|⟨j',b',g1,g2,g3⟩
  ·have h:e.Mo (Bind.keyS [17,3325256705,5000])=none:=h;rw[J] at h;cases h
  ·obtain⟨rfl,rfl⟩:=same g1 g2;rcases g3 with ⟨rfl,_,g4⟩|⟨rfl,g4,rfl,rfl⟩
   ·exact .inl ⟨rfl,λhh=>g4 (N.2 hh)⟩
   ·rcases g4 with g4|g4
    ·rw[hb.2] at g4;cases g4
    ·exact .inr ⟨rfl,rfl,rfl,N.1 g4⟩
 have R:(uM src 3325256705 53 5000 9 []).proto=17:=rfl;refine acP h hG hm ht _ bo bd (by simp[uM]) (by omega) (λ_ _ h=>absurd h (by simp[uM])) (λad q _=>nd ad q) hG.inv.mp ?_ ?_
 ·intro i x0 x1 x2 x3 x4 x5 x6 x7 x8 x9 u why w' hx hw;rcases key (hw q1 (by omega)) with ⟨rfl,h⟩|⟨rfl,rfl,rfl,h⟩
  ·exact hD _ _ _ _ _ _ _ _ _ _ _ _ w' hx h
  ·exact hK _ _ _ _ _ _ _ _ _ _ w' hx h
 ·intro i x0 x1 x2 x3 x4 x5 x6 x7 x8 x9 u w' a' e' _ _ _ _ _ _ hx hw;rcases key (hw q1 (by omega)) with ⟨h,_⟩|⟨_,rfl,rfl,h⟩
  ·cases h
  ·exact hK _ _ _ _ _ _ _ _ _ _ w' (hx (by rw[R];decide)) h
theorem ae5 {w:θ} (hH:Hdl w):uT w λr w'=>r=true/\Ext w w':=by
 have h00:0<w.heap.size:=cell_lt hH;apply UK;refine cmS20 (refbase_ok w) ?_;rintro p0 p1 p2 p3 p4 p5 p6 p7 p8 p9 p10 p11 p12 p13 p14 p15 sw po n18 n19 n20 n21 n22 n23 n24 n25 n26 n27 n28 n29 n30 n31 n32 n33 n34 st w1 ⟨bs,bp,hB,rfl,rfl,rfl,rfl,rfl,rfl,rfl,rfl,rfl,rfl,rfl,rfl,rfl,rfl,rfl,rfl,rfl,rfl,rfl,rfl,rfl,rfl,rfl,rfl,rfl,rfl,rfl,rfl,rfl,rfl,rfl,rfl,rfl,rfl,rfl,rfl⟩;have hz:∀{W:θ},lK 7 e7 W ⟨none,0,0⟩ ([]:List T7):=λ{W}=>lK.nil;refine acR hB.sl hB.pl hz (by simp) (by simp) (by simp) (λr w' _ hr hc=>absurd (chk_one hc (.inr ⟨base_good,.inr ⟨base_fine,rfl⟩⟩)) hr) λag u w2 a e f2 hE hI _ hM U=> ?_;obtain⟨hm,_,_⟩:=cfm (p0:=32) (p1:=1) (p2:=13) (p3:=184) (p4:=0) (p5:=0) (p6:=0) (p7:=0) (p8:=0) (p9:=0) (p10:=0) (p11:=0) (p12:=0) (p13:=0) (p14:=0) (p15:=1) (st:=⟨none,0,0⟩) rfl ag u;have hG:=gd0 hM hI;have he:e=e0 2 64 128:=by
  have hM:Maps _ (e0 2 64 128) [] e:=hM;generalize hq:([]:List Bnd)=q at hM
  cases hM with
  |nil=>rfl
  |no=>simp at hq
  |yes=>simp at hq
 subst he;have x2:=hB.ext.trans f2;intro J;have hJ:J false->(bif Option.isNone (some (⟨a.x,0,none⟩:Addr)) then J true else J ((0:Int) !=0)):=λh=>h;refine hJ ?_;simp -zeta only[J];rw[aaT];refine cmS2 (abl (l:=[]) (a:=167772161) (b:=3221225985) (src:=5000) (dst:=53) (ttl:=9) iD.nil (by simp) (by omega) (by omega) (by omega) (by omega) (by omega)) ?_;rintro rr w3 ⟨I,f3⟩;refine abn (a:=167772161) (b:=3221225985) (src:=5000) (dst:=53) (ttl:=9) (by omega) (by omega) (by omega) (by omega) (by omega) I λo d w4 f4 ⟨bo,bd,no,nd⟩=> ?_;obtain⟨q1,q2,q3,q4⟩:=dgw (a:=167772161) (b:=3221225985) (src:=5000) (dst:=53) (by omega) (by omega) (by omega) (by omega);have O:=f3.trans f4;have ab:∀b,iZ a b->w1.heap.size<=b:=λb ⟨k,hk⟩=>U k b hk;have hl2:∀b,iZ a b->b<w3.heap.size:=λb ⟨k,hb⟩=>(hE.ext f3).lt k b hb;have hz1:=hB.ext.size;have N:∀c:Cf,c.sw.len=2->Law c 1 (uM 167772161 3221225985 5000 53 9 []):=λc hc=>⟨⟨by omega,by rw[hc];omega⟩,q1,by omega⟩;refine out_ok (hE.ext O) hG hm (by show (0:Int)<_;omega) (hH.ext (x2.trans O)) (λh=>by have:=ab 0 h;omega) 1 (uM 167772161 3221225985 5000 53 9 []) bo bd (by simp[uM]) (by omega)
  (λad ha _ ho=>by have:=no ad ha;have:=hl2 _ ho;omega) (λad ha _ ho=>by have:=nd ad ha;have:=hl2 _ ho;omega) ?_ ?_
 ·intro x0 x1 x2' x3 x4 x5 x6 x7 x8 x9 ah why w5 hx5 hL;exfalso;obtain⟨hf,_⟩:=hL (N _ rfl);rw[q2] at hf;rcases hf with ⟨_,h⟩|⟨_,h|h⟩|⟨_,h⟩
  ·have h:(16:Int)<=0:=h;omega
  ·have h:(64:Int)<=((live 0 (List.replicate 64 none)).length:Int):=h;rw[u_] at h;simp at h
  ·have h:(128:Int)<=((Gp.Ses.live 0 (List.replicate 128 none)).length:Int):=h;rw[J5] at h;simp at h
  ·have h:PN.DF 17 5000 1 1024 65535 [3325256705] []=none:=h;rw[take1] at h;cases h
 intro x0 x1 x2' x3 x4 x5 x6 x7 x8 x9 ah w5 a3 e3 hf5 hE5 hG5 hgr5 Y Z hL;have ht3:e3.tn<2^62:=by
  have h1:=Z.tn;have h2:(e0 2 64 128).tn=0:=rfl;omega
 obtain⟨⟨j,b,k,s,g1,g2,g3,g4,g5,g6,g7,g8,g9,_,rfl,_,gS,gT⟩,_⟩:=hL (N _ rfl);rw[q3] at g9;rw[q2] at gT;obtain⟨gT,gst⟩:=gT rfl;have gT:PN.DF 17 5000 1 1024 65535 [3325256705] []=some (b.opr,b.oad,b.opo):=gT;rw[take1] at gT;have gT:=alq gT;simp only[alp] at gT;obtain⟨t1,t2,t3⟩:=gT;have ac:b.o=[17,3325256705,5000]:=by unfold Bnd.o;rw[<- t1,<- t2,<- t3]
 have hz3:=O.size;have x5w:Ext w w5:=((x2.trans O).fr hf5).new λy hy ho=>by have:=ab y ho;omega
 refine gy λu1 w6 r6 e6 z6 f6=> ?_;refine StN_f r6 λw7 r7 f7 z7=> ?_;have y7:Ext w5 w7:=f6.nw f7;intro R;have hJ73:R false->(bif ((0:Int) !=0) then R true else Ld ν w7 (Addr.add ⟨u1,0,none⟩ 5) λx140=>R (x140 !=3325256705)):=λh=>Ld_i 5 b.oad r7 (by rw[<- t2];exact h);refine hJ73 ?_;simp -zeta only[R];rw[aaT];have ho:∀(k':Nat) (s':Ses),e3.SS[k']? =some (some s')->s'=s:=by
  intro k' s' h;rw[gS,akJ] at h;split at h
  ·split at h
   ·exact(by simpa using h:s=s').symm
   ·cases h
  ·have h:(List.replicate 128 (none:Option Ses))[k']? =some (some s'):=h;rw[alY] at h;split at h<;>cases h
 rw[<- Y];refine cmS2 (abl (l:=[]) (a:=3221225985) (b:=3325256705) (src:=53) (dst:=5000) (ttl:=9) iD.nil (by simp) (by omega) (by omega) (by omega) (by omega) (by omega)) ?_;rintro rr w8 ⟨I,f8⟩;refine abn (a:=3221225985) (b:=3325256705) (src:=53) (dst:=5000) (ttl:=9) (by omega) (by omega) (by omega) (by omega) (by omega) I λo d w9 f9 ⟨bo,bd,_,nd⟩=> ?_;have y9:=y7.trans (f8.trans f9);refine aiC (hE5.ext y9) hG5 hm ht3 rfl g1 ⟨ac,gst⟩ g6 g7 ho 3221225985 (by omega) bo bd (λad ha ⟨k,hk⟩=>by have:=nd ad ha;have:=hE5.lt k _ hk;have:=(y7.trans f8).size;omega) ?_ ?_
 ·intro _ _ _ _ _ _ _ _ _ _ _ _ _ _ ai;exact absurd (by rw[g8,g9];rfl) ai
 intro z0 z1 z2 z3 z4 z5 z7' z8 z9 z10 w10 f10 _;refine gy λu2 w11 aj e11 z11 f11=> ?_;refine StN_f aj λae ak f12 z12=> ?_;have aa:Ext w5 ae:=(y9.trans f10).trans (f11.nw f12);refine cmS2 (abl (l:=[]) (a:=3221225986) (b:=3325256705) (src:=53) (dst:=5000) (ttl:=9) iD.nil (by simp) (by omega) (by omega) (by omega) (by omega) (by omega)) ?_;rintro rr w13 ⟨I,f13⟩;refine abn (a:=3221225986) (b:=3325256705) (src:=53) (dst:=5000) (ttl:=9) (by omega) (by omega) (by omega) (by omega) (by omega) I λo d w14 f14 ⟨bo,bd,_,nd⟩=> ?_;have g14:=f13.trans f14;have am:=aa.trans g14;refine aiC (hE5.ext am) hG5 hm ht3 rfl g1 ⟨ac,gst⟩ g6 g7 ho 3221225986 (by omega) bo bd (λad ha ⟨k,hk⟩=>by have:=nd ad ha;have:=hE5.lt k _ hk;have:=(aa.trans f13).size;omega) ?_ ?_;rotate_left
 ·intro _ _ _ _ _ _ _ _ _ _ _ _ af;rw[g8,g9] at af;have:=congrArg Prod.fst af;have:(3221225985:Int)=3221225986:=this;omega
 intro vi v0 v1 v2 v3 v4 v5 v6 v7 v8 v9 v10 w15 f15 _;refine gy λu3 w16 an e16 z16 f16=> ?_;refine StN_f an λao r17 f17 z17=> ?_;have g17:Ext ae ao:=(g14.trans f15).trans (f16.nw f17);intro J137;have hJ137:J137 true:=⟨rfl,(x5w.trans aa).trans g17⟩;clear_value J137;rw[show ((0:Int)==0)=true from rfl,aaU,g2,show ((1:Int)==1)=true from rfl,aaU];refine Ld_i 6 b.ad (ak.ext g17) ?_;rw[g4];exact hJ137
end Go.Proofs.EN
end
section
namespace Go.Proofs.EN
open Gp Gp.V4 Go.Proofs Go.Proofs.AN Go.Proofs.VN
open Gp.Bind (Bnd Slots live GoodB freeN getS In64)
open Gp.Ses (Ses)
variable {w w':θ} {a:EA} {c:Cf} {e:ES}
theorem agD {s:fU} {l:List UInt8} (h:iD w s l) {ad:Addr} (ha:s.a=some ad) (h0:0<l.length):ad.block<w.heap.size:=by
 obtain⟨a,h1,h2⟩:=h.at_ (ade h0);rw[ha] at h1
 cases h1
 exact cell_lt h2
theorem ak9 {W:θ} {a:Nat} {x0 x1 x2:Int} {x3:fU} {x4 x5 x6 x7 x8 x9 h:Int} {u I:Bool} {J N:fU} {O R U Y Z aa ab:Int} {Q:Int->Int->Int->fU->Int->Int->Int->Int->Int->Int->Int->Bool->Bool->fU->fU->Int->Int->Int->Int->Int->Int->Int->Prop}
  (hr:Row W a (NH x0 x1 x2 x3 x4 x5 x6 x7 x8 x9 h u I J N O R U Y Z aa ab)) (hq:Q x0 x1 x2 x3 x4 x5 x6 x7 x8 x9 h u I J N O R U Y Z aa ab):SY W ⟨a,0,none⟩ Q:=
 aiE (λi _=>by rw[gJ,ahO,hr.cell]) hq
theorem aa5 (h:lH w a c e) (hg:Gd c e) (t:Int) {K:Int->b_} (hK:∀r w' a' e',Nx c w w' a a' e e'->K r w'):nS (some ⟨a.x,0,none⟩) t w K:=
 aa6 h hg t λr w' a' e' f hE hG u hx hA=>hK r w' a' e' ⟨f,hE,hG,u,hx,λhp j b hb=>hp j b (hA.S j b hb),by have:=hA.tn;omega⟩
theorem cb {b:Bool} {P Q:Prop} (h:P) (h':Q):bif b then P else Q:=by cases b<;>assumption
structure Pl (c:Cf) (w0 w:θ) (a:EA) (s:fU) (xs:List Dn):Prop where
 cf:CfM c
 x:Ext w0 w
 own:∀b,iZ a b->w0.heap.size<=b
 hd:Hdl w0
 l:Z7 w0 s xs
 n:xs.length<=40
 m:∀x∈xs,x.bl.length<=1500/\x.q.data.length<=1500/\x.q.opts.length<=100
theorem ahV {w0:θ} {s:fU} {xs:List Dn} (h:lH w a c e) (hg:Gd c e) (hp:Pl c w0 w a s xs) (ht:e.tn<=2^20) {K:b_}
  (hK:∀w' a' e',gV w w' (iZ a)->lH w' a' c e'->Gd c e'->Grow a a' w.heap.size->a'.x=a.x->(Pk c e->Pk c e')->e'.tn<=e.tn+40->K w'):
  Fv (some ⟨a.x,0,none⟩) s w K:=by
 apply Wv;obtain⟨hm,hx0,aa,hH,I,h40,ak⟩:=hp;have h00:=cell_lt hH;have hsl:=I.sl.len;have hz0:=hx0.size;refine gI (λq W=>∃(j:Nat) (a':EA) (e':ES),j<=xs.length/\q.1=(j:Int)/\gV w W (iZ a)/\lH W a' c e'/\Gd c e'/\Grow a a' w.heap.size/\a'.x=a.x/\(Pk c e->Pk c e')/\e'.tn<=e.tn+j) (λq _=>(s.len - q.1).toNat) ⟨0,a,e,by omega,rfl,gV.refl _ _,h,hg,Grow.refl a _,rfl,λh=>h,by omega⟩ ?_;rintro⟨i,⟨⟩⟩ W ⟨j,a',e',hj,hi,hf,hE,hG,N,O,ac,htn⟩ next Y
 dsimp -zeta only at hi ⊢;subst hi;by_cases ae:(j:Int)<(s.len:Int);rotate_left
 ·rw[adn ae,aaT];exact hK W a' e' hf hE hG N O ac (by omega)
 rw[aeJ ae,aaU];have zW:=hf.size;have hog:=λb hb=>(N b hb).elim (aa b) λh=>by omega
 have hW0:=(hx0.fr hf).new λb hb ho=>by grind
 intro J6;have hJ6:∀V W' a2 e2,Ext W V->Nx c V W' a' a2 e' e2->J6 W':=by
  intro V W' a2 e2 hx hn;simp -zeta only[J6];rw[show ο.wrap ((j:Int)+1)=((j+1:Nat):Int) by rw[Α];rfl];have zx:=hx.size;refine Y _ _ ⟨j+1,a2,e2,by omega,rfl,(hf.ext hx).trans hn.fr λb hb ho=>(N b ho).elim (λh=>h) λh=>by omega,hn.eng,hn.gd,N.trans (λb hb=>(hn.gr b hb).imp (λh=>h) λh=>aj0 zx h) zW,hn.x.trans O,λh=>hn.pk (ac h),by have:=hn.tn;omega⟩ (by omega)
 clear_value J6;have af:=ade (show j<xs.length by omega);have J:=akI (show j<xs.length by omega);generalize xs[j]=y at af J;refine aiz (I.ext hW0) af ?_;refine gy λg w2 r2 e2 z2 f2=> ?_;refine gU r2 rfl rfl λw3 r3 f3' z3=> ?_;have f3:=f3' _ rfl;have x3:=f2.new f3 λy hy e=>by omega
 obtain⟨v1,v2,v3⟩:=I.by_ y J;obtain⟨m1,m2,m3⟩:=ak y J;have y0:=hW0.trans x3;refine ak9 r3 ?_;refine agH y.q (v1.ext y0) (by omega) (v2.ext y0) (v3.ext y0) (by omega) (by omega) λp o' d' w4 f4 bo bd l1 l2 no nd=> ?_;refine gy λu w5 r5 e5 z5 f5=> ?_;refine gU r5 rfl rfl λw6 r6 f6' z6=> ?_;have f6:=f6' _ rfl;have Z:=f5.new f6 λy hy e=>by omega
 have x6:=(x3.trans f4).trans Z;have rg:=r3.ext (f4.trans Z);have bo:=bo.ext Z;have bd:=bd.ext Z;have hE6:=hE.ext x6;have hH6:=hH.ext (hW0.trans x6);have hlw:∀b,iZ a' b->b<w3.heap.size:=λb ⟨k,hb⟩=>(hE.ext x3).lt k b hb;have ag:∀ad,o'.a=some ad->0<p.opts.length->¬iZ a' ad.block:=by
  intro ad ha h0 ho;rcases no with ⟨rfl,rfl⟩|no
  ·have:=agD v2 ha h0
   grind
  grind
 have ah:∀ad,d'.a=some ad->0<p.data.length->¬iZ a' ad.block:=by
  intro ad ha h0 ho;rcases nd with ⟨rfl,rfl⟩|nd
  ·have:=agD v3 ha h0
   grind
  grind
 rw[<- O];refine gZ rg rfl ?_;intro R;have hJ72t:R true:=by
  simp -zeta only[R];rw[aaU];refine gZ rg rfl (kJ r6 ?_);refine out_ok hE6 hG hm (by omega) hH6 (λh=>by grind) y.sw p bo bd l1 l2 ag ah (λx0 x1 x2 x3 x4 x5 x6' x7 x8 x9 ab why W' hx _=>hJ6 w6 W' a' e' x6 (Nx.ext hE6 hG hx)) λx0 x1 x2 x3 x4 x5 x6' x7 x8 x9 ab W' a2 e2 hf hE hG N O ai _=>hJ6 w6 W' a2 e2 x6 ⟨hf,hE,hG,N,O,λhp j b hb=> ?_,ai.tn⟩;exact(ai.nw j b hb).elim (hp j b) λh=> .inr h.2
 have hJ72f:R false:=by
  simp -zeta only[R];rw[aaT];intro U;have hJ99t:U true:=by
   simp -zeta only[U];rw[aaU];refine kJ r6 ?_;exact acP hE6 hG hm (by omega) p bo bd l1 l2 ag ah hG.inv.mp (λi x0 x1 x2 x3 x4 x5 x6' x7 x8 x9 ab why W' hx _=>hJ6 w6 W' a' e' x6 (Nx.ext hE6 hG hx)) λi x0 x1 x2 x3 x4 x5 x6' x7 x8 x9 ab W' a2 e2 hf hE hG N O aj _ _=>hJ6 w6 W' a2 e2 x6 ⟨hf,hE,hG,N,O,λhp j b hb=>hp j b (by rw[<- aj.S];exact hb),aj.tn⟩
  have hJ99f:U false:=by
   simp -zeta only[U];rw[aaT]
   cases (y.op==7)
   rotate_left
   ·rw[aaU];refine gZ rg rfl ?_;exact aa5 hE6 hG _ λr W' a2 e2 hn=>hJ6 w6 W' a2 e2 x6 hn
   rw[aaT]
   cases (y.op==8)
   rotate_left
   ·rw[aaU];refine gZ rg rfl ?_;exact afA hE6 hG _ λr W' a2 e2 hn=>hJ6 w6 W' a2 e2 x6 hn
   rw[aaT];have rt:∀(i:Nat) (x:Int),(dnV y)[15+i]? =some (Β x)->w6.cell? (Addr.add (Addr.add ⟨g,0,none⟩ 15) i)=some (Β x):=λi x hx=>by
    rw[gJ,gJ,rg.cell,ahO];exact hx
   cases (y.op==9)
   rotate_left
   ·rw[aaU];refine ig (rt 0 _ rfl) (ig (rt 1 _ rfl) (ig (rt 2 _ rfl) (ig (rt 3 _ rfl) (ig (rt 4 _ rfl) (ig (rt 5 _ rfl) (ig (rt 6 _ rfl) ?_))))));exact ajq hE6 hG ⟨y.t0,y.t1,y.t2,y.t3,y.t4,y.t5,y.t6,true⟩ rfl λr W' a2 e2 hn=>hJ6 w6 W' a2 e2 x6 hn
   ·rw[aaT];refine ig (rt 0 _ rfl) (ig (rt 1 _ rfl) (ig (rt 2 _ rfl) (ig (rt 3 _ rfl) ?_)));exact agJ hE6 hG _ _ _ _ (I.t y J) λr W' a2 e2 hn=>hJ6 w6 W' a2 e2 x6 hn
  clear_value U;have hJ:∀q,U q:=λq=>by cases q<;>assumption
  exact cb (hJ _) (cb (hJ _) (hJ _))
 clear_value R;have hJ:∀q,R q:=λq=>by cases q<;>assumption
 exact cb (hJ _) (cb (hJ _) (cb (hJ _) (hJ _)))
end Go.Proofs.EN
end
section
namespace Go.Proofs.EN
open Gp Gp.V4 Go.Proofs Go.Proofs.AN Go.Proofs.VN
open Go.Proofs.CN (T16 T7 e16 e7 OkP fineP chk chk_one bnds okB)
open Gp.Bind (Bnd Slots live GoodB freeN getS In64)
open Gp.Ses (Ses)
theorem ahB {c:Cf} {n nb ns:Nat} {l:List Bnd} {e:ES} (h:Maps c (e0 n nb ns) l e):(∀b∈l,b.st=true)->Pk c e:=by
 induction h with
 |nil=>
  intro _ j b hb;have hb:(List.replicate nb (none:Option Bnd))[j]? =some (some b):=hb;rw[alY] at hb;split at hb<;>cases hb
 |no _ _ _ _ ih=>exact λhl=>ih λb hb=>hl b (amE _ hb)
 |yes _ _ _ _ _ ih=>
  rename_i l e b i Mi Mo Q G _ _ _ _ _;intro hl j x hx;have hx:(e.S.set i (some b))[j]? =some (some x):=hx;rw[akJ] at hx;split at hx
  ·split at hx
   ·have:=alq (alq hx);subst this;exact .inl (hl b (List.mem_append_right _ (akU.2 rfl)))
   ·cases hx
  ·exact ih (λb hb=>hl b (amE _ hb)) j x hx
theorem ajB {l:List (Int×Bnd)} {k v:Int} (h:plk l k=some v):0<=v/\v<(l.length:Int):=by
 unfold plk at h;obtain⟨x,hx,rfl⟩:=alK.1 h;have:=List.snd_lt_of_mem_zipIdx (List.mem_reverse.1 (List.mem_of_find?_eq_some hx));omega
theorem akH {w:θ} {a:EA} {c:Cf} {e:ES} (h:lH w a c e) (hg:Gd c e) (hp:Pk c e):Wi c.lo c.hi c.q c.nb c.ns c.pl ((live 0 e.S).map (·.2)) (EX e):=by
 have at_:∀{b:Bnd},b∈(live 0 e.S).map (·.2)->∃j:Nat,e.S[j]? =some (some b):=by
  rintro b hb;obtain⟨⟨v,x⟩,hx,rfl⟩:=akR.1 hb;obtain⟨j,hj,_⟩:=Gp.Bind.jL.1 hx;exact⟨j,hj⟩
 have hsl:=h.db.len;have hsl2:=h.se.len;have hb1:=h.cf.b1;have hs1:=h.cf.s1;refine⟨?_,λb hb=> ?_,?_,?_,λb hb=> ?_,λs hs=> ?_⟩
 ·intro i k b x O hi hk;rw[aiN] at hi hk;obtain⟨⟨v,b'⟩,gi,gb⟩:=alK.1 hi;obtain⟨⟨u,x'⟩,gk,gx⟩:=alK.1 hk;obtain rfl:b'=b:=gb;obtain rfl:x'=x:=gx;obtain⟨j,hj,hv⟩:=Gp.Bind.jL.1 (akK gi);obtain⟨m,hm,hu⟩:=Gp.Bind.jL.1 (akK gk);have key:j=m->False:=by
   rintro rfl;rw[hj] at hm;have:=alq (alq hm);subst this;have e:u=v:=by omega
   subst e;have hn:=Sm e.S 0;have h1:=(aeK.1 gi).1;have h2:=(aeK.1 gk).1;exact amb.1 hn k i h2 h1 O (by rw[(aeK.1 gi).2,(aeK.1 gk).2])
  constructor
  ·rintro⟨q1,q2,q3,q4⟩;have g1:=(h.db.good.i _ _).2 ⟨j,b',hj,rfl,rfl⟩;have g2:=(h.db.good.i _ _).2 ⟨m,x',hm,rfl,rfl⟩;rw[show x'.i=b'.i by unfold Bnd.i;rw[q1,q2,q3,q4],g1] at g2;have:=alq g2;exact key (by omega)
  ·rintro⟨q1,q2,q3⟩;have g1:=(h.db.good.o _ _).2 ⟨j,b',hj,rfl,rfl⟩;have g2:=(h.db.good.o _ _).2 ⟨m,x',hm,rfl,rfl⟩;rw[show x'.o=b'.o by unfold Bnd.o;rw[q1,q2,q3],g1] at g2;have:=alq g2;exact key (by omega)
 ·obtain⟨j,hj⟩:=at_ hb;have N:=(hg.inv.mp j b hj).2.2.2.2.2.2;have hc:=hg.inv.cn _ N;have:((live 0 e.S).map (·.2)).countP (λx=>x.sw==b.sw)=TJ e.S b.sw:=by
   unfold TJ;rw[List.countP_map,List.countP_eq_length_filter];rfl
  rw[this,<- hc];unfold QN.at_;rw[al1];obtain⟨s0,s1⟩:=N;have hl:b.sw.toNat<e.Q.length:=by rw[hg.inv.ql];omega
  rw[ade hl];exact(h.qo.lo _ (akI hl)).2
 ·have:=Gp.Bind.ji e.S 0;rw[ahc];omega
 ·have:=Gp.Ses.ji e.SS 0;unfold EX;rw[ahc];omega
 ·obtain⟨j,hj⟩:=at_ hb;exact⟨(hg.inv.mp j b hj).2.2.1,hp j b hj⟩
 ·unfold EX at hs;obtain⟨⟨v,x⟩,hx,rfl⟩:=akR.1 hs;obtain⟨j,hj,_⟩:=Gp.Ses.jL.1 hx;obtain⟨m,b,hm,hb⟩:=hg.sb j x hj;have I:((m:Int),b)∈live 0 e.S:=Gp.Bind.jL.2 ⟨m,hb,by omega⟩;have J:=List.length_pos_of_mem I;rw[ahc];dsimp only
  cases hk:plk (live 0 e.S) x.bd with
  |none=>exact⟨Int.le_refl _,by simpa using J⟩
  |some z=>exact ajB hk
theorem O8 (awake:∀w,Hdl w->uT w λr w'=>r=true/\Ext w w') {w:θ} {p0 p1 p2 p3 p4 p5 p6 p7 p8 p9 p10 p11 p12 p13 p14 p15:Int} {sw po:fU} {n18 n19 n20 n21 n22 n23 n24 n25 n26 n27 n28 n29 n30 n31 n32 n33 n34:Int} {st:fU} {sl:List T16} {pl:List Int} {tl:List T7} (R:lK 16 e16 w sw sl) (N:lK 1 CN.eI w po pl) (U:lK 7 e7 w st tl) {s:fU} {xs:List Dn} (hs:Z7 w s xs) (hH:Hdl w):
  Bl p0 p1 p2 p3 p4 p5 p6 p7 p8 p9 p10 p11 p12 p13 p14 p15 sw po n18 n19 n20 n21 n22 n23 n24 n25 n26 n27 n28 n29 n30 n31 n32 n33 n34 st s w λr w'=>r=true/\Ext w w':=by
 have h00:0<w.heap.size:=cell_lt hH;apply KP;refine gy λa w1 r1 e1 z1 f1=> ?_;have rd:∀W (Q:_),Row W a (jd p0 p1 p2 p3 p4 p5 p6 p7 p8 p9 p10 p11 p12 p13 p14 p15 sw po n18 n19 n20 n21 n22 n23 n24 n25 n26 n27 n28 n29 n30 n31 n32 n33 n34 st)->Q p0 p1 p2 p3 p4 p5 p6 p7 p8 p9 p10 p11 p12 p13 p14 p15 sw po n18 n19 n20 n21 n22 n23 n24 n25 n26 n27 n28 n29 n30 n31 n32 n33 n34 st->oN W ⟨a,0,none⟩ Q:=by
  intro W Q hr hq;simp only[sx,hr.cell];exact hq
 intro J;have aa:∀W,Ext w1 W->J true W:=by
  intro W hW;simp only[J,aaU];refine cmS0 (awake W (hH.ext (f1.trans hW))) ?_;rintro r W' ⟨hr,hf⟩;exact⟨hr,(f1.trans hW).trans hf⟩
 have ae:=N.len;have af:∀W,Ext w1 W->sw.len<=8->po.len<=4->st.len<=12->xs.length<=40->(∀x∈xs,x.bl.length<=1500/\x.q.data.length<=1500/\x.q.opts.length<=100)->chk (p0,p1,p2,p3,p4,p5,p6,p7,p8,p9,p10,p11,p12,p13,p14,p15,()) sw.len po.len st.len n18 n19 n20 n21 n22 n23 n24 n25 n26 n27 n28 n29 n30 n31 n32 n33 n34 sw.len sl pl tl 0->J false W:=by
  intro W hW l1 l2 l3 l4 l5 hc;simp -zeta only[J,aaT];have r1W:=r1.ext hW;have xW:=f1.trans hW;refine rd _ _ r1W ?_;refine acR (R.ext xW) (N.ext xW) (U.ext xW) (by omega) (by omega) (by omega) (λr w2 _ hr hc2=>absurd (chk_one hc hc2).symm hr) λab I w2 a2 e2 f2 hE hI _ u Y=> ?_;obtain⟨hm,_,_⟩:=cfm (p0:=p0) (p1:=p1) (p2:=p2) (p3:=p3) (p4:=p4) (p5:=p5) (p6:=p6) (p7:=p7) (p8:=p8) (p9:=p9) (p10:=p10) (p11:=p11) (p12:=p12) (p13:=p13) (p14:=p14) (p15:=p15) (st:=st) ae ab I;have hG:=gd0 u hI;have hP:=ahB u λb hb=>by
   obtain⟨x,_,rfl⟩:=akR.1 hb;rfl
  obtain⟨_,_,_,_,m5⟩:=u.rest;have m5:e2.tn=0:=m5;have hzW:=xW.size;have hzW1:=hW.size;intro O;have hJ50:O false->(bif Option.isNone (some (⟨a2.x,0,none⟩:Addr)) then O true else O ((0:Int) !=0)):=λh=>h;refine hJ50 ?_;simp -zeta only[O];rw[aaT];have Z:∀b,iZ a2 b->W.heap.size<=b:=λb ⟨k,hk⟩=>Y k b hk;refine ahV hE hG ⟨hm,xW.trans f2,λb hb=>by have:=Z b hb;omega,hH,hs,l4,l5⟩ (by omega) λw3 a3 e3 f3 hE3 hG3 hgr3 hx3 hP3 _=> ?_;intro ac;have hJ52:∀V,Ext w V->ac true V:=λV hV=>⟨rfl,hV⟩;clear_value ac;have x3:Ext w w3:=((xW.trans f2).fr f3).new λb hb ho=>by have:=Z b ho;omega
  have r3:Row w3.drew a (jd p0 p1 p2 p3 p4 p5 p6 p7 p8 p9 p10 p11 p12 p13 p14 p15 sw po n18 n19 n20 n21 n22 n23 n24 n25 n26 n27 n28 n29 n30 n31 n32 n33 n34 st):=((r1W.ext f2).fr f3 λho=>by have:=Z _ ho;have:=r1W.lt;omega).drew;refine rd _ _ r3 ?_;have hE3d:=hE3.ext (Ext.drew w3);have hb1:=hE3.cf.b1;have hs1:=hE3.cf.s1;have hl1:=hE3.db.len;have hl2:=hE3.se.len;rw[<- hx3];refine ain hE3d ⟨by omega,by omega⟩ λbs ss w4 f4 hb hv _ _=> ?_;have x4:=(x3.trans (Ext.drew w3)).trans f4;have r4:=r3.ext f4;refine Et r4 ?_;have hW4:=akH hE3 hG3 (hP3 hP);have n1:=hW4.n;have n2:=hW4.s;have hlb:=hb.len;have hlv:=hv.len;rw[hG3.lc,show (Gp.Ses.live 0 e3.SS).length=(EX e3).length by unfold EX;rw[ahc]];have b:=ab.nums;simp only[bnds,agN,ajH,akL,forall_eq_or_imp,forall_eq,okB] at b;obtain⟨_,_,_,_,_,_,_,_,b9,b10,_⟩:=b;have ag:Bq p0 p1 p2 p3 p4 p5 p6 p7 p8 p9 p10 p11 p12 p13 p14 p15 sw po n18 n19 n20 n21 n22 n23 n24 n25 n26 n27 n28 n29 n30 n31 n32 n33 n34 st (e3.now:Int) bs ss 0 0 ((EX e3).length:Int) Ur w4 λr w'=>r=0/\Ext w4 w':=by
   apply Ru;refine gy λp w5 r5 e5 z5 f5=> ?_;refine gy λq w6 r6 e6 z6 f6=> ?_;have r5:=r5.ext f6;have x6:=f5.trans f6;have y6:=x4.trans x6;simp only[sx,r5.cell,r6.cell];refine cmS1 (aeC (R.ext y6) (N.ext y6) (U.ext y6) (by omega) (by omega) (by omega) hc (by omega) (hb.ext x6|>.sl BL (by omega)) (hv.ext x6|>.sl TT (by omega)) (by omega) (by omega) hW4 _) ?_;rintro r w7 ⟨rfl,f7⟩;exact⟨by trivial,x6.trans f7⟩
  refine cmS1 ag ?_;rintro r w5 ⟨rfl,f5⟩;rw[show ((0:Int)==0)=true from rfl,aaU];refine cmS0 (awake w5 (hH.ext (x4.trans f5))) ?_;rintro r w6 ⟨rfl,f6⟩;exact hJ52 w6 ((x4.trans f5).trans f6)
 clear_value J;refine rd _ _ r1 ?_;refine zG (R.ext f1) (N.ext f1) (U.ext f1) (λW hW=>aa W hW) λW hW l1 l2 l3 hc=> ?_;rw[adp,aaT];refine cmS0 (aja (hs.ext (f1.trans hW))) ?_;rintro fr w3 ⟨hf,f3⟩
 cases fr
 ·exact aa w3 (hW.trans f3)
 obtain⟨hf1,hf2⟩:=hf rfl;exact af w3 (hW.trans f3) l1 l2 l3 hf1 hf2 hc
end Go.Proofs.EN
end
section
namespace Go.Proofs.AN
open Gp Go.Proofs.CN
abbrev akD:Gp.jB:= .arr 16 (.int .u8) 1
abbrev ah9:Gp.jB:= .agg (.cons (.agg (.cons (.int .i64) 1 (.cons (.int .i64) 1 (.cons (.int .i64) 1 (.cons (.int .i64) 1 .nil))))) 4 (.cons (.agg (.cons (.int .i64) 1 (.cons (.int .i64) 1 (.cons (.int .i64) 1 .nil)))) 3 .nil))
def akE (l:List Int):T16:=(l.getD 0 0,l.getD 1 0,l.getD 2 0,l.getD 3 0,l.getD 4 0,l.getD 5 0,l.getD 6 0,l.getD 7 0,l.getD 8 0,l.getD 9 0,l.getD 10 0,l.getD 11 0,l.getD 12 0,l.getD 13 0,l.getD 14 0,l.getD 15 0,())
def akF (x:ah9.T):T7:=(x.1.1,x.1.2.1,x.1.2.2.1,x.1.2.2.2.1,x.2.1.1,x.2.1.2.1,x.2.1.2.2.1,())
theorem aay {l:List Int} (h:l.length=16):∃p0 p1 p2 p3 p4 p5 p6 p7 p8 p9 p10 p11 p12 p13 p14 p15:Int,l=[p0,p1,p2,p3,p4,p5,p6,p7,p8,p9,p10,p11,p12,p13,p14,p15]:=by
 match l,h with
 |[p0,p1,p2,p3,p4,p5,p6,p7,p8,p9,p10,p11,p12,p13,p14,p15],_=>exact⟨p0,p1,p2,p3,p4,p5,p6,p7,p8,p9,p10,p11,p12,p13,p14,p15,rfl⟩
theorem ajJ {w:θ} {x:(Gp.jB.slice akD 16).T} (h:(Gp.jB.slice akD 16).In w x):lK 16 e16 w x.1 (x.2.map akE):=
 ZJ (by decide) h akE e16 qE λy hy=>by
  obtain⟨p0,p1,p2,p3,p4,p5,p6,p7,p8,p9,p10,p11,p12,p13,p14,p15,rfl⟩:=aay hy.1;rfl
theorem ajg {w:θ} {x:(Gp.jB.slice (.int .i64) 1).T} (h:(Gp.jB.slice (.int .i64) 1).In w x):lK 1 eI w x.1 (x.2.map λy:Int=>y):=
 ZJ (d:= .int .i64) (by decide) h (λy:Int=>y) eI (λ_=>rfl) λy hy=>rfl
theorem ajK {w:θ} {x:(Gp.jB.slice ah9 7).T} (h:(Gp.jB.slice ah9 7).In w x):lK 7 e7 w x.1 (x.2.map akF):=
 ZJ (by decide) h akF e7 wR λy hy=>rfl
abbrev ak8:Gp.jB:= .agg (.cons (.int .i64) 1 (.cons (.int .i64) 1 (.cons (.int .i64) 1 (.cons (.int .i64) 1 (.cons (.int .i64) 1 (.cons (.int .i64) 1 (.cons (.int .i64) 1 (.cons .bool 1 (.cons .bool 1 (.cons (.slice (.int .u8) 1) 1 (.cons (.slice (.int .u8) 1) 1 .nil)))))))))))
abbrev doD:Gp.jB:= .agg (.cons (.int .i64) 1 (.cons (.int .i64) 1 (.cons (.int .i64) 1 (.cons (.slice (.int .u8) 1) 1 (.cons ak8 11 (.cons ah9 7 .nil))))))
def byG (l:List Int):List UInt8:=l.map λn:Int=>UInt8.ofNat n.toNat
def doG (x:doD.T):Dn:=
 ⟨x.1,x.2.1,x.2.2.1,x.2.2.2.1.1,byG x.2.2.2.1.2,⟨x.2.2.2.2.1.1,x.2.2.2.2.1.2.1,x.2.2.2.2.1.2.2.1,x.2.2.2.2.1.2.2.2.1,x.2.2.2.2.1.2.2.2.2.1,x.2.2.2.2.1.2.2.2.2.2.1,x.2.2.2.2.1.2.2.2.2.2.2.1,x.2.2.2.2.1.2.2.2.2.2.2.2.1,x.2.2.2.2.1.2.2.2.2.2.2.2.2.1,byG x.2.2.2.2.1.2.2.2.2.2.2.2.2.2.1.2,byG x.2.2.2.2.1.2.2.2.2.2.2.2.2.2.2.1.2⟩,
  x.2.2.2.2.1.2.2.2.2.2.2.2.2.2.1.1,x.2.2.2.2.1.2.2.2.2.2.2.2.2.2.2.1.1,x.2.2.2.2.2.1.1.1,x.2.2.2.2.2.1.1.2.1,x.2.2.2.2.2.1.1.2.2.1,x.2.2.2.2.2.1.1.2.2.2.1,x.2.2.2.2.2.1.2.1.1,x.2.2.2.2.2.1.2.1.2.1,x.2.2.2.2.2.1.2.1.2.2.1⟩
theorem akj {w:θ} {x:(Gp.jB.slice doD 22).T} (h:(Gp.jB.slice doD 22).In w x):Z7 w x.1 (x.2.map doG):=by
 refine⟨ZJ (by decide) h doG dnV acF λy hy=>rfl,λy hy=> ?_,λy hy=> ?_⟩<;>obtain⟨z,hz,rfl⟩:=akR.1 hy<;>have u:=h.2 z hz
 rotate_left
 ·have ht:=u.2.2.2.2.2.1.1;intro n hn;simp only[agN,ajH,akL] at hn;rcases hn with rfl|rfl|rfl|rfl
  ·exact wf_i64 ht.1
  ·exact wf_i64 ht.2.1
  ·exact wf_i64 ht.2.2.1
  ·exact wf_i64 ht.2.2.2.1
 exact⟨ZH u.2.2.2.1,ZH u.2.2.2.2.1.2.2.2.2.2.2.2.2.2.1,ZH u.2.2.2.2.1.2.2.2.2.2.2.2.2.2.2.1⟩
end Go.Proofs.AN
end
section
namespace Go.Proofs.YtlpphhjbjjdhfaaGreatDoor
theorem adP {P:Program} {c:OpenClaim} (hs:c.start= .entering) (h:P.funcs.any Func.goes=false):false=c.goesBy P:=by
 unfold OpenClaim.goesBy Program.goesAt Program.goesFrom;rw[hs];have hg:∀f,P.goes f=false:=by
  intro f;unfold Program.goes;rw[h,Bool.and_false,Bool.or_false,List.any_eq_false];intro g _
  cases e:P.funcs[g]? with
  |none=>simp
  |some fn=>
   have:=Array.any_eq_false'.1 h fn (Array.mem_of_getElem? e);simpa using this
 cases P.funcNamed c.func with
 |none=>rfl
 |some f=>simp[hg]
theorem afI:υ.funcs.any Func.goes=false:=by kernel_rfl
end Go.Proofs.YtlpphhjbjjdhfaaGreatDoor
end
