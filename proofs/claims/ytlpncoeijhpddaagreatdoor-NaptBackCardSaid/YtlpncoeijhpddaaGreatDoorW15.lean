import Derived.Test.YtlpncoeijhpddaaGreatDoorW14
import Derived.Test.YtlpncoeijhpddaaGreatDoorW12
import Derived.Test.YtlpncoeijhpddaaGreatDoorW5
import Derived.Test.YtlpncoeijhpddaaGreatDoorW3
import Derived.Test.YtlpncoeijhpddaaGreatDoorW2
set_option maxRecDepth 100000
set_option maxHeartbeats 4000000
section
namespace Go.Proofs.AN
open Gp Gp.V4 Go.Proofs Go.Proofs.VN
open Gp.Bind (In64)
section
variable {w0 w w':θ}
theorem YE (l:List UInt8) (i:Nat):mW (wordAt l i:Int):=by
 have:=Fv l i;constructor<;>omega
theorem Form.fr {p:kZ} {v:Value} (h:Form w p v) {S:Nat->Prop} (hf:ig w w' S) {b:Nat} {vs:List Value} (hr:Row w b vs) (hv:∀v∈vs,∀n,v≠.int .u8 n) (hS:∀y,S y->y=b):Form w' p v:=by
 cases h with
 |dat a0 a1 a2 a3 h hv' i0 i1 hb hg=>
  refine .dat a0 a1 a2 a3 h hv' i0 i1 (hb.fr hf hr hv hS) λg=> ?_;obtain⟨g0,g1,g2,g3⟩:=hg g;exact⟨g0,g1,g2,g3.fr hf λad ha h0 e=>jo hr hv g3 ha h0 (hS _ e)⟩
 |seg a0 a1 a2 a3 a4 a5 a6 a7 a8 a9 h hv' i0 i1 hb8 hb9=>exact .seg a0 a1 a2 a3 a4 a5 a6 a7 a8 a9 h hv' i0 i1 (hb8.fr hf hr hv hS) (hb9.fr hf hr hv hS)
 |que a0 a1 a2 a3 h hv' hb=>exact .que a0 a1 a2 a3 h hv' (hb.fr hf hr hv hS)
structure PkR (w:θ) (q:kZ) (x0 x1 x2 x3 x4 x5 x6:Int) (x7 x8:Bool) (x9 x10:gG):Prop where
 f:x0=q.tos/\x1=q.id/\x2=q.off/\x3=q.ttl/\x4=q.proto/\x5=q.src/\x6=q.dst/\x7=q.df/\x8=q.mf
 o:iH w x9 q.opts
 d:iH w x10 q.data
def ak3 (p:kZ) (sa da po qo:Int):kZ:={p with src:=sa,dst:=da,data:=NW sa da (Hg po (wordAt p.data 0:Int)) (Hg qo (wordAt p.data 2:Int)) false (p.data.drop 8)}
structure ajp (n:Nat) (w:θ) (p:kZ) (sa da po qo:Int) (x0 x1 x2 x3 x4 x5 x6:Int) (x7 x8:Bool) (x9 x10:gG) (e:Int):Prop where
 e:e=0
 pk:PkR w (ak3 p sa da po qo) x0 x1 x2 x3 x4 x5 x6 x7 x8 x9 x10
 new:∀x,gG.at x10 x->n<=x
def afo (p:kZ) (sa da po qo:Int):Prop:=rC p/\(kL sa/\kL da)/\(-1<=po/\po<=65535/\ -1<=qo/\qo<=65535/\(0<=po\/0<=qo))/\p.data.length<=60000
theorem adz {t o:Int} (h: -1<=t/\t<=65535) (ho:mW o):mW (Hg t o):=by
 unfold Hg;split
 ·exact ho
 ·exact⟨by omega,by omega⟩
theorem aao (p:kZ) {o d:gG} (ho:iH w o p.opts) (hd:iH w d p.data) (h1:p.opts.length<=2^40) (h2:p.data.length<=2^40) (sa da po qo:Int)
  {K:Int->Int->Int->Int->Int->Int->Int->Bool->Bool->gG->gG->Int->b_}
  (hK:∀x0 x1 x2 x3 x4 x5 x6 x7 x8 x9 ac e w',Ext w w'->(afo p sa da po qo->ajp w.heap.size w' p sa da po qo x0 x1 x2 x3 x4 x5 x6 x7 x8 x9 ac e)->K x0 x1 x2 x3 x4 x5 x6 x7 x8 x9 ac e w'):
  yX p.tos p.id p.off p.ttl p.proto p.src p.dst p.df p.mf o d sa da po qo w K:=by
 apply Vj;refine gU λa w3 r3 e3 z3 f3=> ?_;refine gU λb w4 r4 e4 z4 f4=> ?_;refine gU λc w5 r5 e5 z5 f5=> ?_;refine gU λg w6 r6 e6 z6 f6=> ?_;have zc:=f3.size;have zd:=f4.size;have ze:=f5.size;have zf:=f6.size;have x6:=((f3.trans f4).trans f5).trans f6;have ae:=((r3.ext f4).ext f5).ext f6;have aq:=(r4.ext f5).ext f6;have ar:=r5.ext f6;refine lu ae ?_;refine NS p (ho.ext x6) (hd.ext x6) h1 h2 λv e w7 f7 hF hG=> ?_;have x7:=x6.trans f7;have af:=ae.ext f7;have N:=aq.ext f7;have O:=ar.ext f7;have ag:=r6.ext f7;have z7:=f7.size;have bad:∀(W:θ) (e:Int),Ext w7 W->¬afo p sa da po qo->iE ξ W ⟨g,0,none⟩ 0 λah=>iG ah ⟨g,0,none⟩ λy0 y1 y2 y3 y4 y5 y6 y7 y8 y9 au=>K y0 y1 y2 y3 y4 y5 y6 y7 y8 y9 au e ah:=by
  intro W e hW hn;refine gZ (ag.ext hW) rfl rfl λw8 r8 f8' z8=> ?_;have f8:=f8' _ rfl;refine lu r8 ?_;exact hK _ _ _ _ _ _ _ _ _ _ _ e w8 ((x7.trans hW).new f8 λy hy e=>by omega) λh=>absurd h hn
 by_cases he:e=0;rotate_left
 ·have:(e !=0)=true:=by simp_all
  rw[this,abt];exact bad w7 e (Ext.refl _) λhh=>he (hG hh.1)
 subst he;show cond false _ _;rw[aaf];have hF7:=hF rfl;refine⟨by omega,by omega,?_⟩;refine Ld_i 0 po O ⟨by omega,by omega,?_⟩;refine Ld_i 1 qo O ?_;intro J;have R:∀(W:θ),Ext w7 W->¬afo p sa da po qo->J true W:=λW hW hn=>bad W 1 hW hn;have av:∀(W:θ),Ext w7 W->J false W:=by
  intro W hW;show cond false _ _;rw[aaf];have hd':=hW.trans (Ext.drew W);have U:=N.ext hd';have aw:=af.ext hd';have z8:=hd'.size;refine⟨by omega,by omega,Ld_i 0 sa U ⟨by omega,by omega,Ld_i 1 da U ?_⟩⟩;refine iC (i:=5) aw rfl (by simp) λw8 r8 f8' z8'=> ?_;have f8:ig W.drew w8 (·=a):=f8' _ rfl;have y8:=(x7.trans hd').nw f8;refine⟨by rw[gY,((U.fr f8 (by omega))).cell];rfl,?_⟩;refine iC (i:=6) r8 rfl (by simp) λw9 r9 f9' z9'=> ?_;have f9:ig w8 w9 (·=a):=f9' _ rfl;have y9:=y8.nw f9;simp only[ahm,af5] at r9;refine Ld_s 9 o r9 ?_;refine cmS2 (oG (ho.ext y9) (by omega)) ?_;rintro oc ai ⟨ax,_,f10,_⟩;have aj:=r9.ext f10;refine iC (i:=9) aj rfl (by simp) λu ak Y z11=> ?_;have f11:ig ai u (·=a):=Y _ rfl;have ay:=(y9.trans f10).nw f11;simp only[ahm,af5] at ak;have y11d:=ay.trans (Ext.drew u);have r11d:=ak.drew;have I:=((((hd'.fr f8).trans f9 λ_ _ h=>h).ext f10).trans f11 λ_ _ h=>h).ext (Ext.drew u);have r511:=O.fr I (by omega);have hF11:=hF7.fr I af (by simp) λy hy=>hy;have r611:=ag.fr I (by omega);refine⟨by omega,by omega,Ld_i 0 po r511 ⟨by omega,by omega,Ld_i 1 qo r511 ?_⟩⟩;refine Ld_i 5 sa r11d (Ld_i 6 da r11d ?_);refine aep hF11 po qo λv' w12 f12 hF2=> ?_;have Z:=r11d.ext f12;refine⟨by rw[gY,Z.cell];rfl,by rw[gY,Z.cell];rfl,?_⟩;refine ab5 hF2 sa da λr e az f13 hB=> ?_;have aa:=Z.ext f13;refine iC (i:=10) aa rfl (by simp) λaA am ab z14=> ?_;have f14:ig az aA (·=a):=ab _ rfl;simp only[ahm,af5] at am;have aB:=((y11d.trans f12).trans f13).nw f14;refine lu am ?_;have zz:=f12.size;have zy:=f13.size;have r614:=((r611.ext f12).ext f13).fr f14 (by omega);refine StN_f r614 λaC aD f15 z15=> ?_;refine lu aD ?_;refine hK _ _ _ _ _ _ _ _ _ _ _ e aC (aB.nw f15) λhm=> ?_;obtain⟨hg,_,⟨m1,m2,m3,m4,_⟩,hl⟩:=hm;obtain⟨q1,q2,qn⟩:=hB hg (adz ⟨m1,m2⟩ (YE _ _)) (adz ⟨m3,m4⟩ (YE _ _)) hl;have bo:iH ai oc p.opts:=iH.iM ax;have b1:=bo.fr f11 λad ha h0 e=>jo aj (by simp) bo ha h0 e;have b2:=((b1.ext (Ext.drew u)).ext f12).ext f13;have b3:=b2.fr f14 λad ha h0 e=>jo aa (by simp) b2 ha h0 e;refine⟨q1,⟨⟨rfl,rfl,rfl,rfl,rfl,rfl,rfl,rfl,rfl⟩,b3.fr f15 λad ha h0 e=>jo r614 (by simp) b3 ha h0 e,?_⟩,λx hx=>by have:=qn x hx;have:=I.size;omega⟩;have q3:=q2.fr f14 λad ha h0 e=>jo aa (by simp) q2 ha h0 e;exact q3.fr f15 λad ha h0 e=>jo r614 (by simp) q3 ha h0 e
 clear_value J;refine⟨by omega,by omega,Ld_i 0 sa N ?_⟩;refine cmS0 (BX sa w7) ?_;rintro q w8 ⟨rfl,hw⟩;subst hw;by_cases k1:kL sa;rotate_left
 ·rw[adX k1,afk,abt];exact R _ (Ext.refl _) λhh=>k1 hh.2.1.1
 rw[aff k1,adt,aaf];refine⟨by omega,by omega,Ld_i 1 da N ?_⟩;refine cmS0 (BX da _) ?_;rintro q w8 ⟨rfl,hw⟩;subst hw;by_cases k2:kL da;rotate_left
 ·rw[adX k2,afk,abt];exact R _ (Ext.refl _) λhh=>k2 hh.2.1.2
 rw[aff k2,adt,aaf];refine cmS0 (sQ _ 2 _) ?_;rintro q w8 ⟨hq,hw⟩;subst hw
 cases q
 ·refine R _ (Ext.refl _) λhh=>amC hq.symm ?_;obtain⟨_,_,⟨m1,m2,m3,m4,m5⟩,_⟩:=hh;have an:∀x:Int,(x=po\/x=qo)->0<=x->jm x 2:=λx hx h0=>⟨by decide,h0,by grind⟩;by_cases ao:qo>po
  ·rw[adZ ao];exact an _ (.inr rfl) (by omega)
  ·rw[acZ ao];exact an _ (.inl rfl) (by omega)
 exact av _ (Ext.refl _)
theorem ahT (p:kZ) {o d:gG} (ho:iH w o p.opts) (hd:iH w d p.data) (h1:p.opts.length<=2^40) (h2:p.data.length<=2^40) (ad po:Int)
  {K:Int->Int->Int->Int->Int->Int->Int->Bool->Bool->gG->gG->Int->b_}
  (hK:∀x0 x1 x2 x3 x4 x5 x6 x7 x8 x9 h e w',Ext w w'->(afo p ad p.dst po (-1)->ajp w.heap.size w' p ad p.dst po (-1) x0 x1 x2 x3 x4 x5 x6 x7 x8 x9 h e)->K x0 x1 x2 x3 x4 x5 x6 x7 x8 x9 h e w'):
  FY p.tos p.id p.off p.ttl p.proto p.src p.dst p.df p.mf o d ad po w K:=by
 apply Xo;refine gU λg0 w1 r1 e1 z1 f1=> ?_;refine gU λg1 w2 r2 e2 z2 f2=> ?_;have x2:=f1.trans f2;have u:=r1.ext f2;have za:=f1.size;have zb:=f2.size;refine lu u (iF u rfl ?_);refine aao p (ho.ext x2) (hd.ext x2) h1 h2 _ _ _ _ λy0 y1 y2 y3 y4 y5 y6 y7 y8 y9 y10 e W hW hR=> ?_;refine StN_f (r2.ext hW) λw4 r4 f4 z4=> ?_;refine lu r4 ?_;refine hK _ _ _ _ _ _ _ _ _ _ _ e w4 ((x2.trans hW).nw f4) λhm=> ?_;obtain⟨q1,⟨q2,b3,q3⟩,q4⟩:=hR hm;exact⟨q1,⟨q2,b3.fr f4 λad ha h0 e=>jo (r2.ext hW) (by simp) b3 ha h0 e,q3.fr f4 λad ha h0 e=>jo (r2.ext hW) (by simp) q3 ha h0 e⟩,λx hx=>by grind⟩
end
end Go.Proofs.AN
end
section
namespace Go.Proofs.AN
open Gp Gp.V4 Go.Proofs Go.Proofs.VN
open Gp.Bind (In64)
section
variable {w0 w w':θ}
theorem adx (e:Int) (w:θ):FX e w λr w'=>r≠0/\w'=w:=by
 apply aaA
 cases (e==8)<;>exact⟨by decide,rfl⟩
theorem Ym (p:kZ) {o d:gG} (hd:iH w d p.data) (h2:p.data.length<=2^40) {K:Int->Int->Int->gG->Bool->b_}
  (hK:∀k c r d' is w' (m:List UInt8),Ext w w'->iH w' d' m->m.length<=2^40->(is=true->p.proto=1)->K k c r d' is w'):
  Au p.tos p.id p.off p.ttl p.proto p.src p.dst p.df p.mf o d w K:=by
 apply Xi;refine gU λa w1 r1 e1 z1 f1=> ?_;refine gU λb w2 r2 e2 z2 f2=> ?_;have h:=r1.ext f2;have x2:=f1.trans f2;have za:=f1.size;have zb:=f2.size;refine iF h rfl ?_;by_cases p1:p.proto=1;rotate_left
 ·rw[show (p.proto !=1)=true by simp_all,abt];refine gZ r2 rfl rfl λw3 r3 f3' z3=> ?_;have f3:=f3' _ rfl;refine Yx (x3:=⟨none,0,0⟩) r3 ?_;exact hK _ _ _ _ _ w3 [] (x2.new f3 λy hy e=>by omega) iH.nil (by simp) λhh=>by cases hh
 rw[show (p.proto !=1)=false by simp_all,aaf];refine iF h rfl ?_;refine UE (hd.ext x2) h2 λu0 u1 u2 u3 e w3 m f3 hm N=> ?_;refine gU λg w4 r4 e4 z4 f4=> ?_;refine gZ r4 rfl rfl λw5 r5 f5' z5=> ?_;have f5:=f5' _ rfl;have u:=f4.new f5 λy hy e=>by omega
 have g5:=f3.trans u;have hm5:=hm.ext u;intro J;have fin:∀(q:Bool) W,Ext w5 W->iE [Β u0,Β u1,Β u2,Δ u3] W ⟨b,0,none⟩ 0 λO=>J q O:=by
  intro q W hW;refine StN_f ((r2.ext g5).ext hW) λw6 r6 f6 z6=> ?_;simp only[J];refine Yx r6 ?_;have I:=hm5.ext hW;exact hK _ _ _ _ _ w6 m (((x2.trans g5).trans hW).nw f6) (I.fr f6 λad ha h0 e=>jo ((r2.ext g5).ext hW) (by simp) I ha h0 e) N λ_=>p1
 clear_value J;have r5d:=r5.drew;have c0:∀{W:θ},Ext w5 W->W.cell? (Addr.add ⟨g,0,none⟩ 0)=some (Β u0)/\W.cell? (Addr.add ⟨g,0,none⟩ 1)=some (Β u1)/\W.cell? (Addr.add ⟨g,0,none⟩ 2)=some (Β u2)/\W.cell? (Addr.add ⟨g,0,none⟩ 3)=some (Δ u3):=
  λhW=>⟨by rw[gY,(r5.ext hW).cell];rfl,by rw[gY,(r5.ext hW).cell];rfl,by rw[gY,(r5.ext hW).cell];rfl,by rw[gY,(r5.ext hW).cell];rfl⟩
 refine Yx (K:=λx29 x30 x31 x32 W=>_) r5d ?_
 cases (e==0)
 ·rw[aaf];obtain⟨q0,q1,q2,q3⟩:=c0 (Ext.drew w5);exact⟨q0,q1,q2,q3,fin false _ (Ext.drew w5)⟩
 ·rw[abt];refine iF r5d rfl ?_;refine cmS0 (aek _ _) ?_;rintro fr w6 f6;obtain⟨q0,q1,q2,q3⟩:=c0 ((Ext.drew w5).trans f6);exact⟨q0,q1,q2,q3,fin fr _ ((Ext.drew w5).trans f6)⟩
end
end Go.Proofs.AN
namespace Go.Proofs.EN
open Gp Gp.V4 Go.Proofs Go.Proofs.AN Go.Proofs.VN
open Gp.Bind (Bnd Slots live GoodB freeN getS In64)
open Gp.Ses (Ses)
variable {w w':θ} {a:EA} {c:Cf} {e:ES}
structure Stp (c:Cf) (e e':ES) (sw:Int):Prop where
 now:e'.now=e.now
 tn:e'.tn<=e.tn+1
 S:∀(j:Nat) (b:Bnd),e.S[j]? =some (some b)->e'.S[j]? =some (some b)
 SS:∀(k:Nat) (s:Ses),e.SS[k]? =some (some s)->(∀(j:Nat) (b:Bnd),s.bd=(j:Int)->e.S[j]? =some (some b)->b.sw≠sw)->e'.SS[k]? =some (some s)
 un:∀(k:Nat) (s:Ses),e'.SS[k]? =some (some s)->e.SS[k]? =some (some s)\/∃(j:Nat) (b:Bnd) (nx:Int),s.bd=(j:Int)/\e'.S[j]? =some (some b)/\s.un=N8 c e b.pr nx
 nw:∀(j:Nat) (b:Bnd),e'.S[j]? =some (some b)->e.S[j]? =some (some b)\/(b.st=false/\c.lo<=b.opo/\b.opo<=c.hi)
theorem Flow.S {e1:ES} {sw pr ad po ra rp bd sid:Int} {kn:Bool} (hf:Flow c e e1 sw pr ad po ra rp bd sid kn) {j:Nat} {b:Bnd} (h:e.S[j]? =some (some b)):e1.S[j]? =some (some b):=by
 rcases hf.was with ⟨rfl,_⟩|⟨_,_,i,o,Mi,Mo,_,u,_,rfl⟩
 ·exact h
 ·have h2:=(Gp.Bind.jE 0 u).2.1
  grind
theorem Flow.eq {e1:ES} {sw pr ad po ra rp bd sid:Int} {kn:Bool} (hf:Flow c e e1 sw pr ad po ra rp bd sid kn):e1.SS=e.SS/\e1.now=e.now/\e1.tn=e.tn/\e1.M=e.M:=by
 rcases hf.was with ⟨rfl,_⟩|⟨_,_,i,o,Mi,Mo,_,hfi,_,rfl⟩<;>exact⟨rfl,rfl,rfl,rfl⟩
theorem akl {e1:ES} {sw pr ad po ra rp bd sid:Int} {kn:Bool} (hf:Flow c e e1 sw pr ad po ra rp bd sid kn) {k:Nat} {s:Ses} {M F l nx}
  (hs:(kn=true/\sid=(k:Int)/\∃s0,e1.SS[k]? =some (some s0)/\s={s0 with st:=nx,un:=N8 c e1 pr nx})\/(kn=false/\Gp.Ses.freeN e1.SS=some k/\s=⟨bd,nx,N8 c e1 pr nx,ra,rp⟩)):
  Stp c e {e1 with SS:=e1.SS.set k (some s),M:=M,l:=l,tn:=e1.tn+1,F:=F} sw:=by
 obtain⟨q1,q2,q3,_⟩:=hf.eq;refine⟨q2,by simp_all,λj b h=>hf.S h,λk' s' h hn=> ?_,λk' s' h=> ?_,λj b h=> ?_⟩;rotate_left
 ·have h:=h;rw[akQ] at h;split at h
  ·split at h
   ·have:=akR (akR h);subst this;obtain⟨j,b,hj,hb,_,u,_⟩:=hf.bnd;refine .inr ⟨j,b,nx,?_,hb,?_⟩
    ·rcases hs with ⟨rfl,hk,s0,h0,rfl⟩|⟨_,_,rfl⟩
     ·rcases hf.ses with ⟨_,k2,s2,g1,g2,g3,_⟩|⟨g,_⟩
      ·grind
      ·cases g
     ·exact hj
    ·have hu:N8 c e1 pr nx=N8 c e b.pr nx:=by rw[u];unfold N8;rw[q2]
     rcases hs with ⟨_,_,s0,_,rfl⟩|⟨_,_,rfl⟩<;>exact hu
   ·cases h
  simp_all
 ·rcases hf.was with ⟨rfl,_⟩|⟨_,_,i,o,Mi,Mo,_,_,ht,rfl⟩
  ·exact .inl h
  ·have h:=h;rw[akQ] at h;split at h
   ·split at h
    ·have:=akR (akR h);subst this;exact .inr ⟨rfl,(PN.VZ ht).2.2.1⟩
    ·cases h
   simp_all
 show (e1.SS.set k _)[k']? =_;rw[akQ,q1,acZ]
 ·exact h
 rintro rfl;rcases hs with ⟨rfl,hk,s0,h0,_⟩|⟨_,I,_⟩
 ·rcases hf.ses with ⟨_,k2,s2,g1,g2,g3,_⟩|⟨g,_⟩
  ·have:k2=k:=by omega
   subst this;rw[q1,h] at g2;have:s'=s2:=by simp_all
   subst this;rcases hf.was with ⟨rfl,_⟩|⟨_,g,_⟩
   ·obtain⟨j,b,hj,hb,hsw,_⟩:=hf.bnd
    grind
   ·cases g
  ·cases g
 ·have:=(Gp.Ses.jE 0 I).2.1
  simp_all
def Law (c:Cf) (sw:Int) (p:kZ):Prop:=UD c sw/\rC p/\p.data.length<=60000
def alq (w':θ) (c:Cf) (e e':ES) (sw:Int) (p:kZ) (x0 x1 x2 x3 x4 x5 x6:Int) (x7 x8:Bool) (x9 x10:gG):Prop:=
 ∃(j:Nat) (b:Bnd) (k:Nat) (s:Ses),e'.S[j]? =some (some b)/\b.sw=sw/\b.pr=17/\b.ad=p.src/\b.po=(wordAt p.data 0:Int)/\e'.SS[k]? =some (some s)/\s.bd=(j:Int)/\s.ra=p.dst/\s.rp=(wordAt p.data 2:Int)/\s.un=N8 c e 17 0/\
  PkR w' {p with src:=b.oad,data:=NW b.oad p.dst b.opo (wordAt p.data 2:Int) false (p.data.drop 8)} x0 x1 x2 x3 x4 x5 x6 x7 x8 x9 x10/\e'.SS=e.SS.set k (some s)/\
  (e.Mi (Bind.keyS [sw,17,p.src,(wordAt p.data 0:Int)])=none->PN.Fp 17 (wordAt p.data 0:Int) sw c.lo c.hi c.pl e.G=some (b.opr,b.oad,b.opo)/\b.st=false)
end Go.Proofs.EN
end
section
namespace Go.Proofs.EN
open Gp Gp.V4 Go.Proofs Go.Proofs.AN Go.Proofs.VN
open Gp.Bind (Bnd Slots live GoodB freeN getS In64)
open Gp.Ses (Ses)
variable {w w':θ} {a:EA} {c:Cf} {e:ES}
theorem out_ok (h:lS w a c e) (hg:Gd c e) (hm:CfM c) (ht:e.tn<2^61) (hH:Hdl w) (_:¬iW a 0) (sw:Int) (p:kZ) {o d:gG} (ho:iH w o p.opts) (hd:iH w d p.data) (h1:p.opts.length<=2^40) (h2:p.data.length<=2^40)
  (bh:∀ad,o.a=some ad->0<p.opts.length->¬iW a ad.block) (bi:∀ad,d.a=some ad->0<p.data.length->¬iW a ad.block)
  {K:Int->Int->Int->Int->Int->Int->Int->Bool->Bool->gG->gG->Int->b_}
  (hD:∀x0 x1 x2 x3 x4 x5 x6 x7 x8 x9 I why w',Ext w w'->(Law c sw p->Full c e sw 17 (wordAt p.data 0:Int) why/\N_ e sw 17 p.src (wordAt p.data 0:Int) p.dst (wordAt p.data 2:Int))->K x0 x1 x2 x3 x4 x5 x6 x7 x8 x9 I why w')
  (hK:∀x0 x1 x2 x3 x4 x5 x6 x7 x8 x9 I w' a' e',ig w w' (iW a)->lS w' a' c e'->Gd c e'->Grow a a' w.heap.size->a'.x=a.x->Stp c e e' sw->(Law c sw p->alq w' c e e' sw p x0 x1 x2 x3 x4 x5 x6 x7 x8 x9 I/\∀b,gG.at I b->¬iW a' b)->K x0 x1 x2 x3 x4 x5 x6 x7 x8 x9 I 0 w'):
  jH (some ⟨a.x,0,none⟩) sw p.tos p.id p.off p.ttl p.proto p.src p.dst p.df p.mf o d w K:=by
 apply NI;refine gU λg0 w1 r1 e1 z1 f1=> ?_;refine gU λg1 w2 r2 e2 z2 f2=> ?_;have x2:=f1.trans f2;have r1:=r1.ext f2;have za:=f1.size;have zb:=f2.size;have h02:0<w.heap.size:=by
  have:=h.lt 0 a.x (by simp[own]);omega
 have fin:∀(W:θ) (why:Int),Ext w2 W->(Law c sw p->Full c e sw 17 (wordAt p.data 0:Int) why/\N_ e sw 17 p.src (wordAt p.data 0:Int) p.dst (wordAt p.data 2:Int))->iE ξ W ⟨g1,0,none⟩ 0 λY=>iG Y ⟨g1,0,none⟩ λy0 y1 y2 y3 y4 y5 y6 y7 y8 y9 aJ=>K y0 y1 y2 y3 y4 y5 y6 y7 y8 y9 aJ why Y:=by
  intro W why hW hL;refine StN_f (r2.ext hW) λw4 r4 f4 z4=> ?_;refine lu r4 ?_;exact hD _ _ _ _ _ _ _ _ _ _ _ why w4 ((x2.trans hW).nw f4) hL
 intro J8;have hJ8t:∀W,Ext w2 W->¬Law c sw p->J8 true W:=by
  intro W hW hn;simp -zeta only[J8];exact fin W 1 hW λhh=>absurd hh hn
 have hJ8f:∀W,Ext w2 W->UD c sw->p.check=0->J8 false W:=by
  intro W hW ae hc0;simp -zeta only[J8];rw[aaf];have r1W:=r1.ext hW;have xW:=x2.trans hW;refine lu r1W ?_;refine Ym p (hd.ext xW) h2 λk1 k2 k3 d' is w3 m f3 hd' bj bk=> ?_;refine gU λb1 w4 r4 e4 z4 f4=> ?_;refine StN_f r4 λw5 r5 f5 z5=> ?_;have aQ:Ext w3 w5:=f4.nw f5;have g5:=f3.trans aQ;have af:=r1W.ext g5;have hE5:=h.ext (xW.trans g5)
  cases is
  rotate_left
  ·rw[abt];have bm:¬Law c sw p:=λhh=>by have:=bk rfl;have:=hh.2.1.1;omega
   refine lu af ?_;refine Yx (K:=λx53 x54 x55 x56 W=>_) r5 ?_;refine ϲ hE5 sw (by unfold In64;have:=h.cf.sw;obtain⟨q1,q2⟩:=ae;omega) p (ho.ext (xW.trans g5)) h1 k1 k2 k3 (hd'.ext aQ) bj λy0 y1 y2 y3 y4 y5 y6 y7 y8 y9 aJ why w6 f6=> ?_;refine StN_f ((r2.ext hW).ext (g5.trans f6)) λw7 r7 f7 z7=> ?_;refine lu r7 ?_;exact hD _ _ _ _ _ _ _ _ _ _ _ why w7 (((xW.trans g5).trans f6).nw f7) λhh=>absurd hh bm
  rw[aaf];refine lu af ?_;refine cmS10 (agW p (ho.ext (xW.trans g5)) (hd.ext (xW.trans g5)) h1 h2) ?_;rintro x y z ee w6 ⟨⟨ix,iz,hp0,aK⟩,f6⟩;refine gU λb2 w7 r7 e7 z7 f7=> ?_;refine StN_f r7 λw8 r8 f8 z8=> ?_;have bn:Ext w6 w8:=f7.nw f8;have g8:=(g5.trans f6).trans bn;by_cases aL:ee=0;rotate_left
  ·rw[show (ee !=0)=true by rw[amj];exact aL,abt];refine cmS1 (adx ee w8) ?_;rintro r w9 ⟨hr,hw9⟩;subst hw9;exact fin w9 r (hW.trans g8) λhh=>absurd (aK hh.2.1).1 aL
  subst aL;show cond false _ _;rw[aaf];obtain⟨rfl,an⟩:=hp0 rfl;have ao:Law c sw p->p.proto=17/\y=(wordAt p.data 0:Int)/\z=(wordAt p.data 2:Int):=λhh=>⟨hh.2.1.1,(aK hh.2.1).2.1,(aK hh.2.1).2.2⟩;have aR:=r1W.ext g8;have x8:=xW.trans g8;refine Ld_i 0 p.proto r8 (Ld_i 5 p.src aR (Ld_i 1 y r8 ?_));refine gU λb3 w9 r9 e9 z9 f9=> ?_;refine StN_f r9 λJ ag f10 z10=> ?_;have zc:=f3.size;have zd:=f6.size;have ze:=f9.size;have x810:Ext w8 J:=f9.nw f10;have I:=x8.trans x810;have r1A:=aR.ext x810;have r2A:=(r2.ext hW).ext (g8.trans x810);have rpA:=r8.ext x810;intro J122;have bo:∀{pr},pr=p.proto->N_ e sw pr p.src y p.dst (if pr=1 then 0 else z)->Law c sw p->N_ e sw 17 p.src (wordAt p.data 0:Int) p.dst (wordAt p.data 2:Int):=by
   rintro pr rfl hn hh;obtain⟨q1,q2,q3⟩:=ao hh;rw[q1,acZ (by omega),q2,q3] at hn;exact hn
  have aS:∀(W:θ) (g:Nat) (dd:Int),Ext J W->(Law c sw p->Full c e sw 17 (wordAt p.data 0:Int) dd/\N_ e sw 17 p.src (wordAt p.data 0:Int) p.dst (wordAt p.data 2:Int))->J122 ⟨g,0,none⟩ (QT dd) W:=by
   intro W g dd hx hL;simp -zeta only[J122];refine gU λt Y Z ax ay f11=> ?_;refine cmS0 (afB ((hH.ext (I.trans hx)).ext f11) Z) ?_;rintro q N ⟨rfl,f12,aq⟩;rw[abt];have r12d:=aq.drew;refine Ld_i 0 dd r12d ?_;have zx:=hx.size;have aT:Ext J N.drew:=((hx.trans f11).new f12 λy hy e=>by omega).trans (Ext.drew N);refine StN_f (r2A.ext aT) λaa bp f13 z13=> ?_;refine⟨by rw[(r12d.fr f13 (by have:=r2A.lt;omega)).cell];rfl,?_⟩;refine lu bp ?_;exact hD _ _ _ _ _ _ _ _ _ _ _ dd aa ((I.trans aT).nw f13) hL
  have aU:∀(W:θ) (g:Nat) (a':EA) (e':ES) (bd sid nx:Int) (kn:Bool),J.heap.size<=W.heap.size->J.heap.size<=g->ig J W (iW a)->lS W a' c e'->Gd c e'->Grow a a' J.heap.size->¬iW a' g->a'.x=a.x->
    Flow c e e' sw p.proto p.src y p.dst (if p.proto=1 then 0 else z) bd sid kn->(p.proto≠6->nx=0)->Row W g (QX bd true sid kn nx p.dst (if p.proto=1 then 0 else z))->J122 ⟨g,0,none⟩ .nilIface W:=by
   intro W g a' e' bd sid nx kn hz hzg hf hE hG ah bq au ab az hr;simp -zeta only[J122];have ar:∀b,iW a b->b<w.heap.size:=λb ⟨k,hk⟩=>h.lt k b hk;have zz2:=xW.size;have zz8:=x8.size;have zz10:=I.size;have lt2:=r8.lt;refine gU λt Y Z ax ay f11=> ?_;refine cmS0 (afC _ Y) ?_;rintro q N ⟨rfl,hw⟩;subst hw;rw[aaf];have hf1:=hf.ext f11;have hr1:=hr.ext f11;have rp1:=rpA.fr hf1 λhb=>by have:=ar _ hb;omega
   refine rd7 (Q:=λy0 y1 y2 y3 y4 y5 y6=>Ld ν N ⟨b2,0,none⟩ λy7=>Ld ν N (Addr.add ⟨g,0,none⟩ 4) λy8=>oz (some ⟨a.x,0,none⟩) y0 y1 y2 y3 y4 y5 y6 y7 y8 N _) hr1 ?_;refine Ld_i 0 p.proto rp1 (Ld_i 4 nx hr1 ?_);rw[<- au];obtain⟨q1,q2,q3,q4⟩:=ab.eq;obtain⟨jb,bb,aA,U,hb1,hb2,hb3,hb4⟩:=ab.bnd;have ib:In64 bd:=by
    have:=(afg.1 U).1;have:=hE.db.len;have:=h.cf.b1;rw[aA];unfold In64;omega
   have ira:In64 p.dst:=by
    have:=(pG hc0).1.2.1.2;unfold kL at this;unfold In64;omega
   have irp:In64 (if p.proto=1 then 0 else z):=by unfold In64;split<;>omega
   refine adw (hE.ext f11) hG hm an (by omega) (ab.ses.imp (λ⟨g1,k,s0,g2,g3,_⟩=>⟨g1,k,s0,g2,g3⟩) λ⟨g1,g2,g3⟩=>⟨g1,g2,g3,⟨jb,bb,aA,U⟩,ib,ira,irp⟩) λaa a2 M F k s f13 hk4 br hst hs hE2 hG2 aB ac=> ?_;have aC:=akl ab hs (M:=M) (F:=F) (l:=CS e'.l (k:Int) ⟨(k:Int),max (N8 c e' p.proto nx).toNat e'.wn,e'.tn+1⟩);generalize hE2e:({e' with SS:=e'.SS.set k (some s),M:=M,l:=CS e'.l (k:Int) ⟨(k:Int),max (N8 c e' p.proto nx).toNat e'.wn,e'.tn+1⟩,tn:=e'.tn+1,F:=F}:ES)=e2 at hE2 hG2 aC;have hf3:ig J aa (iW a):=hf1.trans f13 λb hb ho=>(ah b ho).elim id λhh=>by omega
   have hf3w:ig w aa (iW a):=(I _).trans hf3 λ_ _ q=>q;have hr3:=hr1.fr f13 bq;intro J153;have hJ153:∀(u:Nat) (W:θ),Ext aa W->Row W u [Β bb.sw,Β bb.pr,Β bb.ad,Β bb.po,Β bb.opr,Β bb.oad,Β bb.opo,.bool bb.st]->J153 ⟨u,0,none⟩ W:=by
    intro u W hW hu;simp -zeta only[J153];have lt1:=r1A.lt;have lt2':=r2A.lt;have fW:=hf3.ext hW;have fWw:=hf3w.ext hW;have r1W:=r1A.fr fW λhb=>by have:=ar _ hb;omega
    have r2W:=r2A.fr fW λhb=>by have:=ar _ hb;omega
    refine lu r1W ?_;have g5:W.cell? (Addr.add (Addr.add ⟨u,0,none⟩ 4) 1)=some (Β bb.oad):=by rw[gY,gY,hu.cell];rfl
    have g6:W.cell? (Addr.add (Addr.add ⟨u,0,none⟩ 4) 2)=some (Β bb.opo):=by rw[gY,gY,hu.cell];rfl
    refine iO (k:= .int .i64) (y:=bb.oad) g5 (iO (k:= .int .i64) (y:=bb.opo) g6 ?_);refine ahT p (ho.fr fWw bh) (hd.fr fWw bi) h1 h2 bb.oad bb.opo λy0 y1 y2 y3 y4 y5 y6 y7 y8 y9 aJ ee aM f14 hR=> ?_;refine gU λv aV af aW aX f15=> ?_;refine StN_f af λaD aE f16 aY=> ?_;have zf14:=f14.size;have ai:Ext aM aD:=f15.nw f16;refine lu aE ?_;refine StN_f (r2W.ext (f14.trans ai)) λaZ bt f17 z17=> ?_;refine lu bt ?_;have zw:=hW.size;have zfw:=hf3w.size;have ba:ig W aZ (·=g1):=((f14.trans ai) _).trans f17 λ_ _ q=>q;have hg1:∀b,iW a2 b->b≠g1:=by
     intro b hb;rcases aB b hb with hb|hb
     ·rcases ah b hb with hb|hb
      ·have:=ar _ hb;omega
      ·omega
     ·have:=hf.size;omega
    refine hK _ _ _ _ _ _ _ _ _ _ _ aZ a2 e2 (fWw.trans ba λb hb he=>by omega) ((hE2.ext hW).fr ba λk b hb he=>hg1 b ⟨k,hb⟩ he) hG2 ?_ (ac.trans au) aC λhL=> ?_
    ·intro b hb;rcases aB b hb with hb|hb
     ·rcases ah b hb with hb|hb
      ·exact .inl hb
      ·exact .inr (by omega)
     ·exact .inr (by have:=hf.size;have:=f11.size;omega)
    ·obtain⟨av,hy,hz⟩:=ao hL;have aN:=hG.inv.mp jb bb U;have bu:=h.cf.hp _ aN.2.2.1;have hR:=hR ⟨hL.2.1,⟨by unfold kL;unfold CN.nC at bu;omega,(pG hc0).1.2.1.2⟩,by have:=aN.2.2.2.2.1;omega,hL.2.2⟩;have bv:Hg bb.opo (wordAt p.data 0:Int)=bb.opo:=acZ (by have:=aN.2.2.2.2.1.1;omega);obtain⟨_,⟨hR2,aI,hR3⟩,hR4⟩:=hR;unfold ak3 at hR2 aI hR3;rw[bv,show Hg (-1) (wordAt p.data 2:Int)=(wordAt p.data 2:Int) from adZ rfl] at hR2 aI hR3;have aO:s.bd=(jb:Int)/\s.ra=p.dst/\s.rp=z:=by
      rcases hs with ⟨rfl,hk,s0,hs0,rfl⟩|⟨rfl,bc,rfl⟩
      ·rcases ab.ses with ⟨_,k2,s2,g1,g2,g3,g4,g5⟩|⟨g,_⟩
       ·have:k2=k:=by omega
        subst this;rw[hs0] at g2;have:s0=s2:=by simpa using g2
        subst this;exact⟨g3.trans aA,g4,g5.trans (acZ (by omega))⟩
       ·cases g
      ·exact⟨aA,rfl,acZ (by omega)⟩
     have bw:k<e'.SS.length:=by
      rcases hs with ⟨_,_,s0,hs0,_⟩|⟨_,bc,_⟩
      ·exact(afg.1 hs0).1
      ·exact(Gp.Ses.jE 0 bc).1
     have aP:=az (by omega);refine⟨?_,λy hy ⟨k,hk⟩=>by have:=hR4 y hy;have:=(hE2.ext hW).lt k y hk;omega⟩;refine⟨jb,bb,k,s,by rw[<- hE2e];exact U,hb1,hb2.trans av,hb3,hb4.trans hy,?_,aO.1,aO.2.1,aO.2.2.trans hz,?_,?_,?_,?_⟩
     ·rw[<- hE2e];show (e'.SS.set k _)[k]? =_;rw[akQ,adZ rfl,adZ bw]
     ·rw[br,av,aP];unfold N8;rw[q2]
     ·exact⟨hR2,(aI.ext ai).fr f17 λad ha h0 e=>jo (r2W.ext (f14.trans ai)) (by simp) (aI.ext ai) ha h0 e,(hR3.ext ai).fr f17 λad ha h0 e=>jo (r2W.ext (f14.trans ai)) (by simp) (hR3.ext ai) ha h0 e⟩
     ·rw[<- hE2e,<- q1]
     ·intro bx;rcases ab.was with ⟨_,be⟩|⟨_,_,i,o,Mi,Mo,hbi,bz,bf,he'⟩
      ·rw[av,hy,bx] at be;cases be
      ·have bA:=(Gp.Bind.jE 0 bz).1;have:jb=i:=by omega
       subst this;rw[he'] at U;have U:(e.S.set jb (some ⟨sw,p.proto,p.src,y,o.1,o.2.1,o.2.2,false⟩))[jb]? =some (some bb):=U;rw[akQ,adZ rfl,adZ bA] at U;have U:=akR (akR U);subst U;rw[av,hy] at bf;exact⟨bf,rfl⟩
   clear_value J153;have hE3:=hE2.ext (Ext.drew aa);have bg:getS e2.S bd=some bb:=Gp.Bind.lX.2 ⟨by omega,by rw[aA,abu,<- hE2e];exact U⟩;refine jS.2 (iO (k:= .ptr) (y:=some ⟨a2.B.d,0,none⟩) (by rw[gY,<- ac];exact hE3.c2) ?_);refine Ld_i 0 bd hr3.drew ⟨?_,?_⟩
   ·refine cmS14 (Dz hE3.db bd) ?_;rintro a1 a2' a3 a4 a5 a6 a7 a8 r aM ⟨_,hR,f14⟩;rw[bg] at hR;obtain⟨rfl,rfl,rfl,rfl,rfl,rfl,rfl,rfl⟩:=hR;refine gU λu aV af aW aX f15=> ?_;have aj:=(Ext.drew aa).trans (f14.trans f15);refine⟨by rw[(hr3.ext aj).cell];rfl,by rw[gY,<- ac];exact(hE2.ext aj).c2,?_⟩;refine StN_f af λaD aE f16 aY=> ?_;have zq:=((Ext.drew aa).trans f14).size;exact hJ153 u aD (aj.nw f16) aE
   ·refine gU λu aV af aW aX f15=> ?_;have aj:=(Ext.drew aa).trans f15;refine⟨by rw[(hr3.ext aj).cell];rfl,by rw[gY,<- ac];exact(hE2.ext aj).c2,?_⟩;refine cmS14 (Dz (hE2.ext aj).db bd) ?_;rintro a1 a2' a3 a4 a5 a6 a7 a8 r aM ⟨_,hR,f14⟩;rw[bg] at hR;obtain⟨rfl,rfl,rfl,rfl,rfl,rfl,rfl,rfl⟩:=hR;refine StN_f (af.ext f14) λaD aE f16 aY=> ?_;have zq:=(Ext.drew aa).size;exact hJ153 u aD ((aj.trans f14).nw f16) aE
  clear_value J122;have ar:∀b,iW a b->b<w.heap.size:=λb ⟨k,hk⟩=>h.lt k b hk;have zz2:=xW.size;have zz8:=x8.size;have zz10:=I.size;have lt1:=r1A.lt;have lt2:=rpA.lt;have lt3:=ag.lt;have ak:∀(V:θ),Row V b3 [Β sw,Β p.proto,Β p.src,Β y]->V.cell? (Addr.add ⟨b3,0,none⟩ 0)=some (Β sw)/\V.cell? (Addr.add ⟨b3,0,none⟩ 1)=some (Β p.proto)/\V.cell? (Addr.add ⟨b3,0,none⟩ 2)=some (Β p.src)/\V.cell? (Addr.add ⟨b3,0,none⟩ 3)=some (Β y):=
   λV hr=>⟨by rw[gY,hr.cell];rfl,by rw[gY,hr.cell];rfl,by rw[gY,hr.cell];rfl,by rw[gY,hr.cell];rfl⟩
  have ck:∀(V:θ) (R:Prop),Row V g0 (gX p.tos p.id p.off p.ttl p.proto p.src p.dst p.df p.mf o d)->Row V b2 [Β p.proto,Β y,Β z]->Row V b3 [Β sw,Β p.proto,Β p.src,Β y]->R->
    WB (gX p.tos p.id p.off p.ttl p.proto p.src p.dst p.df p.mf o d) V ⟨g0,0,none⟩ 0 (V.cell? (Addr.add ⟨b2,0,none⟩ 2)=some (Β z)/\V.cell? (Addr.add ⟨g0,0,none⟩ 6)=some (Β p.dst)/\V.cell? ⟨b2,0,none⟩=some (Β p.proto)/\
     V.cell? (Addr.add ⟨b3,0,none⟩ 0)=some (Β sw)/\V.cell? (Addr.add ⟨b3,0,none⟩ 1)=some (Β p.proto)/\V.cell? (Addr.add ⟨b3,0,none⟩ 2)=some (Β p.src)/\V.cell? (Addr.add ⟨b3,0,none⟩ 3)=some (Β y)/\R):=by
   intro V R k1 k2 k3 hR;obtain⟨q1,q2,q3,q4⟩:=ak V k3;exact Ij k1 ⟨by rw[gY,k2.cell];rfl,by rw[gY,k1.cell];rfl,by rw[k2.cell];rfl,q1,q2,q3,q4,hR⟩
  have ck4:∀(V:θ) (R:Prop),Row V g0 (gX p.tos p.id p.off p.ttl p.proto p.src p.dst p.df p.mf o d)->Row V b3 [Β sw,Β p.proto,Β p.src,Β y]->R->
    WB (gX p.tos p.id p.off p.ttl p.proto p.src p.dst p.df p.mf o d) V ⟨g0,0,none⟩ 0 (V.cell? (Addr.add ⟨b3,0,none⟩ 0)=some (Β sw)/\V.cell? (Addr.add ⟨b3,0,none⟩ 1)=some (Β p.proto)/\V.cell? (Addr.add ⟨b3,0,none⟩ 2)=some (Β p.src)/\V.cell? (Addr.add ⟨b3,0,none⟩ 3)=some (Β y)/\R):=by
   intro V R k1 k3 hR;obtain⟨q1,q2,q3,q4⟩:=ak V k3;exact Ij k1 ⟨q1,q2,q3,q4,hR⟩
  have isrc:0<=p.src/\p.src<=4294967295:=by
   have:=(pG hc0).1.2.1.1;unfold kL at this;omega
  have ira:In64 p.dst:=by
   have:=(pG hc0).1.2.1.2;unfold kL at this;unfold In64;omega
  have irp:In64 (if p.proto=1 then 0 else z):=by unfold In64;split<;>omega
  have dlaw:∀dd:Int,(Full c e sw p.proto y dd\/(p.proto=6/\dd=8)\/(p.proto=1/\dd=9))->(p.proto=6\/N_ e sw p.proto p.src y p.dst (if p.proto=1 then 0 else z))->Law c sw p->Full c e sw 17 (wordAt p.data 0:Int) dd/\N_ e sw 17 p.src (wordAt p.data 0:Int) p.dst (wordAt p.data 2:Int):=by
   intro dd aF hn hL;obtain⟨av,q2,_⟩:=ao hL;refine⟨?_,bo rfl (hn.resolve_left (by omega)) hL⟩;rcases aF with h|h|h
   ·rw[av,q2] at h;exact h
   ·omega
   ·omega
  have aG:∀V,Ext J V->kK (some ⟨a.x,0,none⟩) sw p.proto p.src y p.dst (if p.proto=1 then 0 else z) p.tos p.id p.off p.ttl p.proto p.src p.dst p.df p.mf o d V λr258 r259 r260 r261 r262 r263 r264 r265 w266=>Al w266 (.cells ⟨anq⟩ 109) λa268 w267=>WB (gX p.tos p.id p.off p.ttl p.proto p.src p.dst p.df p.mf o d) w267 ⟨g0,0,none⟩ 0 (w267.cell? (Addr.add ⟨b2,0,none⟩ 2)=some (Β z)/\w267.cell? (Addr.add ⟨g0,0,none⟩ 6)=some (Β p.dst)/\w267.cell? ⟨b2,0,none⟩=some (Β p.proto)/\
     w267.cell? (Addr.add ⟨b3,0,none⟩ 0)=some (Β sw)/\w267.cell? (Addr.add ⟨b3,0,none⟩ 1)=some (Β p.proto)/\w267.cell? (Addr.add ⟨b3,0,none⟩ 2)=some (Β p.src)/\w267.cell? (Addr.add ⟨b3,0,none⟩ 3)=some (Β y)/\iE (QX r258 r259 r260 r261 r262 r263 r264) w267 a268 0 λw269=>J122 a268 r265 w269):=by
   intro V hV;have zV:=hV.size;refine Ϣ (h.ext (I.trans hV)) hg hm p (ho.ext (I.trans hV)) (hd.ext (I.trans hV)) h1 h2 ae an isrc ⟨ix.1,ix.2⟩ ira irp ?_ ?_
   ·intro dd W aF hn hx;refine gU λg Y Z ax ay f11=> ?_;have O:=hV.trans (hx.trans f11);refine ck _ _ (r1A.ext O) (rpA.ext O) (ag.ext O) ?_;refine StN_f Z λN aq f12 z12=> ?_;have zx:=hx.size;exact aS N g dd (O.nw f12) (dlaw dd aF hn)
   ·intro W a' e' bd sid kn nx hf hE hG ah au ab az;have zx:=hf.size;refine gU λg Y Z ax ay f11=> ?_;have aw:ig J Y (iW a):=((hV _).trans hf λ_ _ q=>q).ext f11;have n1:∀b,iW a b->b≠g0/\b≠b2/\b≠b3:=λb hb=>by have:=ar b hb;omega
    refine ck _ _ (r1A.fr aw λhb=>(n1 _ hb).1 rfl) (rpA.fr aw λhb=>(n1 _ hb).2.1 rfl) (ag.fr aw λhb=>(n1 _ hb).2.2 rfl) ?_;refine StN_f Z λN aq f12 z12=> ?_;have n2:∀k b,own a' k b->b<W.heap.size:=hE.lt;have aH:¬iW a' g:=λ⟨k,hk⟩=>by have:=n2 k _ hk;omega
    have hE2:=(hE.ext f11).fr f12 λk b hb he=>aH ⟨k,he ▸ hb⟩;exact aU N g a' e' bd sid nx kn (by omega) (by omega) (aw.trans f12 λb hb he=>by omega) hE2 hG (λb hb=>(ah b hb).imp id λq=>by omega) aH au ab az aq
  have am:∀V g,Ext J V->J.heap.size<=g->Row V g (QX 0 false 0 false 0 0 0)->kK (some ⟨a.x,0,none⟩) sw p.proto p.src y p.dst (if p.proto=1 then 0 else z) p.tos p.id p.off p.ttl p.proto p.src p.dst p.df p.mf o d V λr272 r273 r274 r275 r276 r277 r278 r279 w280=>iE (QX r272 r273 r274 r275 r276 r277 r278) w280 ⟨g,0,none⟩ 0 λw281=>J122 ⟨g,0,none⟩ r279 w281:=by
   intro V g hV bB hr;have zV:=hV.size;have ltg:=hr.lt;refine Ϣ (h.ext (I.trans hV)) hg hm p (ho.ext (I.trans hV)) (hd.ext (I.trans hV)) h1 h2 ae an isrc ⟨ix.1,ix.2⟩ ira irp ?_ ?_
   ·intro dd W aF hn hx;refine StN_f (hr.ext hx) λN aq f12 z12=> ?_;have zx:=hx.size;exact aS N g dd ((hV.trans hx).nw f12) (dlaw dd aF hn)
   ·intro W a' e' bd sid kn nx hf hE hG ah au ab az;have zx:=hf.size;have aw:ig J W (iW a):=(hV _).trans hf λ_ _ q=>q;have ng:¬iW a g:=λhb=>by have:=ar _ hb;omega
    refine StN_f (hr.fr hf ng) λN aq f12 z12=> ?_;have aH:¬iW a' g:=λhb=>by
     rcases ah _ hb with hb|hb
     ·exact ng hb
     ·omega
    have hE2:=hE.fr f12 λk b hb he=>aH ⟨k,he ▸ hb⟩;exact aU N g a' e' bd sid nx kn (by omega) bB (aw.trans f12 λb hb he=>by omega) hE2 hG (λb hb=>(ah b hb).imp id λq=>by omega) aH au ab az aq
  have xd:=Ext.drew J;have r1d:=r1A.drew;have rpd:=rpA.drew;have r10d:=ag.drew;refine Ld_i 0 sw r10d (Ld_i 1 p.proto r10d (Ld_i 2 p.src r10d (Ld_i 3 y r10d ?_)));refine Ld_i 0 p.proto rpd (Ld_i 6 p.dst r1d (Ld_i 2 z rpd ?_));refine lu r1d ⟨?_,?_⟩
  ·refine cmS13 (QE _ _ _ _) ?_;rintro _ _ V ⟨rfl,rfl,fV⟩;have xV:=xd.trans fV;refine ck4 _ _ (r1A.ext xV) (ag.ext xV) ⟨aG V xV,?_⟩;refine gU λg Y Z ax ay f11=> ?_;have O:=xV.trans f11;have zV:=xV.size;refine ck _ _ (r1A.ext O) (rpA.ext O) (ag.ext O) ?_;exact am Y g O (by omega) Z
  ·refine gU λg Y Z ax ay f11=> ?_;have O:=xd.trans f11;have zV:=xd.size;refine ck _ _ (r1A.ext O) (rpA.ext O) (ag.ext O) ?_;refine cmS13 (QE _ _ _ _) ?_;rintro _ _ V ⟨rfl,rfl,fV⟩;have xV:=O.trans fV;refine ck4 _ _ (r1A.ext xV) (ag.ext xV) ?_;exact am V g xV (by omega) (Z.ext fV)
 clear_value J8;refine cmS0 (uG (h.ext x2)) ?_;rintro q w3 ⟨rfl,hw⟩;subst hw;rw[adt,aaf];refine cmS0 (Rk (h.ext x2) sw) ?_;rintro q w3 ⟨rfl,hw⟩;subst hw;by_cases ae:UD c sw;rotate_left
 ·rw[adX ae,afk,abt];exact hJ8t _ (Ext.refl _) λhh=>ae hh.1
 rw[aff ae,adt,aaf];refine lu r1 ?_;refine cmS0 (Yn p (ho.ext x2) (hd.ext x2) h1 h2) ?_;rintro q w3 ⟨rfl,f3⟩;by_cases hc0:p.check=0;rotate_left
 ·rw[adX hc0];exact hJ8t w3 f3 λhh=>hc0 hh.2.1.2.1
 cases hq:(!p.mf && decide (p.off<=0))
 ·rw[Bool.and_false];refine hJ8t w3 f3 λhh=> ?_;obtain⟨_,⟨_,_,g2,g3,_⟩,_⟩:=hh;rw[g2,aff g3] at hq;cases hq
 ·rw[aff hc0];exact hJ8f w3 f3 ae hc0
end Go.Proofs.EN
end
section
namespace Go.Proofs.EN
open Gp Gp.V4 Go.Proofs Go.Proofs.AN Go.Proofs.VN
open Gp.Bind (Bnd Slots live GoodB freeN getS In64)
open Gp.Ses (Ses)
open Gp.Wh (Tm)
variable {w w':θ} {a:EA} {c:Cf} {e:ES}
def hop (now:Nat) (t:Int):Nat:=if (if (1099511627776:Int)<t then 1099511627776 else t)>(now:Int) then (if (1099511627776:Int)<t then 1099511627776 else t).toNat else now
theorem akX (now:Nat) (t:Int):(if (if (1099511627776:Int)<t then 1099511627776 else t)>(now:Int) then (if (1099511627776:Int)<t then 1099511627776 else t) else (now:Int))=(hop now t:Int):=by
 unfold hop;split<;>split<;>omega
theorem agq {now:Nat} (h:now<=2^40) (t:Int):now<=hop now t/\hop now t<=2^40:=by
 unfold hop;split<;>(try split)<;>omega
theorem aeE (h:lS w a c e) {j:Nat} {b:Bnd} (hb:e.S[j]? =some (some b)) {K:Bool->b_}
  (hK:∀r w',Ext w w'->(r=true->b.st=false/\SN.zH e.SS (j:Int)=[])->(r=false->b.st=true\/SN.zH e.SS (j:Int)≠[])->K r w'):
  tJ (some ⟨a.x,0,none⟩) (j:Int) w K:=by
 apply H7;have I:getS e.S (j:Int)=some b:=Gp.Bind.lX.2 ⟨by omega,by trivial⟩;refine gU λq w1 r1 e1 z1 f1=> ?_;have h1:=h.ext f1;refine jS.2 (iO (by rw[gY];exact h1.c2) ?_);refine cmS14 (Dz h1.db _) ?_;rintro a1 a2 a3 a4 a5 a6 a7 a8 r w2 ⟨rfl,hr,f2⟩;rw[I] at hr;obtain⟨rfl,rfl,rfl,rfl,rfl,rfl,rfl,rfl⟩:=hr;refine gU λt w3 r3 e3 z3 f3=> ?_;refine gZ r3 rfl rfl λw4 r4 f4' z4=> ?_;have f4:=f4' _ rfl;have zf1:=f1.size;have zf2:=f2.size;have zf3:=f3.size;have N:=(f2.trans f3).new f4 λy hy e=>by omega
 have x4:=f1.trans N;have O:=r1.ext N;have h4:=h.ext x4;intro J;have hJ:∀s,s=b.st->J s:=by
  intro s hs;simp -zeta only[J]
  cases s
  rotate_left
  ·rw[abt];refine iC O rfl (by simp) λw5 r5 f5' z5=> ?_;have f5:=f5' _ rfl;refine iF r5 rfl ?_;exact hK _ w5 (x4.new f5 λy hy e=>by omega) (λh=>by cases h) λ_=> .inl hs.symm
  rw[aaf];refine jS.2 (iO (by rw[gY];exact h4.c3) ?_);refine cmS4 (acS w4 _ _) ?_;rintro v w5 ⟨f5,g0,g1,rfl,p0,p1,_⟩;have h5:=h4.ext f5;have u:=O.ext f5;have hla:lM none w5=w5.heap.size+1:=rfl;have hz:=f5.size;have lt1:=u.lt;refine Yy (SN.aio c.ns.toNat e.SS e.M a.T g0 g1 (j:Int)) (λi W=>i=0/\Ext w5 W) (λx W=>x= .ret/\SN.zH e.SS (j:Int)≠[]/\Row W q [.bool false]/\Ext w W) (by simp) (λW f _=>⟨rfl,f⟩) ?_ ?_ ?_ ?_ ?_ ?_ ?_ ?_
  ·rintro i W ⟨_,hx⟩;exact⟨p0.ext hx,p1.ext hx,h5.se.ext hx⟩
  ·rintro i W W' ⟨hi,hx⟩ hf;exact⟨hi,(hx.fr hf).new λb hb he=>by omega⟩
  ·rintro x W W' ⟨k1,k2,k3,k4⟩ hf;exact⟨k1,k2,k3.fr hf (by omega),(k4.fr hf).new λb hb he=>by omega⟩
  ·simp_all
  ·rintro i x W Kb hx ⟨_,hI⟩ hlt hn hj;refine⟨trivial,?_⟩;have R:Ext w5 (gQ W (lM none w5)):=(hI.fr (ig.gQ W _)).new λb hb he=>by omega
   refine iC (u.ext R) rfl (by simp) λw6 r6 f6' z6=> ?_;have f6:ig (gQ W (lM none w5)) w6 (·=q):=f6' _ rfl;refine hj .ret w6 (·=q) f6 (λy hy=>by omega) ⟨rfl,?_,r6,((x4.trans f5).trans R).new f6 λy hy e=>by omega⟩;intro h0;rw[h0] at hx;trivial
  ·rintro W ⟨h0,hx⟩ hm;have h0:SN.zH e.SS (j:Int)=[]:=by
    unfold SN.yS at h0;simp_all
   refine iC (u.ext hx) rfl (by simp) λw6 r6 f6' z6=> ?_;have f6:=f6' _ rfl;have fp:=ig.nG w6 w5.heap.size (.deferred none);have hzx:=hx.size;refine⟨?_,iF (r6.fr fp (by omega)) rfl ?_⟩
   ·have:=f6.same w5.heap.size (akE.1 (hm rfl)).1 (by omega);exact this.trans (hm rfl)
   exact hK _ _ ((((x4.trans f5).trans hx).new f6 λy hy e=>by omega).new fp λb hb he=>by omega) (λ_=>⟨hs.symm,h0⟩) λh=>by cases h
  ·rintro W ⟨_,k2,k3,k4⟩ hm;refine⟨hm rfl,?_⟩;have fp:=ig.nG W w5.heap.size (.deferred none);refine iF (k3.fr fp (by omega)) rfl ?_;exact hK _ _ ((k4.fr fp).new λb hb he=>by omega) (λh=>by cases h) λ_=> .inr k2
  ·rintro id W ⟨h,_⟩;cases h
 clear_value J;rw[I,akt,adt,aaf];refine iF r4 rfl ?_;exact hJ _ rfl
theorem ain {S:Gp.Ses.Slots} {j:Int} (h:SN.zH S j=[]) {k:Nat} {s:Ses} (hs:S[k]? =some (some s)):s.bd≠j:=by
 intro e;have:((k:Int),s)∈SN.zH S j:=al1.2 ⟨Gp.Ses.kY.2 ⟨k,hs,by omega⟩,by simpa using e⟩
 simp_all
structure Adv (c:Cf) (e:ES) (D:List Tm) (i:Nat) (e1:ES):Prop where
 inv:Inv c e1
 rest:e1.now=e.now/\e1.l=e.l/\e1.wn=e.wn/\e1.tn=e.tn
 ss:∀(k:Nat) (s:Ses),e1.SS[k]? =some (some s)↔e.SS[k]? =some (some s)/\∀t∈D.take i,t.id≠(k:Int)
 sb:∀(k:Nat) (s:Ses),e1.SS[k]? =some (some s)->∃(j:Nat) (b:Bnd),s.bd=(j:Int)/\e1.S[j]? =some (some b)
 old:∀(j:Nat) (b:Bnd),e1.S[j]? =some (some b)->e.S[j]? =some (some b)
 cnt:(Gp.Ses.live 0 e1.SS).length+i=(Gp.Ses.live 0 e.SS).length
 gone:∀(j:Nat) (b:Bnd),e1.S[j]? =some (some b)->b.st=false->(∃(k:Nat) (s:Ses),e.SS[k]? =some (some s)/\s.bd=(j:Int))->∃(k:Nat) (s:Ses),e1.SS[k]? =some (some s)/\s.bd=(j:Int)
theorem Adv.step {D:List Tm} {i:Nat} {e1:ES} (h:Adv c e D i e1) {t:Tm} (hi:D[i]? =some t) {k:Nat} {s:Ses} (hk:t.id=(k:Int)) (hs:e1.SS[k]? =some (some s)) {j:Nat} {b:Bnd} (hj:s.bd=(j:Int)) (hb:e1.S[j]? =some (some b))
  {S:Slots} {Mi Mo:ByteArray->Option Int} {Q:List Int} {G:List (PN.O3×Unit)} {M:ByteArray->Option Int} {rest:Prop}
  (hS:(S=e1.S/\(b.st=true\/SN.zH (e1.SS.set k none) (j:Int)≠[]))\/(S=e1.S.set j none/\SN.zH (e1.SS.set k none) (j:Int)=[]))
  (hI:Inv c {e1 with S:=S,Mi:=Mi,Mo:=Mo,Q:=Q,G:=G,SS:=e1.SS.set k none,M:=M}):
  Adv c e D (i+1) {e1 with S:=S,Mi:=Mi,Mo:=Mo,Q:=Q,G:=G,SS:=e1.SS.set k none,M:=M}:=by
 have hkl:=(afg.1 hs).1;have J:=(afg.1 hi).1;have N:=(afg.1 hi).2;have gs:∀(k':Nat) (s':Ses),(e1.SS.set k none)[k']? =some (some s')↔k'≠k/\e1.SS[k']? =some (some s'):=by
  grind
 refine⟨hI,h.rest,λk' s'=> ?_,λk' s' h'=> ?_,λj' b' h'=> ?_,?_,λj' b' h' u hx=> ?_⟩
 ·show (e1.SS.set k none)[k']? =_↔_;rw[gs,h.ss,akx J,N]
  grind
 ·have h2:=h';obtain⟨n1,n2⟩:=(gs k' s').1 h2;obtain⟨j',b',q1,q2⟩:=h.sb k' s' n2;refine⟨j',b',q1,?_⟩;show S[j']? =_;rcases hS with ⟨rfl,_⟩|⟨rfl,h0⟩
  ·exact q2
  ·rw[akQ,acZ]
   ·exact q2
   ·intro e;exact ain h0 h2 (by omega)
 ·have h2:=h';rcases hS with ⟨rfl,_⟩|⟨rfl,_⟩
  ·exact h.old _ _ h2
  ·rw[akQ] at h2;split at h2
   ·split at h2<;>cases h2
   ·exact h.old _ _ h2
 ·have:=Gp.Ses.kT 0 hs;have h3:=h.cnt
  grind
 ·have h':S[j']? =some (some b'):=h';have other:j'≠j->e1.S[j']? =some (some b')->∃(k':Nat) (s':Ses),(e1.SS.set k none)[k']? =some (some s')/\s'.bd=(j':Int):=by
   intro hne hb';obtain⟨k2,s2,g1,g2⟩:=h.gone j' b' hb' u hx;refine⟨k2,s2,(gs k2 s2).2 ⟨?_,g1⟩,g2⟩;rintro rfl;rw[hs] at g1;have:=akR (akR g1);subst this;omega
  rcases hS with ⟨rfl,h0⟩|⟨rfl,_⟩
  ·by_cases I:j'=j
   ·subst I;rw[hb] at h';have:=akR (akR h');subst this;rcases h0 with h0|h0
    ·rw[h0] at u;cases u
    ·obtain⟨x,hx⟩:=List.exists_mem_of_ne_nil _ h0;obtain⟨m,_,q2,q3⟩:=UU hx;exact⟨m,x.2,q2,q3⟩
   ·exact other I h'
  ·rw[akQ] at h';split at h'
   ·split at h'<;>cases h'
   ·exact other (λe=>by omega) h'
theorem Inv.ss (h:Inv c e) (SS:Gp.Ses.Slots) (M:ByteArray->Option Int):Inv c {e with SS:=SS,M:=M}:=⟨h.ql,h.cn,h.gv,h.mp⟩
end Go.Proofs.EN
end
section
namespace Go.Proofs.EN
open Gp Gp.V4 Go.Proofs Go.Proofs.AN Go.Proofs.VN
open Gp.Bind (Bnd Slots live GoodB freeN getS In64)
open Gp.Ses (Ses)
open Gp.Wh (Tm)
variable {w w':θ} {a:EA} {c:Cf} {e:ES}
structure JV (e e':ES) (T:Nat):Prop where
 now:e'.now=T
 tn:e'.tn=e.tn
 SS:∀(k:Nat) (s:Ses),e'.SS[k]? =some (some s)↔e.SS[k]? =some (some s)/\(T:Int)<s.un
 S:∀(j:Nat) (b:Bnd),e'.S[j]? =some (some b)->e.S[j]? =some (some b)
 gone:∀(j:Nat) (b:Bnd),e'.S[j]? =some (some b)->b.st=false->(∃(k:Nat) (s:Ses),e.SS[k]? =some (some s)/\s.bd=(j:Int))->∃(k:Nat) (s:Ses),e'.SS[k]? =some (some s)/\s.bd=(j:Int)
theorem aaP {l:WN.PL} {T:Nat}:∀{D:List Tm},D.Pairwise WN.ltT->(∀t,t∈D->mg l t.id=some t/\t.a<=T)->(D.map Tm.id).Nodup
 |[],_,_=>List.nodup_nil
 |t::D,hp,hm=>by
  rw[anc] at hp;rw[akh,amm];refine⟨λhx=> ?_,aaP hp.2 λu hu=>hm u (alU _ hu)⟩;obtain⟨u,hu,he⟩:=alp.1 hx;have h1:=(hm u (alU _ hu)).1;have h2:=(hm t (amk)).1;rw[he,h2] at h1;have h1:t=u:=by simpa using h1
  subst h1;have:=hp.1 t hu;unfold WN.ltT at this;omega
theorem ahu (hg:Gd c e) (N:∀id t,mg e.l id=some t->t.id=id) {D:List Tm} {T:Nat} (hT:T<=2^40) (hD:∀t,t∈D↔mg e.l t.id=some t/\t.a<=T) {l':WN.PL} (hl':∀id t,mg l' id=some t↔mg e.l id=some t/\T<t.a) (hlen:l'.length+D.length=e.l.length) {F} {e1:ES}
  (h:Adv c {e with now:=T,l:=l',wn:=T,F:=F} D D.length e1):Gd c e1/\JV e e1 T:=by
 obtain⟨n1,n2,n3,n4⟩:=h.rest;have n2:e1.l=l':=n2;have J:∀(k:Nat) (s:Ses),e1.SS[k]? =some (some s)↔e.SS[k]? =some (some s)/\(T:Int)<s.un:=by
  intro k s;rw[h.ss,alo];show e.SS[k]? =_/\_↔_;refine and_congr_right λhs=> ?_;obtain⟨t,ht⟩:=hg.st k s hs;obtain⟨k2,s2,q1,q2,q3⟩:=hg.ts _ t ht;have:k2=k:=by omega
  subst this;rw[hs] at q2;have:s=s2:=by simpa using q2
  subst this;have I:=N _ _ ht;constructor
  ·intro hn;have:¬t.a<=T:=λO=>hn t ((hD t).2 ⟨by rw[I];exact ht,O⟩) I;omega
  ·intro hlt u hu R;obtain⟨g1,g2⟩:=(hD u).1 hu;rw[R,ht] at g1;have:t=u:=by simpa using g1
   subst this;omega
 refine⟨⟨h.inv,h.sb,λid t ht=> ?_,λk s hs=> ?_,?_,n3.trans n1.symm,by rw[n1];exact hT⟩,⟨n1,n4,J,λj b hb=>h.old j b hb,h.gone⟩⟩
 ·rw[n2] at ht;obtain⟨q1,q2⟩:=(hl' id t).1 ht;obtain⟨k,s,g1,g2,g3⟩:=hg.ts id t q1;exact⟨k,s,g1,(J k s).2 ⟨g2,by omega⟩,g3⟩
 ·obtain⟨q1,q2⟩:=(J k s).1 hs;obtain⟨t,ht⟩:=hg.st k s q1;obtain⟨k2,s2,g1,g2,g3⟩:=hg.ts _ t ht;have:k2=k:=by omega
  subst this;rw[q1] at g2;have:s=s2:=by simpa using g2
  subst this;exact⟨t,by rw[n2];exact(hl' _ t).2 ⟨ht,by omega⟩⟩
 ·have h1:=h.cnt;have h2:=hg.lc;have h1:(Gp.Ses.live 0 e1.SS).length+D.length=(Gp.Ses.live 0 e.SS).length:=h1;rw[n2];omega
theorem TP (h:lS w a c e) (hg:Gd c e) (t:Int) {K:Int->b_}
  (hK:∀r w' a' e',ig w w' (iW a)->lS w' a' c e'->Gd c e'->Grow a a' w.heap.size->a'.x=a.x->JV e e' (hop e.now t)->K r w'):
  mJ (some ⟨a.x,0,none⟩) t w K:=by
 apply GH;refine cmS0 (uG h) ?_;rintro r w1 ⟨rfl,hw⟩;subst hw;rw[adt,aaf];refine jS.2 (iO (k:= .int .i64) (y:=(e.now:Int)) (by rw[gY];exact h.c41) (jS.2 ?_));rw[akX];refine iC (i:=41) h.hd rfl (by simp[h.cf.len]) λw2 r2 f2' z2=> ?_;have f2:ig w1 w2 (·=a.x):=f2' _ rfl;have hd2:(([.pointer (some ⟨a.p,0,none⟩),.pointer (some ⟨a.qb,0,none⟩),.pointer (some ⟨a.B.d,0,none⟩),.pointer (some ⟨a.T.d,0,none⟩),.pointer (some ⟨a.d,0,none⟩)]:List Value)++c.C++([Β (e.now:Int)]:List Value)).set 41 (Β (hop e.now t:Int))=([.pointer (some ⟨a.p,0,none⟩),.pointer (some ⟨a.qb,0,none⟩),.pointer (some ⟨a.B.d,0,none⟩),.pointer (some ⟨a.T.d,0,none⟩),.pointer (some ⟨a.d,0,none⟩)]:List Value)++c.C++([Β (hop e.now t:Int)]:List Value):=by
  rw[ami _ _ (by simp[h.cf.len]),ahP,h.cf.len];rfl
 rw[hd2] at r2;have h2:=(h.alL f2 r2).ext (Ext.drew w2);refine jS.2 (iO (k:= .ptr) (y:=some ⟨a.d,0,none⟩) (by rw[gY];exact h2.c4) (jS.2 (iO (k:= .int .i64) (y:=(hop e.now t:Int)) (by rw[gY];exact h2.c41) ?_)));obtain⟨hp0,hp1⟩:=agq hg.le t;have hT:hop e.now t=max e.wn (min (hop e.now t:Int) 1099511627776).toNat:=by rw[hg.wn];omega
 refine cmS2 (WN.abj h2.wh (hop e.now t:Int) hT) ?_;generalize hop e.now t=T at *;rintro r w3 ⟨f3,D,ak,hD,hr,am,ss,l',F,ws,hl',hlen,ae,an⟩;have hD:∀t,t∈D↔mg e.l t.id=some t/\t.a<=T:=hD;have hl':∀id t,mg l' id=some t↔mg e.l id=some t/\T<t.a:=hl';have hlen:l'.length+D.length=e.l.length:=hlen;have hw2:w2.drew.heap.size=w1.heap.size:=z2;have h3:=h2.setW f3 ws λx hx=>ae x hx;have ao:=aaP ak λt ht=>(hD t).1 ht;have U:Grow a {a with ss:=ss} w1.heap.size:=VE λx hx=>by rw[<- hw2];exact ae x hx
 have aq:=hr.len;rw[aiz] at aq;have f13:ig w1 w3 (iW a):=((f2.mono λy hy=>⟨0,hy⟩).ext (Ext.drew _)).trans f3 λy _ hy=>⟨5,hy⟩;have Y:∀b,gG.at r b->¬iW {a with ss:=ss} b:=by
  rintro b hb ⟨k,hk⟩;have hge:=am b hb;have J:=h.lt
  match k,hk with
  |0,hk=>have:=J 0 b hk;omega
  |1,hk=>have:=J 1 b hk;omega
  |2,hk=>have:=J 2 b hk;omega
  |3,hk=>have:=J 3 b hk;omega
  |4,hk=>have:=J 4 b hk;omega
  |5,hk=>exact an b hb hk
 refine g_ (λst W=>∃(i:Nat) (a1:EA) (e1:ES),st.2.1=(i:Int)/\i<=D.length/\Adv c {e with now:=T,l:=l',wn:=T,F:=F} D i e1/\lS W a1 c e1/\(∀b,iW a1 b->iW {a with ss:=ss} b)/\a1.x=a.x/\jc 1 WN.eI W r (D.map Tm.id)/\ig w1 W (iW a)/\w3.heap.size<=W.heap.size)
  (λst _=>D.length - st.2.1.toNat) ⟨0,{a with ss:=ss},_,rfl,Nat.zero_le _,⟨?_,⟨rfl,rfl,rfl,rfl⟩,λk s=>by simp,λk s hs=>hg.sb k s hs,λj b hb=>hb,rfl,λ_ _ _ _ h=>h⟩,h3,λb hb=>hb,rfl,hr,f13,ajq _⟩ ?_
 ·exact⟨hg.inv.ql,hg.inv.cn,hg.inv.gv,hg.inv.mp⟩
 rintro⟨gone,iz,⟨⟩⟩ W ⟨i,a1,e1,af,hi,hA,hE,N,ab,ag,ah,hzW⟩ next Z
 dsimp only at af;subst af;dsimp -zeta only;by_cases J:i<D.length;rotate_left
 ·rw[show decide ((i:Int)<(r.len:Int))=false by rw[adX];omega,aaf];have:i=D.length:=by omega
  subst this;obtain⟨q1,q2⟩:=ahu hg (λid t ht=>(h.wh.wi.pl id t ht).1) hp1 hD hl' hlen hA;exact hK _ W a1 e1 ah hE q1 (λb hb=>U b (N b hb)) ab q2
 have ar:decide ((i:Int)<(r.len:Int))=true:=by rw[aff];omega
 simp -zeta only[ar,abt];obtain⟨tm,aa⟩:∃tm,D[i]? =some tm:=⟨_,adP J⟩;intro ac;have au:tm∈D:=als aa;obtain⟨av,hle⟩:=(hD tm).1 au;obtain⟨k,s,hk,aw,_⟩:=hg.ts _ _ av;have O:e1.SS[k]? =some (some s):=by
  rw[hA.ss];refine⟨aw,λu hu hue=> ?_⟩;have:(D.take (i+1)).map Tm.id=(D.take i).map Tm.id++[tm.id]:=by
   rw[akx J,al4,(afg.1 aa).2];rfl
  have hn:((D.take (i+1)).map Tm.id).Nodup:=ao.sublist ((List.take_sublist _ _).map _);rw[this,amy] at hn;exact hn.2.2 u.id (alp.2 ⟨u,hu,rfl⟩) tm.id (alk.2 rfl) (by omega)
 obtain⟨j,b,hj,hb⟩:=hA.sb k s O;have ai:Gp.Ses.getS e1.SS (k:Int)=some s:=Gp.Ses.lX.2 ⟨by omega,by rw[abu];exact O⟩;have hJ:∀(g:Int) (W':θ) (a2:EA) (e2:ES),Adv c {e with now:=T,l:=l',wn:=T,F:=F} D (i+1) e2->lS W' a2 c e2->(∀b,iW a2 b->iW a1 b)->a2.x=a1.x->ig W W' (iW a1)->ac g W':=by
  intro g W' a2 e2 q1 q2 q3 q4 q5;simp -zeta only[ac];have hi2:ο.wrap ((i:Int)+1)=((i+1:Nat):Int):=by
   rw[Α (by omega) (by have:=h.wh.mo;omega)];rfl
  rw[hi2];refine Z _ _ ⟨i+1,a2,e2,rfl,J,q1,q2,λb hb=>N b (q3 b hb),q4.trans ab,ag.fr q5 λb hb ho=>Y b hb (N b ho),ah.trans q5 λb hb ho=> ?_,by have:=q5.size;omega⟩ (by simp only;omega);rcases U b (N b ho) with hh|hh
  ·exact hh
  ·omega
 clear_value ac;have aj:∀x:Int,(WN.eI x).length=1:=λ_=>rfl;obtain⟨ra,ax,ay⟩:=(jc.sl aj (by omega) ag).at_ aj (by omega) (i:=i) (x:=tm.id) (by rw[aiK,aa];rfl);refine⟨ra,ax,by omega,by omega,?_⟩;refine iO (k:= .int .i64) (y:=(k:Int)) (by rw[abu];exact ay 0 _ (by rw[hk];rfl)) ?_;rw[<- ab];refine jS.2 (iO (k:= .ptr) (y:=some ⟨a1.T.d,0,none⟩) (by rw[gY];exact hE.c3) ?_);refine cmS15 (SN.Υ hE.se _) ?_;rintro b1 b2 b3 b4 b5 _ w4 ⟨rfl,hR,f4⟩;rw[ai] at hR;obtain⟨rfl,rfl,rfl,rfl,rfl⟩:=hR;refine gU λq w5 r5 e5 z5 f5=> ?_;refine StN_f r5 λw6 r6 f6 z6=> ?_;have zf4:=f4.size;have x6:Ext W w6:=(f4.trans f5).nw f6;have hE6:=hE.ext x6;refine jS.2 (iO (k:= .ptr) (y:=some ⟨a1.T.d,0,none⟩) (by rw[gY];exact hE6.c3) ?_);refine cmS0 (SN.Wn hE6.se _) ?_;rintro _ w7 ⟨rfl,f7,A',S',M',hT',hd',R,hS'⟩;rw[ai,akt,adZ rfl,abu] at hS';subst hS';have hE7:=hE6.aiI f7 hT' hd' (λx hx=> .inl (R x hx)) (λx hx=>alA (hE6.lt 4 x (R x hx)) f7.size);have f17:ig W w7 (iW a1):=(x6 _).trans f7 λy _ hy=>⟨4,hy⟩;have az:¬SN.fp a1.T q:=λhq=>by have:=hE.lt 4 q hq;omega
 have r7:=r6.fr f7 az;have I:∀x,iW {a1 with T:=A'} x->iW a1 x:=by
  rintro x ⟨n,hn⟩
  match n,hn with
  |0,hn=>exact⟨0,hn⟩
  |1,hn=>exact⟨1,hn⟩
  |2,hn=>exact⟨2,hn⟩
  |3,hn=>exact⟨3,hn⟩
  |4,hn=>exact⟨4,R x hn⟩
  |5,hn=>exact⟨5,hn⟩
 refine iF (k:= .int .i64) (i:=0) (x:=(j:Int)) r7 (by rw[<- hj];rfl) ?_;have hb7:({e1 with SS:=e1.SS.set k none,M:=M'}:ES).S[j]? =some (some b):=hb;refine aeE (a:={a1 with T:=A'}) hE7 hb7 λlo w8 f8 aA aB=> ?_;have hE8:=hE7.ext f8;have r8:=r7.ext f8
 cases lo
 ·rw[aaf];exact hJ _ w8 _ _ (hA.step (rest:=True) aa hk O hj hb (.inl ⟨rfl,aB rfl⟩) (hA.inv.ss _ _)) hE8 I rfl (f17.ext f8)
 ·rw[abt];refine iF (k:= .int .i64) (i:=0) (x:=(j:Int)) r8 (by rw[<- hj];rfl) ?_;obtain⟨_,h0⟩:=aA rfl;refine VP (a:={a1 with T:=A'}) hE8 (hA.inv.ss _ _) (λx hx=>absurd (h0 ▸ hx) (by simp)) hb7 λw9 a2 Mi Mo Q G SS M l F f9 hE9 hI9 _ _ hx9 hn=> ?_;obtain⟨rfl,rfl,rfl,rfl,rfl⟩:=hn h0;exact hJ _ w9 _ _ (hA.step (rest:=True) aa hk O hj hb (.inr ⟨rfl,h0⟩) hI9) hE9 I rfl ((f17.ext f8).trans f9 λy _ hy=>I y hy)
end Go.Proofs.EN
end
section
namespace Gp.V4
theorem Yb (t:Nat):fold (t+(65535 - fold t))=65535:=by
 unfold fold
 grind
theorem ajb {n:Int} (h:jm n 2):0<=n/\n<65536:=⟨h.2.1,by have:=h.2.2;trivial⟩
theorem ahh (p:kZ) {s:Nat} (hs:s<65536):tot (p.head s)=tot (p.head 0)+s:=by
 rw[head_eq,head_eq];simp only[tot,am4];omega
theorem ae0 (p:kZ):fold (tot (p.head p.sum))=65535:=by
 rw[ahh p (by unfold kZ.sum;omega)];exact Yb _
theorem afG {p:kZ} (h:p.fine):((p.bits % 8192 * 8:Nat):Int)=p.off/\(p.bits / 16384 % 2==1)=p.df/\(p.bits / 8192 % 2==1)=p.mf:=by
 obtain⟨_,_,⟨h1,h2,h3,_⟩,_⟩:=h;rw[al0 h1] at h3;unfold kZ.bits
 grind
theorem acK {p:kZ} (h:p.check=0) (more:List UInt8):rO (p.bytes++more) false=0/\field (p.bytes++more)=p/\hlen (p.bytes++more)=20+p.opts.length:=by
 obtain⟨hf,hs⟩:=pG h;have hb:=ac3 hf;have hbo:=afG hf;obtain⟨⟨f1,f2,f3,f4⟩,⟨r1,r2⟩,⟨o1,o2,o3,o4⟩,p1,p2⟩:=id hf;have f1:=QW f1;have f2:=QW f2;have f3:=QW f3;have f4:=ajb f4;obtain⟨r11,r12⟩:=r1;obtain⟨r21,r22⟩:=r2;obtain⟨s1,s2⟩:=hs;have hsum:p.sum<65536:=by unfold kZ.sum;omega
 have e:p.bytes++more=p.head p.sum++(p.data++more):=by simp[kZ.bytes]
 rw[e];have hl:=I9 p p.sum;have hh:hlen (p.head p.sum++(p.data++more))=20+p.opts.length:=by
  rw[head_eq];simp only[hlen,alY,afe,alO,am4];omega
 have hv:ver (p.head p.sum++(p.data++more))=4:=by
  rw[head_eq];simp only[ver,alY,afe,alO,am4];omega
 have n2:num (p.head p.sum++(p.data++more)) 2 2=20+p.opts.length+p.data.length:=by
  rw[head_eq];simp[num,oK];omega
 have n6:num (p.head p.sum++(p.data++more)) 6 2=p.bits:=by
  rw[head_eq];simp[num,oK];omega
 have u:field (p.head p.sum++(p.data++more))=p:=by
  unfold field;rw[hh,n2,n6];have a1:((num (p.head p.sum++(p.data++more)) 1 1:Nat):Int)=p.tos:=by
   rw[head_eq];simp[num,oK];omega
  have a2:((num (p.head p.sum++(p.data++more)) 4 2:Nat):Int)=p.id:=by
   rw[head_eq];simp[num,oK];omega
  have a3:((num (p.head p.sum++(p.data++more)) 8 1:Nat):Int)=p.ttl:=by
   rw[head_eq];simp[num,oK];omega
  have a4:((num (p.head p.sum++(p.data++more)) 9 1:Nat):Int)=p.proto:=by
   rw[head_eq];simp[num,oK];omega
  have a5:((num (p.head p.sum++(p.data++more)) 12 4:Nat):Int)=p.src:=by
   rw[head_eq];simp[num,oK];omega
  have a6:((num (p.head p.sum++(p.data++more)) 16 4:Nat):Int)=p.dst:=by
   rw[head_eq];simp[num,oK];omega
  have a7:((p.head p.sum++(p.data++more)).take (20+p.opts.length)).drop 20=p.opts:=by
   rw[<- hl,List.take_left',head_eq]<;>simp
  have a8:((p.head p.sum++(p.data++more)).take (20+p.opts.length+p.data.length)).drop (20+p.opts.length)=p.data:=by
   rw[<- hl,List.take_append,List.drop_append];simp
  simp_all
 refine⟨?_,u,hh⟩;unfold rO;have ho:nO (p.head p.sum++(p.data++more)) false=0:=by
  unfold nO
  grind
 have ht:(p.head p.sum++(p.data++more)).take (20+p.opts.length)=p.head p.sum:=by simp_all
 rw[ho,hh,u,ht,ae0,h];simp
end Gp.V4
end
section
namespace Go.Proofs.RN
open Gp Gp.V4 Go.Proofs.VN
theorem ag5 {m:Nat} (hm:m<2^62) (w:θ):Gf (m:Int) w λr w'=>r=(fold m:Int)/\w'=w:=by
 apply Xw;have h0:¬((m:Int)<0):=by omega
 simp only[h0,acR,aaf];refine g_ (λst W=>W=w/\∃x:Nat,x<2^62/\st.1=(x:Int)/\fold x=fold m) (λst _=>st.1.toNat) ⟨rfl,m,hm,rfl,rfl⟩ ?_;rintro⟨x,⟨⟩⟩ W ⟨rfl,n,hn,rfl,hf⟩ next u
 by_cases I:65535<n
 ·have h:((n:Int)>65535):=by omega
  simp only[h,acI,abt];refine⟨by omega,by omega,?_⟩;rw[al0 (by omega),amK (by omega),Α (n:=(n:Int) / 65536) (by omega) (by omega),Α];exact u _ _ ⟨rfl,n % 65536+n / 65536,by omega,by rfl,by rw[Yc I,hf]⟩ (by omega)
 ·have h:¬((n:Int)>65535):=by omega
  simp only[h,acR,aaf];exact⟨by rw[<- hf,Ux (by omega)],by trivial⟩
theorem ai4 {w:θ} {s:gG} {l:List UInt8} (h:iH w s l) (hl:l.length<=2^46) {j:Nat} (hj:j<l.length):F9 s (j:Int) w λr w'=>r=(wordAt l j:Int)/\Ext w w':=by
 apply Xv;have hsl:=h.1;rw[Α];obtain⟨a,ha,hc⟩:=h.at_ (adP hj);have hb:=l[j].toNat_lt;by_cases h2:j+1<l.length
 ·have h2':((j:Int)+1<(s.len:Int)):=by omega
  simp only[h2',acI,abt];obtain⟨a',ha',hc'⟩:=h.at_ (adP h2);have hb':=l[j+1].toNat_lt;refine⟨a,ha,by omega,by omega,?_⟩;rw[abu];simp only[sx,aiC];rw[show w.drew.cell? (a.add j)=w.cell? (a.add j) from rfl,hc];simp only[gJ,gK];refine⟨a',ha',by omega,by omega,?_⟩;rw[show ((j:Int)+1).toNat=j+1 by omega];simp only[aiC];rw[show w.drew.cell? (a'.add (j+1))=w.cell? (a'.add (j+1)) from rfl,hc'];simp only[gJ,gK];refine⟨?_,Ext.drew w⟩;unfold wordAt;rw[adP hj,adP h2];simp only[alO];rw[Α (n:=(l[j].toNat:Int)) (by omega) (by omega),Α (n:=(l[j+1].toNat:Int)) (by omega) (by omega),Α (n:=(l[j].toNat:Int) * 256) (by omega) (by omega),Α];omega
 ·have h2':¬((j:Int)+1<(s.len:Int)):=by omega
  simp only[h2',acR,aaf];refine⟨a,ha,by omega,by omega,?_⟩;rw[abu];simp only[sx,aiC,hc];refine⟨?_,Ext.refl w⟩;unfold wordAt;rw[adP hj,amT (by omega)];rw[Α (n:=(l[j].toNat:Int)) (by omega) (by omega),Α];simp
theorem adC {w:θ} {s:gG} {ps:List (gG×List UInt8)} (hs:Parts w s ps) (hn:ps.length<=64) (hl:∀p∈ps,p.2.length<=2^40):
  Du s w λr w'=>r=(fold (sZ ps):Int)/\Ext w w':=by
 apply ZO;have hsl:=hs.1;refine g_ (λst W=>∃i:Nat,i<=ps.length/\st.2.1=i/\st.1=(sZ (ps.take i):Int)/\Ext w W) (λst _=>ps.length - st.2.1.toNat) ⟨0,by omega,rfl,by simp[sZ],Ext.refl _⟩ ?_;rintro⟨n,x,⟨⟩⟩ W ⟨i,hi,rfl,rfl,hx⟩ next J
 by_cases hlt:i<ps.length
 ·have u:((i:Int)<(s.len:Int)):=by omega
  simp only[u,acI,abt];generalize hp:ps[i]=p;have O:ps[i]? =some p:=by simp_all
  have hpl:=hl p (als O);have h0:=adJ hn hl i;have h0':=hs.fr hx;refine g_ (λst W'=>∃j:Nat,j<=(p.2.length+1) / 2/\st.2.1=((2 * j:Nat):Int)/\st.1=((sZ (ps.take i)+tot (p.2.take (2 * j)):Nat):Int)/\Ext w W') (λst _=>p.2.length+1 - st.2.1.toNat) ⟨0,by omega,rfl,by simp[tot],hx⟩ ?_;rintro⟨n,x,⟨⟩⟩ W' ⟨j,hj,rfl,rfl,hx'⟩ next' I
  obtain⟨b,o,ha,hc,hb⟩:=(hs.fr hx').2 i p O;refine⟨_,ha,by omega,by omega,?_⟩;have hpl2:=hb.1;simp only[sx,abu,aiC,hc];by_cases N:2 * j<p.2.length
  ·have h:(((2 * j:Nat):Int)<(p.1.len:Int)):=by omega
   simp only[h,acI,abt];refine⟨_,ha,by omega,by omega,?_⟩;simp only[sx,abu,aiC,hc];refine cmS1 (ai4 hb (by omega) N) ?_;rintro _ w2 ⟨rfl,f2⟩;have:=Fv p.2 (2 * j);have h3:=Wj (p.2.take (2 * j));have h4:65535 * (p.2.take (2 * j)).length<=65535 * 2^40:=Nat.mul_le_mul_left _ (by simp;omega);rw[Α,Α];refine I _ _ ⟨j+1,by omega,by rfl,?_,hx'.trans f2⟩ (by grind);rw[abe _ N];omega
  ·have h:¬(((2 * j:Nat):Int)<(p.1.len:Int)):=by omega
   simp only[h,acR,aaf];rw[Α,ali (l:=p.2) (by omega)];exact J _ _ ⟨i+1,by omega,by simp,by rw[YB O],hx'⟩ (by grind)
 ·have u:¬((i:Int)<(s.len:Int)):=by omega
  simp only[u,acR,aaf];have:i=ps.length:=by omega
  subst this;rw[alo];refine cmS1 (ag5 (abb hn hl) W) ?_
  grind
theorem ag6 {w:θ} {s:gG} {ps:List (gG×List UInt8)} (hs:Parts w s ps) (hn:ps.length<=64) (hl:∀p∈ps,p.2.length<=2^40):
  Gg s w λr w'=>r=((65535 - fold (sZ ps):Nat):Int)/\Ext w w':=by
 apply aaF;refine cmS1 (adC hs hn hl) ?_;rintro _ w1 ⟨rfl,f1⟩;have:=OB (sZ ps);exact⟨by rw[Α];omega,f1⟩
theorem aeY {w:θ} {s:gG} {ps:List (gG×List UInt8)} (hs:Parts w s ps) (hn:ps.length<=64) (hl:∀p∈ps,p.2.length<=2^40):
  Ed s w λr w'=>r=decide (fold (sZ ps)=65535)/\Ext w w':=by
 apply Vl;refine cmS1 (adC hs hn hl) ?_
 grind
theorem Rf (n:Int) (w:θ):yY n w λr w'=>r=decide (kL n)/\w'=w:=by
 apply Vm;by_cases h1:n>=0
 ·have h1':=h1;simp[h1',kL]
 ·have h1':=h1;simp[h1',kL]
theorem agX (k:Nat) (hk:k<=7) (w:θ):Dt (k:Int) w λr w'=>r=((256^k:Nat):Int)/\w'=w:=by
 apply ZN;refine g_ (λst W=>W=w/\∃i:Nat,i<=k/\st.2.1=i/\st.1=((256^i:Nat):Int)) (λst _=>k - st.2.1.toNat) ⟨rfl,0,by omega,rfl,rfl⟩ ?_;rintro⟨n,j,⟨⟩⟩ W ⟨rfl,i,hi,rfl,rfl⟩ next u
 by_cases hlt:i<k
 ·have h:((i:Int)<(k:Int)):=by omega
  simp only[h,acI,abt];have hp:(256:Nat)^(i+1)<=256^7:=amB (by omega) (by omega);have e:(256:Nat)^7=72057594037927936:=by decide
  have e2:((256^i:Nat):Int) * 256=((256^(i+1):Nat):Int):=by rfl
  rw[e2];have I:=u (((256^(i+1):Nat):Int),((i+1:Nat):Int),()) W ⟨rfl,i+1,by omega,rfl,rfl⟩ (by grind);generalize 256^(i+1)=q at hp I ⊢;rw[Α,Α];exact I
 ·have h:¬((i:Int)<(k:Int)):=by omega
  simp only[h,acR,aaf]
  grind
theorem CO (n k:Int) (w:θ):nS n k w λr w'=>r=decide (jm n k)/\w'=w:=by
 apply Xu;by_cases h1:k>=1
 ·by_cases h2:k<=4
  ·by_cases h3:n>=0
   ·simp only[h1,h2,h3,acI,abt];obtain⟨m,rfl⟩:∃m:Nat,k=(m:Int):=⟨k.toNat,by omega⟩;refine cmS1 (agX m (by omega) w) ?_;rintro r w' ⟨rfl,rfl⟩;have hs:lN (m:Int):=⟨h1,h2⟩;refine⟨?_,by trivial⟩;have h3':=h3;simp[jm,hs,h3']
   ·have:¬jm n k:=λh=>h3 h.2.1;simp[h1,h2,h3,this]
  ·have:¬jm n k:=λh=>h2 h.1.2;simp[h1,h2,this]
 ·have:¬jm n k:=λh=>h1 h.1.1;simp[h1,this]
theorem aiE {w:θ} {s:gG} {l:List UInt8} (h:iH w s l) (hl:l.length<=2^62) (at_ k:Int):Iy s at_ k w λn e w'=>w'=w/\Nh l at_ k n e:=by
 apply ZL;unfold Nh;have hlen:=h.1;by_cases h1:k<1
 ·have c:¬lN k\/at_<0:= .inl λx=>by have:=x.1;omega
  simp only[h1,acI,abt]
  simp_all
 by_cases h2:k>4
 ·have c:¬lN k\/at_<0:= .inl λx=>by have:=x.2;omega
  simp only[h1,h2,acI,acR,abt,aaf]
  simp_all
 by_cases h3:at_<0
 ·have c:¬lN k\/at_<0:= .inr h3;simp only[h1,h2,acR,abt,aaf];rw[show decide (at_<0)=true by simp[h3]];simp only[abt]
  simp_all
 have hk:lN k:=⟨by omega,by omega⟩;have c:¬(¬lN k\/at_<0):=by rintro(h|h)<;>contradiction
 simp only[acZ c];rw[show decide (k<1)=false by simp[h1],show decide (k>4)=false by simp[h2],show decide (at_<0)=false by simp[h3]];simp only[aaf];rw[Α];by_cases h4:at_>(s.len:Int) - k
 ·rw[show decide (at_>(s.len:Int) - k)=true by simp[h4]];simp only[abt]
  grind
 rw[show decide (at_>(s.len:Int) - k)=false by simp[h4]];simp only[aaf];obtain⟨m,rfl⟩:∃m:Nat,k=(m:Int):=⟨k.toNat,by omega⟩;obtain⟨o,rfl⟩:∃o:Nat,at_=(o:Int):=⟨at_.toNat,by omega⟩;simp only[abu];refine g_ (λst W=>W=w/\∃i:Nat,i<=m/\st.2.1=i/\st.1=(oK ((l.drop o).take i):Int)) (λst _=>m - st.2.1.toNat) ⟨rfl,0,by omega,rfl,rfl⟩ ?_;rintro⟨n,j,⟨⟩⟩ W ⟨rfl,i,hi,rfl,rfl⟩ next I
 by_cases hlt:i<m
 ·have u:((i:Int)<(m:Int)):=by omega
  simp only[u,acI,abt];rw[Α];have J:o+i<l.length:=by omega
  obtain⟨a,ha,hc⟩:=h.at_ (adP J);refine⟨a,ha,by omega,by omega,?_⟩;have eo:((o:Int)+(i:Int)).toNat * 1=o+i:=by omega
  rw[eo];simp only[sx,hc];have hb:=l[o+i].toNat_lt;have N:i<(l.drop o).length:=by simp;omega
  have hn2:oK ((l.drop o).take i)<2^32:=UQ (by simp;omega);rw[Α (n:=(oK ((l.drop o).take i):Int) * 256) (by omega) (by omega),Α (n:=((l[o+i].toNat:Nat):Int)) (by omega) (by omega),Α,Α];refine I _ _ ⟨rfl,i+1,by omega,by simp,?_⟩ (by grind);have e:=UR (l.drop o) N
  simp_all
 ·have u:¬((i:Int)<(m:Int)):=by omega
  simp only[u,acR,aaf];have:i=m:=by omega
  subst this;exact⟨by trivial,by rw[acZ (by omega)];trivial⟩
theorem afE {k n i:Nat} (h:i<k):(kC k n).take (i+1)=(kC k n).take i++[UInt8.ofNat (n / 256^(k - 1 - i))]:=by
 have hl:i<(kC k n).length:=by rw[jf];exact h
 rw[akx hl];have:=YP k n i h
 simp_all
theorem KF {w:θ} {s:gG} {l:List UInt8} (hs:iH w s l) (hl:l.length+4<=2^46) (n k:Int) (hn:n<2^62):
  jy s n k w λr w'=>Buf w' r (bytesV (mP l n k))/\Ext w w'/\(∀b,gG.at r b->w.heap.size<=b):=by
 apply ZM;refine jK (l:=[]) Buf.nil hs (by simp;omega) λr w1 b1 f1 n1 _=> ?_;have x1:=f1.new λb _ ⟨o,h⟩=>by cases h
 have y1:∀b,gG.at r b->w.heap.size<=b:=λb hb=>by
  rcases n1 b hb with ⟨o,h⟩|h
  ·cases h
  ·exact h
 rw[amd] at b1;refine cmS0 (CO n k w1) ?_;rintro _ _ ⟨rfl,rfl⟩;by_cases hf:jm n k
 ·simp only[hf,acI,adt,aaf];obtain⟨hk1,hk2⟩:=hf.1;have hn0:=hf.2.1;obtain⟨m,rfl⟩:∃m:Nat,k=(m:Int):=⟨k.toNat,by omega⟩;obtain⟨z,rfl⟩:∃z:Nat,n=(z:Int):=⟨n.toNat,by omega⟩;refine g_ (λst W=>∃i:Nat,i<=m/\st.2.1=(m:Int) - 1 - i/\Buf W st.1 (bytesV (l++(kC m z).take i))/\Ext w W/\(∀b,gG.at st.1 b->w.heap.size<=b)) (λst _=>(st.2.1+1).toNat)
   ⟨0,by omega,by rw[Α];simp,by simpa using b1,x1,y1⟩ ?_
  rintro⟨t,x,⟨⟩⟩ W ⟨i,hi,hx,h1,h2,h3⟩ next u
  simp only at hx h1 h3;by_cases I:i<m
  ·have hx0:x>=0:=by omega
   simp only[hx0,acI,abt];obtain⟨j,rfl⟩:∃j:Nat,x=(j:Int):=⟨x.toNat,by omega⟩;have hj:j=m - 1 - i:=by omega
   refine cmS1 (agX j (by omega) W) ?_;rintro _ _ ⟨rfl,rfl⟩;have hp:0<256^j:=Nat.pow_pos (by omega);refine⟨by omega,by omega,gU λc w3 r3 e3 z3 f3=> ?_⟩;have e:IntKind.u8.wrap (Int.tmod (ο.wrap (Int.tdiv (z:Int) ((256^j:Nat):Int))) 256)=(((UInt8.ofNat (z / 256^j)).toNat:Nat):Int):=by
    rw[amK (by omega),<- amY];have:z / 256^j<=z:=Nat.div_le_self _ _;generalize z / 256^j=q at this ⊢;rw[Α,al0 (by omega),IntKind.wrap_u8];simp
   rw[e] at r3;have hx3:iH w3 ⟨some ⟨c,0,none⟩,1,1⟩ [UInt8.ofNat (z / 256^j)]:= .iM (iH.row (l:=[UInt8.ofNat (z / 256^j)]) (by simpa [bytesV] using r3));refine jK (h1.ext f3) hx3 (by simp;omega) λs' w4 b4 f4 p4 _=> ?_;rw[Α];refine u _ _ ⟨i+1,by omega,by grind,?_,(h2.trans f3).new f4 λb hb h=>by grind,λb hb=> ?_⟩ (by simp)
   ·rw[afE I,<- hj,<- aky];exact b4
   ·have:=h2.size
    grind
  ·have hx0:¬x>=0:=by omega
   simp only[hx0,acR,aaf];have:i=m:=by omega
   subst this;rw[ali (by rw[jf];omega)] at h1;exact⟨by simpa [mP,hf] using h1,h2,h3⟩
 ·simp only[hf,acR,afk,abt];exact⟨by simpa [mP,hf] using b1,x1,y1⟩
end Go.Proofs.RN
end
