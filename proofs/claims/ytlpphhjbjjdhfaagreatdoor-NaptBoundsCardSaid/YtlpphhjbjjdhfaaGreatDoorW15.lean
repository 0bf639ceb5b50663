import Derived.Test.YtlpphhjbjjdhfaaGreatDoorW14
import Derived.Test.YtlpphhjbjjdhfaaGreatDoorW12
import Derived.Test.YtlpphhjbjjdhfaaGreatDoorW5
import Derived.Test.YtlpphhjbjjdhfaaGreatDoorW3
import Derived.Test.YtlpphhjbjjdhfaaGreatDoorW2
set_option maxRecDepth 100000
set_option maxHeartbeats 4000000
section
namespace Go.Proofs.AN
open Gp Gp.V4 Go.Proofs Go.Proofs.VN
open Gp.Bind (In64)
section
variable {w0 w w':θ}
abbrev DI (a b:Int):List Value:=[Β a,Β b]
theorem aji (v:Value) (a b:Int) (w:θ) (K:Value->b_):LY υ (.iface 303 v) "goosepond/ports.with" (DI a b) [.one .any] w K=fZ υ 352 (v::DI a b) [.one .any] w K:=by kernel_rfl
theorem ajm (v:Value) (a b:Int) (w:θ) (K:Value->b_):LY υ (.iface 309 v) "goosepond/ports.with" (DI a b) [.one .any] w K=fZ υ 359 (v::DI a b) [.one .any] w K:=by kernel_rfl
theorem ajk (v:Value) (a b:Int) (w:θ) (K:Value->b_):LY υ (.iface 311 v) "goosepond/ports.with" (DI a b) [.one .any] w K=fZ υ 367 (v::DI a b) [.one .any] w K:=by kernel_rfl
theorem ajh (v:Value) (a b:Int) (w:θ) (K:fU->Int->b_):LY υ (.iface 303 v) "goosepond/ports.build" (DI a b) [.one .slice,.one ν] w K=fZ υ 350 (v::DI a b) [.one .slice,.one ν] w K:=by kernel_rfl
theorem ajl (v:Value) (a b:Int) (w:θ) (K:fU->Int->b_):LY υ (.iface 309 v) "goosepond/ports.build" (DI a b) [.one .slice,.one ν] w K=fZ υ 357 (v::DI a b) [.one .slice,.one ν] w K:=by kernel_rfl
theorem ajj (v:Value) (a b:Int) (w:θ) (K:fU->Int->b_):LY υ (.iface 311 v) "goosepond/ports.build" (DI a b) [.one .slice,.one ν] w K=fZ υ 365 (v::DI a b) [.one .slice,.one ν] w K:=by kernel_rfl
def GV (t o:Int):Int:=if t= -1 then o else t
inductive aiw (w:θ) (p:lV) (a b:Int) (v:Value):Prop
 |dat (a0 a1:Int) (a2:Bool) (a3:fU) (hv:v= .iface 303 (.agg ⟨[Β a0,Β a1,.bool a2,Δ a3]⟩)) (hb:VL w a3) (hg:ug p->a0=GV a (wordAt p.data 0:Int)/\a1=GV b (wordAt p.data 2:Int)/\a2=false/\iD w a3 (p.data.drop 8))
 |seg (a0 a1 a2 a3 a4 a5 a6 a7:Int) (a8 a9:fU) (h:p.proto=6) (hv:v= .iface 309 (.agg ⟨lM a0 a1 a2 a3 a4 a5 a6 a7 a8 a9⟩)) (hb8:VL w a8) (hb9:VL w a9)
 |que (a0 a1 a2:Int) (a3:fU) (h:p.proto=1) (hv:v= .iface 311 (.agg ⟨[Β a0,Β a1,Β a2,Δ a3]⟩)) (hb:VL w a3)
theorem VL.fr {s:fU} {S:Nat->Prop} (h:VL w s) (hf:gV w w' S) {b:Nat} {vs:List Value} (hr:Row w b vs) (hv:∀v∈vs,∀n,v≠.int .u8 n) (hS:∀y,S y->y=b):VL w' s:=by
 obtain⟨L,h1,h2⟩:=h;exact⟨L,h1.fr hf λad ha h0 e=>jX hr hv h1 ha h0 (hS _ e),h2⟩
theorem adO {p:lV} {v:Value} (hf:Form w p v) (a b:Int) {K:Value->b_} (hK:∀v' w',Ext w w'->aiw w' p a b v'->K v' w'):LY υ v "goosepond/ports.with" (DI a b) [.one .any] w K:=by
 cases hf with
 |dat a0 a1 a2 a3 h hv i0 i1 hb hg=>
  subst hv;rw[aji];apply Gs;refine gy λg w1 r1 e1 z1 f1=> ?_;have x1:=f1.trans (Ext.drew w1);have r1d:=r1.drew;refine gZ r1d rfl (gZ r1d rfl ?_);refine cmS1 (OO a a0 _) ?_;rintro r w2 ⟨rfl,hw⟩;subst hw;refine⟨by rw[gJ,r1d.cell];rfl,?_⟩;refine cmS1 (OO b a1 _) ?_;rintro r w2 ⟨rfl,hw⟩;subst hw;refine gY r1d rfl (by simp) λw3 r3 f3' z3=> ?_;refine gY r3 rfl (by simp) λw4 r4 f4' z4=> ?_;simp only[agO,af7] at r4;have f4:=(f3' (·=g) rfl).trans (f4' (·=g) rfl) λ_ _ h=>h;have x4:=x1.new f4 λy hy e=>by omega
  refine gZ r4 rfl (gZ r4 rfl (gZ r4 rfl (gZ r4 rfl ?_)));refine hK _ w4 x4 (.dat _ _ _ _ rfl (hb.ext x4) λg=> ?_);obtain⟨g0,g1,g2,g3⟩:=hg g;exact⟨by rw[g0];rfl,by rw[g1];rfl,g2,g3.ext x4⟩
 |seg a0 a1 a2 a3 a4 a5 a6 a7 a8 a9 h hv i0 i1 hb8 hb9=>
  subst hv;rw[ajm];apply Hg;refine gy λg w1 r1 e1 z1 f1=> ?_;have x1:=f1.trans (Ext.drew w1);have r1d:=r1.drew;refine gZ r1d rfl (gZ r1d rfl ?_);refine cmS1 (OO a a0 _) ?_;rintro r w2 ⟨rfl,hw⟩;subst hw;refine⟨by rw[gJ,r1d.cell];rfl,?_⟩;refine cmS1 (OO b a1 _) ?_;rintro r w2 ⟨rfl,hw⟩;subst hw;refine gY r1d rfl (by simp) λw3 r3 f3' z3=> ?_;refine gY r3 rfl (by simp) λw4 r4 f4' z4=> ?_;simp only[agO,af7] at r4;have f4:=(f3' (·=g) rfl).trans (f4' (·=g) rfl) λ_ _ h=>h;have x4:=x1.new f4 λy hy e=>by omega
  refine aaq r4 ?_;exact hK _ w4 x4 (.seg _ _ _ _ _ _ _ _ _ _ h rfl (hb8.ext x4) (hb9.ext x4))
 |que a0 a1 a2 a3 h hv hb=>
  subst hv;rw[ajk];apply KZ;refine gy λg w1 r1 e1 z1 f1=> ?_;have x1:=f1.trans (Ext.drew w1);have r1d:=r1.drew;refine X5 (K:=λx0 x1 x2 x3 W=>_) r1d ?_;refine cmS1 (OO a b _) ?_;rintro r w2 ⟨_,hw⟩;subst hw;refine⟨by rw[gJ,r1d.cell];rfl,by rw[gJ,r1d.cell];rfl,by rw[gJ,r1d.cell];rfl,by rw[gJ,r1d.cell];rfl,?_⟩;refine aeB a0 a1 a2 (hb.ext x1) r λy0 y1 y2 y3 w3 f3 hy=> ?_;have u:=r1d.ext f3;refine StN_f u λw4 r4 f4 z4=> ?_;have x4:=(x1.trans f3).nw f4;refine X5 r4 ?_;exact hK _ w4 x4 (.que _ _ _ _ h rfl (hy.fr f4 u (by simp) λy hy=>hy))
theorem abx {p:lV} {a b:Int} {v:Value} (hf:aiw w p a b v) (sa da:Int) {K:fU->Int->b_}
  (hK:∀r e w',Ext w w'->(ug p->mg (GV a (wordAt p.data 0:Int))->mg (GV b (wordAt p.data 2:Int))->p.data.length<=60000->e=0/\iD w' r (aew sa da (GV a (wordAt p.data 0:Int)) (GV b (wordAt p.data 2:Int)) false (p.data.drop 8))/\∀x,fU.at r x->w.heap.size<=x)->K r e w'):
  LY υ v "goosepond/ports.build" (DI sa da) [.one .slice,.one ν] w K:=by
 cases hf with
 |dat a0 a1 a2 a3 hv hb hg=>
  subst hv;rw[ajh];apply EK;refine gy λg w1 r1 e1 z1 f1=> ?_;refine gZ r1 rfl (gZ r1 rfl (gZ r1 rfl (gZ r1 rfl ?_)));obtain⟨L,h1,h2⟩:=hb;refine cmS7 (aeu sa da a0 a1 a2 (h1.ext f1) h2) ?_;rintro r e w2 ⟨f2,hu⟩;refine hK r e w2 (f1.trans f2) λg k0 k1 hl=> ?_;obtain⟨rfl,rfl,rfl,g3⟩:=hg g;have hL:=h1.unique g3
  grind
 |seg a0 a1 a2 a3 a4 a5 a6 a7 a8 a9 h hv hb8 hb9=>
  subst hv;rw[ajl];apply Gt;refine gy λg w1 r1 e1 z1 f1=> ?_;refine aaq r1 ?_;refine cmS7 (aer sa da _ _ _ _ _ _ _ _ (hb8.ext f1) (hb9.ext f1)) ?_;intro r e w2 f2;exact hK r e w2 (f1.trans f2) λg=>by have:=g.1;omega
 |que a0 a1 a2 a3 h hv hb=>
  subst hv;rw[ajj];apply Jd;refine gy λg w1 r1 e1 z1 f1=> ?_;refine X5 (K:=λx0 x1 x2 x3 W=>_) r1 ?_;obtain⟨L,h1,h2⟩:=hb;refine cmS7 (XQ ⟨a0,a1,a2,L⟩ (h1.ext f1)) ?_;rintro r e w2 ⟨_,_,f2,_,_⟩;exact hK r e w2 (f1.trans f2) λg=>by have:=g.1;omega
end
end Go.Proofs.AN
end
section
namespace Go.Proofs.AN
open Gp Gp.V4 Go.Proofs Go.Proofs.VN
open Gp.Bind (In64)
section
variable {w0 w w':θ}
theorem Yb (l:List UInt8) (i:Nat):mg (wordAt l i:Int):=by
 have:=EY l i;constructor<;>omega
theorem Form.fr {p:lV} {v:Value} (h:Form w p v) {S:Nat->Prop} (hf:gV w w' S) {b:Nat} {vs:List Value} (hr:Row w b vs) (hv:∀v∈vs,∀n,v≠.int .u8 n) (hS:∀y,S y->y=b):Form w' p v:=by
 cases h with
 |dat a0 a1 a2 a3 h hv' i0 i1 hb hg=>
  refine .dat a0 a1 a2 a3 h hv' i0 i1 (hb.fr hf hr hv hS) λg=> ?_;obtain⟨g0,g1,g2,g3⟩:=hg g;exact⟨g0,g1,g2,g3.fr hf λad ha h0 e=>jX hr hv g3 ha h0 (hS _ e)⟩
 |seg a0 a1 a2 a3 a4 a5 a6 a7 a8 a9 h hv' i0 i1 hb8 hb9=>exact .seg a0 a1 a2 a3 a4 a5 a6 a7 a8 a9 h hv' i0 i1 (hb8.fr hf hr hv hS) (hb9.fr hf hr hv hS)
 |que a0 a1 a2 a3 h hv' hb=>exact .que a0 a1 a2 a3 h hv' (hb.fr hf hr hv hS)
structure aiP (n:Nat) (w:θ) (p:lV) (sa da po qo:Int) (x5 x6:Int) (x10:fU) (e:Int):Prop where
 e:e=0
 src:x5=sa
 dst:x6=da
 data:iD w x10 (aew sa da (GV po (wordAt p.data 0:Int)) (GV qo (wordAt p.data 2:Int)) false (p.data.drop 8))
 new:∀x,fU.at x10 x->n<=x
def aeQ (p:lV) (sa da po qo:Int):Prop:=ug p/\(kU sa/\kU da)/\(-1<=po/\po<=65535/\ -1<=qo/\qo<=65535/\(0<=po\/0<=qo))/\p.data.length<=60000
theorem acV {t o:Int} (h: -1<=t/\t<=65535) (ho:mg o):mg (GV t o):=by
 unfold GV;split
 ·exact ho
 ·exact⟨by omega,by omega⟩
theorem Ϩ (p:lV) {o d:fU} (ho:iD w o p.opts) (hd:iD w d p.data) (h1:p.opts.length<=2^40) (h2:p.data.length<=2^40) (sa da po qo:Int)
  {K:Int->Int->Int->Int->Int->Int->Int->Bool->Bool->fU->fU->Int->b_}
  (hK:∀x0 x1 x2 x3 x4 x5 x6 x7 x8 x9 ab e w',Ext w w'->(aeQ p sa da po qo->aiP w.heap.size w' p sa da po qo x5 x6 ab e)->K x0 x1 x2 x3 x4 x5 x6 x7 x8 x9 ab e w'):
  yF p.tos p.id p.off p.ttl p.proto p.src p.dst p.df p.mf o d sa da po qo w K:=by
 apply UR;refine gy λa w3 r3 e3 z3 f3=> ?_;refine gy λb w4 r4 e4 z4 f4=> ?_;refine gy λc w5 r5 e5 z5 f5=> ?_;refine gy λg w6 r6 e6 z6 f6=> ?_;have zc:=f3.size;have zd:=f4.size;have ze:=f5.size;have zf:=f6.size;have x6:Ext w w6:=((f3.trans f4).trans f5).trans f6;have ac:=((r3.ext f4).ext f5).ext f6;have ao:=(r4.ext f5).ext f6;have aq:=r5.ext f6;refine kJ ac ?_;refine Nu p (ho.ext x6) (hd.ext x6) h1 h2 λv e w7 f7 hF hG=> ?_;have x7:=x6.trans f7;have ae:=ac.ext f7;have N:=ao.ext f7;have O:=aq.ext f7;have af:=r6.ext f7;have z7:=f7.size;have bad:∀(W:θ) (e:Int),Ext w7 W->¬aeQ p sa da po qo->h_ ξ W ⟨g,0,none⟩ 0 λag=>iq ag ⟨g,0,none⟩ λy0 y1 y2 y3 y4 y5 y6 y7 y8 y9 ar=>K y0 y1 y2 y3 y4 y5 y6 y7 y8 y9 ar e ag:=by
  intro W e hW hn;refine StN_f (af.ext hW) λw8 r8 f8 z8=> ?_;refine kJ r8 ?_;exact hK _ _ _ _ _ _ _ _ _ _ _ e w8 ((x7.trans hW).nw f8) λh=>absurd h hn
 by_cases he:e=0;rotate_left
 ·have:(e !=0)=true:=by rw[alM];exact he
  rw[this,aaU];exact bad w7 e (Ext.refl _) λhh=>he (hG hh.1)
 subst he;show cond false _ _;rw[aaT];have hF7:=hF rfl;refine⟨by omega,by omega,?_⟩;refine Ld_i 0 po O ⟨by omega,by omega,?_⟩;refine Ld_i 1 qo O ?_;intro J;have R:∀(W:θ),Ext w7 W->¬aeQ p sa da po qo->J true W:=λW hW hn=>bad W 1 hW hn;have au:∀(W:θ),Ext w7 W->J false W:=by
  intro W hW;show cond false _ _;rw[aaT];have hd':=hW.trans (Ext.drew W);have U:=N.ext hd';have av:=ae.ext hd';have z8:=hd'.size;refine⟨by omega,by omega,Ld_i 0 sa U ⟨by omega,by omega,Ld_i 1 da U ?_⟩⟩;refine gY (i:=5) av rfl (by simp) λw8 r8 f8' z8'=> ?_;have f8:gV W.drew w8 (·=a):=f8' _ rfl;have y8:Ext w w8:=(x7.trans hd').nw f8;refine⟨by rw[gJ,((U.fr f8 (by omega))).cell];rfl,?_⟩;refine gY (i:=6) r8 rfl (by simp) λw9 r9 f9' z9'=> ?_;have f9:gV w8 w9 (·=a):=f9' _ rfl;have y9:Ext w w9:=y8.nw f9;simp only[agO,af7] at r9;refine Ld_s 9 o r9 ?_;refine cmS2 (nR (ho.ext y9) (by omega)) ?_;rintro oc aw ⟨_,_,f10,_⟩;have ax:=r9.ext f10;refine gY (i:=9) ax rfl (by simp) λu ah Y z11=> ?_;have f11:gV aw u (·=a):=Y _ rfl;have ay:Ext w u:=(y9.trans f10).nw f11;simp only[agO,af7] at ah;have y11d:=ay.trans (Ext.drew u);have r11d:=ah.drew;have I:gV w7 u.drew (·=a):=((((hd'.fr f8).trans f9 λ_ _ h=>h).ext f10).trans f11 λ_ _ h=>h).ext (Ext.drew u);have r511:=O.fr I (by omega);have hF11:=hF7.fr I ae (by simp) λy hy=>hy;have r611:=af.fr I (by omega);refine⟨by omega,by omega,Ld_i 0 po r511 ⟨by omega,by omega,Ld_i 1 qo r511 ?_⟩⟩;refine Ld_i 5 sa r11d (Ld_i 6 da r11d ?_);refine adO hF11 po qo λv' w12 f12 hF2=> ?_;have Z:=r11d.ext f12;refine⟨by rw[gJ,Z.cell];rfl,by rw[gJ,Z.cell];rfl,?_⟩;refine abx hF2 sa da λr e az f13 hB=> ?_;have ai:=Z.ext f13;refine gY (i:=10) ai rfl (by simp) λaj ak aa z14=> ?_;have f14:gV az aj (·=a):=aa _ rfl;simp only[agO,af7] at ak;have aA:Ext w aj:=((y11d.trans f12).trans f13).nw f14;refine kJ ak ?_;have zz:=f12.size;have zy:=f13.size;have r614:=((r611.ext f12).ext f13).fr f14 (by omega);refine StN_f r614 λaB aC f15 z15=> ?_;refine kJ aC ?_;refine hK _ _ _ _ _ _ _ _ _ _ _ e aB (aA.nw f15) λhm=> ?_;obtain⟨hg,_,⟨m1,m2,m3,m4,_⟩,hl⟩:=hm;obtain⟨q1,q2,qn⟩:=hB hg (acV ⟨m1,m2⟩ (Yb _ _)) (acV ⟨m3,m4⟩ (Yb _ _)) hl;refine⟨q1,rfl,rfl,?_,λx hx=>by have:=qn x hx;have:=I.size;omega⟩;have q3:=q2.fr f14 λad ha h0 e=>jX ai (by simp) q2 ha h0 e;exact q3.fr f15 λad ha h0 e=>jX r614 (by simp) q3 ha h0 e
 clear_value J;refine⟨by omega,by omega,Ld_i 0 sa N ?_⟩;refine cmS0 (BM sa w7) ?_;rintro q w8 ⟨rfl,hw⟩;subst hw;by_cases k1:kU sa;rotate_left
 ·rw[adn k1,afa,aaU];exact R _ (Ext.refl _) λhh=>k1 hh.2.1.1
 rw[aeJ k1,adp,aaT];refine⟨by omega,by omega,Ld_i 1 da N ?_⟩;refine cmS0 (BM da _) ?_;rintro q w8 ⟨rfl,hw⟩;subst hw;by_cases k2:kU da;rotate_left
 ·rw[adn k2,afa,aaU];exact R _ (Ext.refl _) λhh=>k2 hh.2.1.2
 rw[aeJ k2,adp,aaT];refine cmS0 (rQ _ 2 _) ?_;rintro q w8 ⟨hq,hw⟩;subst hw
 cases q
 ·refine R _ (Ext.refl _) λhh=>al7 hq.symm ?_;obtain⟨_,_,⟨m1,m2,m3,m4,m5⟩,_⟩:=hh;have am:∀x:Int,(x=po\/x=qo)->0<=x->jc x 2:=λx hx h0=>⟨by decide,h0,by show x<65536;omega⟩;by_cases an:qo>po
  ·rw[aeH an];exact am _ (.inr rfl) (by omega)
  ·rw[ada an];exact am _ (.inl rfl) (by omega)
 exact au _ (Ext.refl _)
theorem ahg (p:lV) {o d:fU} (ho:iD w o p.opts) (hd:iD w d p.data) (h1:p.opts.length<=2^40) (h2:p.data.length<=2^40) (ad po:Int)
  {K:Int->Int->Int->Int->Int->Int->Int->Bool->Bool->fU->fU->Int->b_}
  (hK:∀x0 x1 x2 x3 x4 x5 x6 x7 x8 x9 h e w',Ext w w'->(aeQ p ad p.dst po (-1)->aiP w.heap.size w' p ad p.dst po (-1) x5 x6 h e)->K x0 x1 x2 x3 x4 x5 x6 x7 x8 x9 h e w'):
  FC p.tos p.id p.off p.ttl p.proto p.src p.dst p.df p.mf o d ad po w K:=by
 apply WE;refine gy λg0 w1 r1 e1 z1 f1=> ?_;refine gy λg1 w2 r2 e2 z2 f2=> ?_;have x2:=f1.trans f2;have u:=r1.ext f2;have za:=f1.size;have zb:=f2.size;refine kJ u (Ld_i 6 p.dst u ?_);refine Ϩ p (ho.ext x2) (hd.ext x2) h1 h2 _ _ _ _ λy0 y1 y2 y3 y4 y5 y6 y7 y8 y9 y10 e W hW hR=> ?_;refine StN_f (r2.ext hW) λw4 r4 f4 z4=> ?_;refine kJ r4 ?_;refine hK _ _ _ _ _ _ _ _ _ _ _ e w4 ((x2.trans hW).nw f4) λhm=> ?_;obtain⟨q1,q2,q2',q3,q4⟩:=hR hm;exact⟨q1,q2,q2',q3.fr f4 λad ha h0 e=>jX (r2.ext hW) (by simp) q3 ha h0 e,λx hx=>by have:=q4 x hx;omega⟩
end
end Go.Proofs.AN
end
section
namespace Go.Proofs.AN
open Gp Gp.V4 Go.Proofs Go.Proofs.VN
open Gp.Bind (In64)
section
variable {w0 w w':θ}
theorem acT (e:Int) (w:θ):FB e w λr w'=>r≠0/\w'=w:=by
 apply ϲ
 cases (e==8)<;>exact⟨by decide,rfl⟩
theorem XT (p:lV) {o d:fU} (hd:iD w d p.data) (h2:p.data.length<=2^40) {K:Int->Int->Int->fU->Bool->b_}
  (hK:∀k c r d' is w' (m:List UInt8),Ext w w'->iD w' d' m->m.length<=2^40->(is=true->p.proto=1)->K k c r d' is w'):
  Ad p.tos p.id p.off p.ttl p.proto p.src p.dst p.df p.mf o d w K:=by
 apply Wx;refine gy λa w1 r1 e1 z1 f1=> ?_;refine gy λb w2 r2 e2 z2 f2=> ?_;have h:=r1.ext f2;have x2:=f1.trans f2;have za:=f1.size;have zb:=f2.size;refine gZ h rfl ?_;by_cases p1:p.proto=1;rotate_left
 ·rw[show (p.proto !=1)=true by simp_all,aaU];refine gU r2 rfl rfl λw3 r3 f3' z3=> ?_;have f3:=f3' _ rfl;refine X5 (x3:=⟨none,0,0⟩) r3 ?_;exact hK _ _ _ _ _ w3 [] (x2.new f3 λy hy e=>by omega) iD.nil (by simp) λhh=>by cases hh
 rw[show (p.proto !=1)=false by simp_all,aaT];refine gZ h rfl ?_;refine Ui (hd.ext x2) h2 λu0 u1 u2 u3 e w3 m f3 hm N=> ?_;refine gy λg w4 r4 e4 z4 f4=> ?_;refine gU r4 rfl rfl λw5 r5 f5' z5=> ?_;have f5:=f5' _ rfl;have u:=f4.new f5 λy hy e=>by omega
 have g5:=f3.trans u;have hm5:=hm.ext u;intro J;have fin:∀(q:Bool) W,Ext w5 W->h_ [Β u0,Β u1,Β u2,Δ u3] W ⟨b,0,none⟩ 0 λO=>J q O:=by
  intro q W hW;refine StN_f ((r2.ext g5).ext hW) λw6 r6 f6 z6=> ?_;simp only[J];refine X5 r6 ?_;have I:=hm5.ext hW;exact hK _ _ _ _ _ w6 m (((x2.trans g5).trans hW).nw f6) (I.fr f6 λad ha h0 e=>jX ((r2.ext g5).ext hW) (by simp) I ha h0 e) N λ_=>p1
 clear_value J;have r5d:=r5.drew;have c0:∀{W:θ},Ext w5 W->W.cell? (Addr.add ⟨g,0,none⟩ 0)=some (Β u0)/\W.cell? (Addr.add ⟨g,0,none⟩ 1)=some (Β u1)/\W.cell? (Addr.add ⟨g,0,none⟩ 2)=some (Β u2)/\W.cell? (Addr.add ⟨g,0,none⟩ 3)=some (Δ u3):=
  λhW=>⟨by rw[gJ,(r5.ext hW).cell];rfl,by rw[gJ,(r5.ext hW).cell];rfl,by rw[gJ,(r5.ext hW).cell];rfl,by rw[gJ,(r5.ext hW).cell];rfl⟩
 refine X5 (K:=λx29 x30 x31 x32 W=>_) r5d ?_
 cases (e==0)
 ·rw[aaT];obtain⟨q0,q1,q2,q3⟩:=c0 (Ext.drew w5);exact⟨q0,q1,q2,q3,fin false _ (Ext.drew w5)⟩
 ·rw[aaU];refine gZ r5d rfl ?_;refine cmS0 (adJ _ _) ?_;rintro fr w6 f6;obtain⟨q0,q1,q2,q3⟩:=c0 ((Ext.drew w5).trans f6);exact⟨q0,q1,q2,q3,fin fr _ ((Ext.drew w5).trans f6)⟩
end
end Go.Proofs.AN
namespace Go.Proofs.EN
open Gp Gp.V4 Go.Proofs Go.Proofs.AN Go.Proofs.VN
open Gp.Bind (Bnd Slots live GoodB freeN getS In64)
open Gp.Ses (Ses)
variable {w w':θ} {a:EA} {c:Cf} {e:ES}
structure Stp (c:Cf) (e e':ES) (sw:Int):Prop where
 now:e'.now=e.now
 tn:e'.tn<=e.tn+1
 S:∀(j:Nat) (b:Bnd),e.S[j]? =some (some b)->e'.S[j]? =some (some b)
 SS:∀(k:Nat) (s:Ses),e.SS[k]? =some (some s)->(∀(j:Nat) (b:Bnd),s.bd=(j:Int)->e.S[j]? =some (some b)->b.sw≠sw)->e'.SS[k]? =some (some s)
 nw:∀(j:Nat) (b:Bnd),e'.S[j]? =some (some b)->e.S[j]? =some (some b)\/(b.st=false/\c.lo<=b.opo/\b.opo<=c.hi)
theorem Flow.S {e1:ES} {sw pr ad po ra rp bd sid:Int} {kn:Bool} (hf:Flow c e e1 sw pr ad po ra rp bd sid kn) {j:Nat} {b:Bnd} (h:e.S[j]? =some (some b)):e1.S[j]? =some (some b):=by
 rcases hf.was with ⟨rfl,_⟩|⟨_,_,i,o,Mi,Mo,_,u,_,rfl⟩
 ·exact h
 ·have h2:=(Gp.Bind.jm 0 u).2.1
  grind
theorem Flow.eq {e1:ES} {sw pr ad po ra rp bd sid:Int} {kn:Bool} (hf:Flow c e e1 sw pr ad po ra rp bd sid kn):e1.SS=e.SS/\e1.now=e.now/\e1.tn=e.tn/\e1.M=e.M:=by
 rcases hf.was with ⟨rfl,_⟩|⟨_,_,i,o,Mi,Mo,_,hfi,_,rfl⟩<;>exact⟨rfl,rfl,rfl,rfl⟩
theorem ajL {e1:ES} {sw pr ad po ra rp bd sid:Int} {kn:Bool} (hf:Flow c e e1 sw pr ad po ra rp bd sid kn) {k:Nat} {s:Ses} {M F l nx}
  (hs:(kn=true/\sid=(k:Int)/\∃s0,e1.SS[k]? =some (some s0)/\s={s0 with st:=nx,un:=RH c e1 pr nx})\/(kn=false/\Gp.Ses.freeN e1.SS=some k/\s=⟨bd,nx,RH c e1 pr nx,ra,rp⟩)):
  Stp c e {e1 with SS:=e1.SS.set k (some s),M:=M,l:=l,tn:=e1.tn+1,F:=F} sw:=by
 obtain⟨q1,q2,q3,_⟩:=hf.eq;refine⟨q2,by simp_all,λj b h=>hf.S h,λk' s' h hn=> ?_,λj b h=> ?_⟩;rotate_left
 ·rcases hf.was with ⟨rfl,_⟩|⟨_,_,i,o,Mi,Mo,_,_,ht,rfl⟩
  ·exact .inl h
  ·have h:=h;rw[akJ] at h;split at h
   ·split at h
    ·have:=alq (alq h);subst this;exact .inr ⟨rfl,(PN.Vx ht).2.2.1⟩
    ·cases h
   simp_all
 show (e1.SS.set k _)[k']? =_;rw[akJ,q1,ada]
 ·exact h
 rintro rfl;rcases hs with ⟨rfl,hk,s0,h0,_⟩|⟨_,u,_⟩
 ·rcases hf.ses with ⟨_,k2,s2,g1,g2,g3,_⟩|⟨g,_⟩
  ·have:k2=k:=by omega
   subst this;rw[q1,h] at g2;have:s'=s2:=by simp_all
   subst this;rcases hf.was with ⟨rfl,_⟩|⟨_,g,_⟩
   ·obtain⟨j,b,hj,hb,hsw,_⟩:=hf.bnd
    grind
   ·cases g
  ·cases g
 ·have:=(Gp.Ses.jm 0 u).2.1
  simp_all
def Law (c:Cf) (sw:Int) (p:lV):Prop:=Uh c sw/\ug p/\p.data.length<=60000
def akS (w':θ) (c:Cf) (e e':ES) (sw:Int) (p:lV) (x5:Int) (x10:fU):Prop:=
 ∃(j:Nat) (b:Bnd) (k:Nat) (s:Ses),e'.S[j]? =some (some b)/\b.sw=sw/\b.pr=17/\b.ad=p.src/\b.po=(wordAt p.data 0:Int)/\e'.SS[k]? =some (some s)/\s.bd=(j:Int)/\s.ra=p.dst/\s.rp=(wordAt p.data 2:Int)/\s.un=RH c e 17 0/\x5=b.oad/\
  iD w' x10 (aew b.oad p.dst b.opo (wordAt p.data 2:Int) false (p.data.drop 8))/\e'.SS=e.SS.set k (some s)/\
  (e.Mi (Bind.keyS [sw,17,p.src,(wordAt p.data 0:Int)])=none->PN.DF 17 (wordAt p.data 0:Int) sw c.lo c.hi c.pl e.G=some (b.opr,b.oad,b.opo)/\b.st=false)
end Go.Proofs.EN
end
section
namespace Go.Proofs.EN
open Gp Gp.V4 Go.Proofs Go.Proofs.AN Go.Proofs.VN
open Gp.Bind (Bnd Slots live GoodB freeN getS In64)
open Gp.Ses (Ses)
variable {w w':θ} {a:EA} {c:Cf} {e:ES}
theorem out_ok (h:lH w a c e) (hg:Gd c e) (hm:CfM c) (ht:e.tn<2^61) (hH:Hdl w) (h0:¬iZ a 0) (sw:Int) (p:lV) {o d:fU} (ho:iD w o p.opts) (hd:iD w d p.data) (h1:p.opts.length<=2^40) (h2:p.data.length<=2^40)
  (bg:∀ad,o.a=some ad->0<p.opts.length->¬iZ a ad.block) (bh:∀ad,d.a=some ad->0<p.data.length->¬iZ a ad.block)
  {K:Int->Int->Int->Int->Int->Int->Int->Bool->Bool->fU->fU->Int->b_}
  (hD:∀x0 x1 x2 x3 x4 x5 x6 x7 x8 x9 I why w',Ext w w'->(Law c sw p->Full c e sw 17 (wordAt p.data 0:Int) why/\ND e sw 17 p.src (wordAt p.data 0:Int) p.dst (wordAt p.data 2:Int))->K x0 x1 x2 x3 x4 x5 x6 x7 x8 x9 I why w')
  (hK:∀x0 x1 x2 x3 x4 x5 x6 x7 x8 x9 I w' a' e',gV w w' (iZ a)->lH w' a' c e'->Gd c e'->Grow a a' w.heap.size->a'.x=a.x->Stp c e e' sw->(Law c sw p->akS w' c e e' sw p x5 I/\∀b,fU.at I b->¬iZ a' b)->K x0 x1 x2 x3 x4 x5 x6 x7 x8 x9 I 0 w'):
  rH (some ⟨a.x,0,none⟩) sw p.tos p.id p.off p.ttl p.proto p.src p.dst p.df p.mf o d w K:=by
 apply Nh;refine gy λg0 w1 r1 e1 z1 f1=> ?_;refine gy λg1 w2 r2 e2 z2 f2=> ?_;have x2:=f1.trans f2;have r1:=r1.ext f2;have za:=f1.size;have zb:=f2.size;have h02:0<w.heap.size:=by
  have:=h.lt 0 a.x (by simp[own]);omega
 have fin:∀(W:θ) (why:Int),Ext w2 W->(Law c sw p->Full c e sw 17 (wordAt p.data 0:Int) why/\ND e sw 17 p.src (wordAt p.data 0:Int) p.dst (wordAt p.data 2:Int))->h_ ξ W ⟨g1,0,none⟩ 0 λY=>iq Y ⟨g1,0,none⟩ λy0 y1 y2 y3 y4 y5 y6 y7 y8 y9 aI=>K y0 y1 y2 y3 y4 y5 y6 y7 y8 y9 aI why Y:=by
  intro W why hW hL;refine StN_f (r2.ext hW) λw4 r4 f4 z4=> ?_;refine kJ r4 ?_;exact hD _ _ _ _ _ _ _ _ _ _ _ why w4 ((x2.trans hW).nw f4) hL
 intro J8;have hJ8t:∀W,Ext w2 W->¬Law c sw p->J8 true W:=by
  intro W hW hn;simp -zeta only[J8];exact fin W 1 hW λhh=>absurd hh hn
 have hJ8f:∀W,Ext w2 W->Uh c sw->p.check=0->J8 false W:=by
  intro W hW ae hc0;simp -zeta only[J8];rw[aaT];have r1W:=r1.ext hW;have xW:=x2.trans hW;refine kJ r1W ?_;refine XT p (hd.ext xW) h2 λk1 k2 k3 d' is w3 m f3 hd' bi bj=> ?_;refine gy λb1 w4 r4 e4 z4 f4=> ?_;refine StN_f r4 λw5 r5 f5 z5=> ?_;have aP:Ext w3 w5:=f4.nw f5;have g5:=f3.trans aP;have af:=r1W.ext g5;have hE5:=h.ext (xW.trans g5)
  cases is
  rotate_left
  ·rw[aaU];have bk:¬Law c sw p:=λhh=>by have:=bj rfl;have:=hh.2.1.1;omega
   refine kJ af ?_;refine X5 (K:=λx53 x54 x55 x56 W=>_) r5 ?_;refine ϖ hE5 sw (by unfold In64;have:=h.cf.sw;obtain⟨q1,q2⟩:=ae;omega) p (ho.ext (xW.trans g5)) h1 k1 k2 k3 (hd'.ext aP) bi λy0 y1 y2 y3 y4 y5 y6 y7 y8 y9 aI why w6 f6=> ?_;refine StN_f ((r2.ext hW).ext (g5.trans f6)) λw7 r7 f7 z7=> ?_;refine kJ r7 ?_;exact hD _ _ _ _ _ _ _ _ _ _ _ why w7 (((xW.trans g5).trans f6).nw f7) λhh=>absurd hh bk
  rw[aaT];refine kJ af ?_;refine cmS10 (agm p (ho.ext (xW.trans g5)) (hd.ext (xW.trans g5)) h1 h2) ?_;rintro x y z ee w6 ⟨⟨ix,iz,hp0,aJ⟩,f6⟩;refine gy λb2 w7 r7 e7 z7 f7=> ?_;refine StN_f r7 λw8 r8 f8 z8=> ?_;have bm:Ext w6 w8:=f7.nw f8;have g8:=(g5.trans f6).trans bm;by_cases aK:ee=0;rotate_left
  ·rw[show (ee !=0)=true by rw[alM];exact aK,aaU];refine cmS1 (acT ee w8) ?_;rintro r w9 ⟨hr,hw9⟩;subst hw9;exact fin w9 r (hW.trans g8) λhh=>absurd (aJ hh.2.1).1 aK
  subst aK;show cond false _ _;rw[aaT];obtain⟨rfl,am⟩:=hp0 rfl;have an:Law c sw p->p.proto=17/\y=(wordAt p.data 0:Int)/\z=(wordAt p.data 2:Int):=λhh=>⟨hh.2.1.1,(aJ hh.2.1).2.1,(aJ hh.2.1).2.2⟩;have aQ:=r1W.ext g8;have x8:=xW.trans g8;refine Ld_i 0 p.proto r8 (Ld_i 5 p.src aQ (Ld_i 1 y r8 ?_));refine gy λb3 w9 r9 e9 z9 f9=> ?_;refine StN_f r9 λJ ag f10 z10=> ?_;have zc:=f3.size;have zd:=f6.size;have ze:=f9.size;have x810:Ext w8 J:=f9.nw f10;have I:=x8.trans x810;have r1A:=aQ.ext x810;have r2A:=(r2.ext hW).ext (g8.trans x810);have rpA:=r8.ext x810;intro J122;have bn:∀{pr},pr=p.proto->ND e sw pr p.src y p.dst (if pr=1 then 0 else z)->Law c sw p->ND e sw 17 p.src (wordAt p.data 0:Int) p.dst (wordAt p.data 2:Int):=by
   rintro pr rfl hn hh;obtain⟨q1,q2,q3⟩:=an hh;rw[q1,ada (by omega),q2,q3] at hn;exact hn
  have aR:∀(W:θ) (g:Nat) (dd:Int),Ext J W->(Law c sw p->Full c e sw 17 (wordAt p.data 0:Int) dd/\ND e sw 17 p.src (wordAt p.data 0:Int) p.dst (wordAt p.data 2:Int))->J122 ⟨g,0,none⟩ (Qw dd) W:=by
   intro W g dd hx hL;simp -zeta only[J122];refine gy λt Y Z aw ax f11=> ?_;refine cmS0 (ae3 ((hH.ext (I.trans hx)).ext f11) Z) ?_;rintro q N ⟨rfl,f12,ao⟩;rw[aaU];have r12d:=ao.drew;refine Ld_i 0 dd r12d ?_;have zx:=hx.size;have aS:Ext J N.drew:=((hx.trans f11).new f12 λy hy e=>by omega).trans (Ext.drew N);refine StN_f (r2A.ext aS) λaa bo f13 z13=> ?_;refine⟨by rw[(r12d.fr f13 (by have:=r2A.lt;omega)).cell];rfl,?_⟩;refine kJ bo ?_;exact hD _ _ _ _ _ _ _ _ _ _ _ dd aa ((I.trans aS).nw f13) hL
  have aT:∀(W:θ) (g:Nat) (a':EA) (e':ES) (bd sid nx:Int) (kn:Bool),J.heap.size<=W.heap.size->J.heap.size<=g->gV J W (iZ a)->lH W a' c e'->Gd c e'->Grow a a' J.heap.size->¬iZ a' g->a'.x=a.x->
    Flow c e e' sw p.proto p.src y p.dst (if p.proto=1 then 0 else z) bd sid kn->(p.proto≠6->nx=0)->Row W g (QA bd true sid kn nx p.dst (if p.proto=1 then 0 else z))->J122 ⟨g,0,none⟩ .nilIface W:=by
   intro W g a' e' bd sid nx kn hz hzg hf hE hG ah bp ar ab ay hr;simp -zeta only[J122];have aq:∀b,iZ a b->b<w.heap.size:=λb ⟨k,hk⟩=>h.lt k b hk;have zz2:=xW.size;have zz8:=x8.size;have zz10:=I.size;have lt2:=r8.lt;refine gy λt Y Z aw ax f11=> ?_;refine cmS0 (ae4 _ Y) ?_;rintro q N ⟨rfl,hw⟩;subst hw;rw[aaT];have hf1:=hf.ext f11;have hr1:=hr.ext f11;have rp1:=rpA.fr hf1 λhb=>by have:=aq _ hb;omega
   refine rd7 (Q:=λy0 y1 y2 y3 y4 y5 y6=>Ld ν N ⟨b2,0,none⟩ λy7=>Ld ν N (Addr.add ⟨g,0,none⟩ 4) λy8=>nM (some ⟨a.x,0,none⟩) y0 y1 y2 y3 y4 y5 y6 y7 y8 N _) hr1 ?_;refine Ld_i 0 p.proto rp1 (Ld_i 4 nx hr1 ?_);rw[<- ar];obtain⟨q1,q2,q3,q4⟩:=ab.eq;obtain⟨jb,bb,az,U,hb1,hb2,hb3,hb4⟩:=ab.bnd;have ib:In64 bd:=by
    have:=(aeK.1 U).1;have:=hE.db.len;have:=h.cf.b1;rw[az];unfold In64;omega
   have ira:In64 p.dst:=by
    have:=(qC hc0).1.2.1.2;unfold kU at this;unfold In64;omega
   have irp:In64 (if p.proto=1 then 0 else z):=by unfold In64;split<;>omega
   refine acS (hE.ext f11) hG hm am (by omega) (ab.ses.imp (λ⟨g1,k,s0,g2,g3,_⟩=>⟨g1,k,s0,g2,g3⟩) λ⟨g1,g2,g3⟩=>⟨g1,g2,g3,⟨jb,bb,az,U⟩,ib,ira,irp⟩) λaa a2 M F k s f13 hk4 bq hst hs hE2 hG2 aA ac=> ?_;have aB:=ajL ab hs (M:=M) (F:=F) (l:=Cm e'.l (k:Int) ⟨(k:Int),max (RH c e' p.proto nx).toNat e'.wn,e'.tn+1⟩);generalize hE2e:({e' with SS:=e'.SS.set k (some s),M:=M,l:=Cm e'.l (k:Int) ⟨(k:Int),max (RH c e' p.proto nx).toNat e'.wn,e'.tn+1⟩,tn:=e'.tn+1,F:=F}:ES)=e2 at hE2 hG2 aB;have hf3:gV J aa (iZ a):=hf1.trans f13 λb hb ho=>(ah b ho).elim id λhh=>by omega
   have hf3w:gV w aa (iZ a):=(I _).trans hf3 λ_ _ q=>q;have hr3:=hr1.fr f13 bp;intro J153;have hJ153:∀(u:Nat) (W:θ),Ext aa W->Row W u [Β bb.sw,Β bb.pr,Β bb.ad,Β bb.po,Β bb.opr,Β bb.oad,Β bb.opo,.bool bb.st]->J153 ⟨u,0,none⟩ W:=by
    intro u W hW hu;simp -zeta only[J153];have lt1:=r1A.lt;have lt2':=r2A.lt;have fW:=hf3.ext hW;have fWw:=hf3w.ext hW;have r1W:=r1A.fr fW λhb=>by have:=aq _ hb;omega
    have r2W:=r2A.fr fW λhb=>by have:=aq _ hb;omega
    refine kJ r1W ?_;have g5:W.cell? (Addr.add (Addr.add ⟨u,0,none⟩ 4) 1)=some (Β bb.oad):=by rw[gJ,gJ,hu.cell];rfl
    have g6:W.cell? (Addr.add (Addr.add ⟨u,0,none⟩ 4) 2)=some (Β bb.opo):=by rw[gJ,gJ,hu.cell];rfl
    refine ig (k:= .int .i64) (y:=bb.oad) g5 (ig (k:= .int .i64) (y:=bb.opo) g6 ?_);refine ahg p (ho.fr fWw bg) (hd.fr fWw bh) h1 h2 bb.oad bb.opo λy0 y1 y2 y3 y4 y5 y6 y7 y8 y9 aI ee aL f14 hR=> ?_;refine gy λv aU af aV aW f15=> ?_;refine StN_f af λaC aD f16 aX=> ?_;have zf14:=f14.size;have aE:Ext aL aC:=f15.nw f16;refine kJ aD ?_;refine StN_f (r2W.ext (f14.trans aE)) λaY br f17 z17=> ?_;refine kJ br ?_;have zw:=hW.size;have zfw:=hf3w.size;have aZ:gV W aY (·=g1):=((f14.trans aE) _).trans f17 λ_ _ q=>q;have hg1:∀b,iZ a2 b->b≠g1:=by
     intro b hb;rcases aA b hb with hb|hb
     ·rcases ah b hb with hb|hb
      ·have:=aq _ hb;omega
      ·omega
     ·have:=hf.size;omega
    refine hK _ _ _ _ _ _ _ _ _ _ _ aY a2 e2 (fWw.trans aZ λb hb he=>by omega) ((hE2.ext hW).fr aZ λk b hb he=>hg1 b ⟨k,hb⟩ he) hG2 ?_ (ac.trans ar) aB λhL=> ?_
    ·intro b hb;rcases aA b hb with hb|hb
     ·rcases ah b hb with hb|hb
      ·exact .inl hb
      ·exact .inr (by omega)
     ·exact .inr (by have:=hf.size;have:=f11.size;omega)
    ·obtain⟨au,hy,hz⟩:=an hL;have aM:=hG.inv.mp jb bb U;have bt:=h.cf.hp _ aM.2.2.1;have hR:=hR ⟨hL.2.1,⟨by unfold kU;unfold CN.mV at bt;omega,(qC hc0).1.2.1.2⟩,by have:=aM.2.2.2.2.1;omega,hL.2.2⟩;have bu:GV bb.opo (wordAt p.data 0:Int)=bb.opo:=ada (by have:=aM.2.2.2.2.1.1;omega);obtain⟨_,hR2,_,hR3,hR4⟩:=hR;rw[bu,show GV (-1) (wordAt p.data 2:Int)=(wordAt p.data 2:Int) from aeH rfl] at hR3;have aN:s.bd=(jb:Int)/\s.ra=p.dst/\s.rp=z:=by
      rcases hs with ⟨rfl,hk,s0,hs0,rfl⟩|⟨rfl,ba,rfl⟩
      ·rcases ab.ses with ⟨_,k2,s2,g1,g2,g3,g4,g5⟩|⟨g,_⟩
       ·have:k2=k:=by omega
        subst this;rw[hs0] at g2;have:s0=s2:=by simpa using g2
        subst this;exact⟨g3.trans az,g4,g5.trans (ada (by omega))⟩
       ·cases g
      ·exact⟨az,rfl,ada (by omega)⟩
     have bv:k<e'.SS.length:=by
      rcases hs with ⟨_,_,s0,hs0,_⟩|⟨_,ba,_⟩
      ·exact(aeK.1 hs0).1
      ·exact(Gp.Ses.jm 0 ba).1
     have aO:=ay (by omega);refine⟨?_,λy hy ⟨k,hk⟩=>by have:=hR4 y hy;have:=(hE2.ext hW).lt k y hk;omega⟩;refine⟨jb,bb,k,s,by rw[<- hE2e];exact U,hb1,hb2.trans au,hb3,hb4.trans hy,?_,aN.1,aN.2.1,aN.2.2.trans hz,?_,hR2,?_,?_,?_⟩
     ·rw[<- hE2e];show (e'.SS.set k _)[k]? =_;rw[akJ,aeH rfl,aeH bv]
     ·rw[bq,au,aO];unfold RH;rw[q2]
     ·have q3:=(hR3.ext aE).fr f17 λad ha h0 e=>jX (r2W.ext (f14.trans aE)) (by simp) (hR3.ext aE) ha h0 e;exact q3
     ·rw[<- hE2e,<- q1]
     ·intro bw;rcases ab.was with ⟨_,bc⟩|⟨_,_,i,o,Mi,Mo,hbi,bx,be,he'⟩
      ·rw[au,hy,bw] at bc;cases bc
      ·have bz:=(Gp.Bind.jm 0 bx).1;have:jb=i:=by omega
       subst this;rw[he'] at U;have U:(e.S.set jb (some ⟨sw,p.proto,p.src,y,o.1,o.2.1,o.2.2,false⟩))[jb]? =some (some bb):=U;rw[akJ,aeH rfl,aeH bz] at U;have U:=alq (alq U);subst U;rw[au,hy] at be;exact⟨be,rfl⟩
   clear_value J153;have hE3:=hE2.ext (Ext.drew aa);have bf:getS e2.S bd=some bb:=Gp.Bind.kY.2 ⟨by omega,by rw[az,ab3,<- hE2e];exact U⟩;refine jM.2 (ig (k:= .ptr) (y:=some ⟨a2.B.d,0,none⟩) (by rw[gJ,<- ac];exact hE3.c2) ?_);refine Ld_i 0 bd hr3.drew ⟨?_,?_⟩
   ·refine cmS14 (Dq hE3.db bd) ?_;rintro a1 a2' a3 a4 a5 a6 a7 a8 r aL ⟨_,hR,f14⟩;rw[bf] at hR;obtain⟨rfl,rfl,rfl,rfl,rfl,rfl,rfl,rfl⟩:=hR;refine gy λu aU af aV aW f15=> ?_;have ai:=(Ext.drew aa).trans (f14.trans f15);refine⟨by rw[(hr3.ext ai).cell];rfl,by rw[gJ,<- ac];exact(hE2.ext ai).c2,?_⟩;refine StN_f af λaC aD f16 aX=> ?_;have zq:=((Ext.drew aa).trans f14).size;exact hJ153 u aC (ai.nw f16) aD
   ·refine gy λu aU af aV aW f15=> ?_;have ai:=(Ext.drew aa).trans f15;refine⟨by rw[(hr3.ext ai).cell];rfl,by rw[gJ,<- ac];exact(hE2.ext ai).c2,?_⟩;refine cmS14 (Dq (hE2.ext ai).db bd) ?_;rintro a1 a2' a3 a4 a5 a6 a7 a8 r aL ⟨_,hR,f14⟩;rw[bf] at hR;obtain⟨rfl,rfl,rfl,rfl,rfl,rfl,rfl,rfl⟩:=hR;refine StN_f (af.ext f14) λaC aD f16 aX=> ?_;have zq:=(Ext.drew aa).size;exact hJ153 u aC ((ai.trans f14).nw f16) aD
  clear_value J122;have aq:∀b,iZ a b->b<w.heap.size:=λb ⟨k,hk⟩=>h.lt k b hk;have zz2:=xW.size;have zz8:=x8.size;have zz10:=I.size;have lt1:=r1A.lt;have lt2:=rpA.lt;have lt3:=ag.lt;have aj:∀(V:θ),Row V b3 [Β sw,Β p.proto,Β p.src,Β y]->V.cell? (Addr.add ⟨b3,0,none⟩ 0)=some (Β sw)/\V.cell? (Addr.add ⟨b3,0,none⟩ 1)=some (Β p.proto)/\V.cell? (Addr.add ⟨b3,0,none⟩ 2)=some (Β p.src)/\V.cell? (Addr.add ⟨b3,0,none⟩ 3)=some (Β y):=
   λV hr=>⟨by rw[gJ,hr.cell];rfl,by rw[gJ,hr.cell];rfl,by rw[gJ,hr.cell];rfl,by rw[gJ,hr.cell];rfl⟩
  have ck:∀(V:θ) (R:Prop),Row V g0 (gQ p.tos p.id p.off p.ttl p.proto p.src p.dst p.df p.mf o d)->Row V b2 [Β p.proto,Β y,Β z]->Row V b3 [Β sw,Β p.proto,Β p.src,Β y]->R->
    VJ (gQ p.tos p.id p.off p.ttl p.proto p.src p.dst p.df p.mf o d) V ⟨g0,0,none⟩ 0 (V.cell? (Addr.add ⟨b2,0,none⟩ 2)=some (Β z)/\V.cell? (Addr.add ⟨g0,0,none⟩ 6)=some (Β p.dst)/\V.cell? ⟨b2,0,none⟩=some (Β p.proto)/\
     V.cell? (Addr.add ⟨b3,0,none⟩ 0)=some (Β sw)/\V.cell? (Addr.add ⟨b3,0,none⟩ 1)=some (Β p.proto)/\V.cell? (Addr.add ⟨b3,0,none⟩ 2)=some (Β p.src)/\V.cell? (Addr.add ⟨b3,0,none⟩ 3)=some (Β y)/\R):=by
   intro V R k1 k2 k3 hR;obtain⟨q1,q2,q3,q4⟩:=aj V k3;exact Et k1 ⟨by rw[gJ,k2.cell];rfl,by rw[gJ,k1.cell];rfl,by rw[k2.cell];rfl,q1,q2,q3,q4,hR⟩
  have ck4:∀(V:θ) (R:Prop),Row V g0 (gQ p.tos p.id p.off p.ttl p.proto p.src p.dst p.df p.mf o d)->Row V b3 [Β sw,Β p.proto,Β p.src,Β y]->R->
    VJ (gQ p.tos p.id p.off p.ttl p.proto p.src p.dst p.df p.mf o d) V ⟨g0,0,none⟩ 0 (V.cell? (Addr.add ⟨b3,0,none⟩ 0)=some (Β sw)/\V.cell? (Addr.add ⟨b3,0,none⟩ 1)=some (Β p.proto)/\V.cell? (Addr.add ⟨b3,0,none⟩ 2)=some (Β p.src)/\V.cell? (Addr.add ⟨b3,0,none⟩ 3)=some (Β y)/\R):=by
   intro V R k1 k3 hR;obtain⟨q1,q2,q3,q4⟩:=aj V k3;exact Et k1 ⟨q1,q2,q3,q4,hR⟩
  have isrc:0<=p.src/\p.src<=4294967295:=by
   have:=(qC hc0).1.2.1.1;unfold kU at this;omega
  have ira:In64 p.dst:=by
   have:=(qC hc0).1.2.1.2;unfold kU at this;unfold In64;omega
  have irp:In64 (if p.proto=1 then 0 else z):=by unfold In64;split<;>omega
  have dlaw:∀dd:Int,(Full c e sw p.proto y dd\/(p.proto=6/\dd=8)\/(p.proto=1/\dd=9))->(p.proto=6\/ND e sw p.proto p.src y p.dst (if p.proto=1 then 0 else z))->Law c sw p->Full c e sw 17 (wordAt p.data 0:Int) dd/\ND e sw 17 p.src (wordAt p.data 0:Int) p.dst (wordAt p.data 2:Int):=by
   intro dd aF hn hL;obtain⟨au,q2,_⟩:=an hL;refine⟨?_,bn rfl (hn.resolve_left (by omega)) hL⟩;rcases aF with h|h|h
   ·rw[au,q2] at h;exact h
   ·omega
   ·omega
  have aG:∀V,Ext J V->jT (some ⟨a.x,0,none⟩) sw p.proto p.src y p.dst (if p.proto=1 then 0 else z) p.tos p.id p.off p.ttl p.proto p.src p.dst p.df p.mf o d V λr258 r259 r260 r261 r262 r263 r264 r265 w266=>Al w266 (.cells ⟨amW⟩ 115) λa268 w267=>VJ (gQ p.tos p.id p.off p.ttl p.proto p.src p.dst p.df p.mf o d) w267 ⟨g0,0,none⟩ 0 (w267.cell? (Addr.add ⟨b2,0,none⟩ 2)=some (Β z)/\w267.cell? (Addr.add ⟨g0,0,none⟩ 6)=some (Β p.dst)/\w267.cell? ⟨b2,0,none⟩=some (Β p.proto)/\
     w267.cell? (Addr.add ⟨b3,0,none⟩ 0)=some (Β sw)/\w267.cell? (Addr.add ⟨b3,0,none⟩ 1)=some (Β p.proto)/\w267.cell? (Addr.add ⟨b3,0,none⟩ 2)=some (Β p.src)/\w267.cell? (Addr.add ⟨b3,0,none⟩ 3)=some (Β y)/\h_ (QA r258 r259 r260 r261 r262 r263 r264) w267 a268 0 λw269=>J122 a268 r265 w269):=by
   intro V hV;have zV:=hV.size;refine Ρ (h.ext (I.trans hV)) hg hm p (ho.ext (I.trans hV)) (hd.ext (I.trans hV)) h1 h2 ae am isrc ⟨ix.1,ix.2⟩ ira irp ?_ ?_
   ·intro dd W aF hn hx;refine gy λg Y Z aw ax f11=> ?_;have O:=hV.trans (hx.trans f11);refine ck _ _ (r1A.ext O) (rpA.ext O) (ag.ext O) ?_;refine StN_f Z λN ao f12 z12=> ?_;have zx:=hx.size;exact aR N g dd (O.nw f12) (dlaw dd aF hn)
   ·intro W a' e' bd sid kn nx hf hE hG ah ar ab ay;have zx:=hf.size;refine gy λg Y Z aw ax f11=> ?_;have av:gV J Y (iZ a):=((hV _).trans hf λ_ _ q=>q).ext f11;have n1:∀b,iZ a b->b≠g0/\b≠b2/\b≠b3:=λb hb=>by have:=aq b hb;omega
    refine ck _ _ (r1A.fr av λhb=>(n1 _ hb).1 rfl) (rpA.fr av λhb=>(n1 _ hb).2.1 rfl) (ag.fr av λhb=>(n1 _ hb).2.2 rfl) ?_;refine StN_f Z λN ao f12 z12=> ?_;have n2:∀k b,own a' k b->b<W.heap.size:=hE.lt;have aH:¬iZ a' g:=λ⟨k,hk⟩=>by have:=n2 k _ hk;omega
    have hE2:=(hE.ext f11).fr f12 λk b hb he=>aH ⟨k,he ▸ hb⟩;exact aT N g a' e' bd sid nx kn (by omega) (by omega) (av.trans f12 λb hb he=>by omega) hE2 hG (λb hb=>(ah b hb).imp id λq=>by omega) aH ar ab ay ao
  have ak:∀V g,Ext J V->J.heap.size<=g->Row V g (QA 0 false 0 false 0 0 0)->jT (some ⟨a.x,0,none⟩) sw p.proto p.src y p.dst (if p.proto=1 then 0 else z) p.tos p.id p.off p.ttl p.proto p.src p.dst p.df p.mf o d V λr272 r273 r274 r275 r276 r277 r278 r279 w280=>h_ (QA r272 r273 r274 r275 r276 r277 r278) w280 ⟨g,0,none⟩ 0 λw281=>J122 ⟨g,0,none⟩ r279 w281:=by
   intro V g hV bA hr;have zV:=hV.size;have ltg:=hr.lt;refine Ρ (h.ext (I.trans hV)) hg hm p (ho.ext (I.trans hV)) (hd.ext (I.trans hV)) h1 h2 ae am isrc ⟨ix.1,ix.2⟩ ira irp ?_ ?_
   ·intro dd W aF hn hx;refine StN_f (hr.ext hx) λN ao f12 z12=> ?_;have zx:=hx.size;exact aR N g dd ((hV.trans hx).nw f12) (dlaw dd aF hn)
   ·intro W a' e' bd sid kn nx hf hE hG ah ar ab ay;have zx:=hf.size;have av:gV J W (iZ a):=(hV _).trans hf λ_ _ q=>q;have ng:¬iZ a g:=λhb=>by have:=aq _ hb;omega
    refine StN_f (hr.fr hf ng) λN ao f12 z12=> ?_;have aH:¬iZ a' g:=λhb=>by
     rcases ah _ hb with hb|hb
     ·exact ng hb
     ·omega
    have hE2:=hE.fr f12 λk b hb he=>aH ⟨k,he ▸ hb⟩;exact aT N g a' e' bd sid nx kn (by omega) bA (av.trans f12 λb hb he=>by omega) hE2 hG (λb hb=>(ah b hb).imp id λq=>by omega) aH ar ab ay ao
  have xd:=Ext.drew J;have r1d:=r1A.drew;have rpd:=rpA.drew;have r10d:=ag.drew;refine Ld_i 0 sw r10d (Ld_i 1 p.proto r10d (Ld_i 2 p.src r10d (Ld_i 3 y r10d ?_)));refine Ld_i 0 p.proto rpd (Ld_i 6 p.dst r1d (Ld_i 2 z rpd ?_));refine kJ r1d ⟨?_,?_⟩
  ·refine cmS13 (Ql _ _ _ _) ?_;rintro _ _ V ⟨rfl,rfl,fV⟩;have xV:=xd.trans fV;refine ck4 _ _ (r1A.ext xV) (ag.ext xV) ⟨aG V xV,?_⟩;refine gy λg Y Z aw ax f11=> ?_;have O:=xV.trans f11;have zV:=xV.size;refine ck _ _ (r1A.ext O) (rpA.ext O) (ag.ext O) ?_;exact ak Y g O (by omega) Z
  ·refine gy λg Y Z aw ax f11=> ?_;have O:=xd.trans f11;have zV:=xd.size;refine ck _ _ (r1A.ext O) (rpA.ext O) (ag.ext O) ?_;refine cmS13 (Ql _ _ _ _) ?_;rintro _ _ V ⟨rfl,rfl,fV⟩;have xV:=O.trans fV;refine ck4 _ _ (r1A.ext xV) (ag.ext xV) ?_;exact ak V g xV (by omega) (Z.ext fV)
 clear_value J8;refine cmS0 (xQ (h.ext x2)) ?_;rintro q w3 ⟨rfl,hw⟩;subst hw;rw[adp,aaT];refine cmS0 (QM (h.ext x2) sw) ?_;rintro q w3 ⟨rfl,hw⟩;subst hw;by_cases ae:Uh c sw;rotate_left
 ·rw[adn ae,afa,aaU];exact hJ8t _ (Ext.refl _) λhh=>ae hh.1
 rw[aeJ ae,adp,aaT];refine kJ r1 ?_;refine cmS0 (XU p (ho.ext x2) (hd.ext x2) h1 h2) ?_;rintro q w3 ⟨rfl,f3⟩;by_cases hc0:p.check=0;rotate_left
 ·rw[adn hc0];exact hJ8t w3 f3 λhh=>hc0 hh.2.1.2.1
 cases hq:(!p.mf && decide (p.off<=0))
 ·rw[Bool.and_false];refine hJ8t w3 f3 λhh=> ?_;obtain⟨_,⟨_,_,g2,g3,_⟩,_⟩:=hh;rw[g2,aeJ g3] at hq;cases hq
 ·rw[aeJ hc0];exact hJ8f w3 f3 ae hc0
end Go.Proofs.EN
end
section
namespace Go.Proofs.EN
open Gp Gp.V4 Go.Proofs Go.Proofs.AN Go.Proofs.VN
open Gp.Bind (Bnd Slots live GoodB freeN getS In64)
open Gp.Ses (Ses)
open Gp.Wh (Tm)
variable {w w':θ} {a:EA} {c:Cf} {e:ES}
def hop (now:Nat) (t:Int):Nat:=if (if (1099511627776:Int)<t then 1099511627776 else t)>(now:Int) then (if (1099511627776:Int)<t then 1099511627776 else t).toNat else now
theorem ako (now:Nat) (t:Int):(if (if (1099511627776:Int)<t then 1099511627776 else t)>(now:Int) then (if (1099511627776:Int)<t then 1099511627776 else t) else (now:Int))=(hop now t:Int):=by
 unfold hop;split<;>split<;>omega
theorem ajc {now:Nat} (h:now<=2^40) (t:Int):now<=hop now t/\hop now t<=2^40:=by
 unfold hop;split<;>(try split)<;>omega
theorem ad1 (h:lH w a c e) {j:Nat} {b:Bnd} (hb:e.S[j]? =some (some b)) {K:Bool->b_}
  (hK:∀r w',Ext w w'->(r=true->b.st=false/\SN.zH e.SS (j:Int)=[])->K r w'):
  sD (some ⟨a.x,0,none⟩) (j:Int) w K:=by
 apply Hf;have I:getS e.S (j:Int)=some b:=Gp.Bind.kY.2 ⟨by omega,by trivial⟩;refine gy λq w1 r1 e1 z1 f1=> ?_;have h1:=h.ext f1;refine jM.2 (ig (by rw[gJ];exact h1.c2) ?_);refine cmS14 (Dq h1.db _) ?_;rintro a1 a2 a3 a4 a5 a6 a7 a8 r w2 ⟨rfl,hr,f2⟩;rw[I] at hr;obtain⟨rfl,rfl,rfl,rfl,rfl,rfl,rfl,rfl⟩:=hr;refine gy λt w3 r3 e3 z3 f3=> ?_;refine gU r3 rfl rfl λw4 r4 f4' z4=> ?_;have f4:=f4' _ rfl;have zf1:=f1.size;have zf2:=f2.size;have zf3:=f3.size;have N:=(f2.trans f3).new f4 λy hy e=>by omega
 have x4:=f1.trans N;have O:=r1.ext N;have h4:=h.ext x4;intro J;have hJ:∀s,(s=false->b.st=false)->J s:=by
  intro s hs;simp -zeta only[J]
  cases s
  rotate_left
  ·rw[aaU];refine gY O rfl (by simp) λw5 r5 f5' z5=> ?_;have f5:=f5' _ rfl;refine gZ r5 rfl ?_;exact hK _ w5 (x4.new f5 λy hy e=>by omega) λh=>by cases h
  rw[aaT];refine jM.2 (ig (by rw[gJ];exact h4.c3) ?_);refine cmS4 (acf w4 _ _) ?_;rintro v w5 ⟨f5,g0,g1,rfl,p0,p1,_⟩;have h5:=h4.ext f5;have u:=O.ext f5;have hla:kT none w5=w5.heap.size+1:=rfl;have hz:=f5.size;have lt1:=u.lt;refine X6 (SN.ahL c.ns.toNat e.SS e.M a.T g0 g1 (j:Int)) (λi W=>i=0/\Ext w5 W) (λx W=>x= .ret/\SN.zH e.SS (j:Int)≠[]/\Row W q [.bool false]/\Ext w W) (by simp) (λW f _=>⟨rfl,f⟩) ?_ ?_ ?_ ?_ ?_ ?_ ?_ ?_
  ·rintro i W ⟨_,hx⟩;exact⟨p0.ext hx,p1.ext hx,h5.se.ext hx⟩
  ·rintro i W W' ⟨hi,hx⟩ hf;exact⟨hi,(hx.fr hf).new λb hb he=>by omega⟩
  ·rintro x W W' ⟨k1,k2,k3,k4⟩ hf;exact⟨k1,k2,k3.fr hf (by omega),(k4.fr hf).new λb hb he=>by omega⟩
  ·simp_all
  ·rintro i x W Kb hx ⟨_,hI⟩ hlt hn hj;refine⟨trivial,?_⟩;have R:Ext w5 (gu W (kT none w5)):=(hI.fr (gV.gu W _)).new λb hb he=>by omega
   refine gY (u.ext R) rfl (by simp) λw6 r6 f6' z6=> ?_;have f6:gV (gu W (kT none w5)) w6 (·=q):=f6' _ rfl;refine hj .ret w6 (·=q) f6 (λy hy=>by omega) ⟨rfl,?_,r6,((x4.trans f5).trans R).new f6 λy hy e=>by omega⟩;intro h0;rw[h0] at hx;trivial
  ·rintro W ⟨h0,hx⟩ hm;have h0:SN.zH e.SS (j:Int)=[]:=by
    unfold SN.yS at h0;simp_all
   refine gY (u.ext hx) rfl (by simp) λw6 r6 f6' z6=> ?_;have f6:=f6' _ rfl;have fp:=gV.mF w6 w5.heap.size (.deferred none);have hzx:=hx.size;refine⟨?_,gZ (r6.fr fp (by omega)) rfl ?_⟩
   ·have:=f6.same w5.heap.size (akl.1 (hm rfl)).1 (by omega);exact this.trans (hm rfl)
   exact hK _ _ ((((x4.trans f5).trans hx).new f6 λy hy e=>by omega).new fp λb hb he=>by omega) λ_=>⟨hs rfl,h0⟩
  ·rintro W ⟨_,k2,k3,k4⟩ hm;refine⟨hm rfl,?_⟩;have fp:=gV.mF W w5.heap.size (.deferred none);refine gZ (k3.fr fp (by omega)) rfl ?_;exact hK _ _ ((k4.fr fp).new λb hb he=>by omega) λh=>by cases h
  ·rintro id W ⟨h,_⟩;cases h
 clear_value J;rw[I,ajX,adp,aaT];refine gZ r4 rfl ?_;exact hJ _ λh=>h
theorem ahK {S:Gp.Ses.Slots} {j:Int} (h:SN.zH S j=[]) {k:Nat} {s:Ses} (hs:S[k]? =some (some s)):s.bd≠j:=by
 intro e;have:((k:Int),s)∈SN.zH S j:=alv.2 ⟨Gp.Ses.jL.2 ⟨k,hs,by omega⟩,by simpa using e⟩
 simp_all
structure Adv (c:Cf) (e:ES) (D:List Tm) (i:Nat) (e1:ES):Prop where
 inv:Inv c e1
 rest:e1.now=e.now/\e1.l=e.l/\e1.wn=e.wn/\e1.tn=e.tn
 ss:∀(k:Nat) (s:Ses),e1.SS[k]? =some (some s)↔e.SS[k]? =some (some s)/\∀t∈D.take i,t.id≠(k:Int)
 sb:∀(k:Nat) (s:Ses),e1.SS[k]? =some (some s)->∃(j:Nat) (b:Bnd),s.bd=(j:Int)/\e1.S[j]? =some (some b)
 old:∀(j:Nat) (b:Bnd),e1.S[j]? =some (some b)->e.S[j]? =some (some b)
 cnt:(Gp.Ses.live 0 e1.SS).length+i=(Gp.Ses.live 0 e.SS).length
theorem Adv.step {D:List Tm} {i:Nat} {e1:ES} (h:Adv c e D i e1) {t:Tm} (hi:D[i]? =some t) {k:Nat} {s:Ses} (hk:t.id=(k:Int)) (hs:e1.SS[k]? =some (some s)) {j:Nat} {b:Bnd} (hj:s.bd=(j:Int)) (hb:e1.S[j]? =some (some b))
  {S:Slots} {Mi Mo:ByteArray->Option Int} {Q:List Int} {G:List (PN.O3×Unit)} {M:ByteArray->Option Int} {rest:Prop}
  (hS:S=e1.S\/(S=e1.S.set j none/\SN.zH (e1.SS.set k none) (j:Int)=[]))
  (hI:Inv c {e1 with S:=S,Mi:=Mi,Mo:=Mo,Q:=Q,G:=G,SS:=e1.SS.set k none,M:=M}):
  Adv c e D (i+1) {e1 with S:=S,Mi:=Mi,Mo:=Mo,Q:=Q,G:=G,SS:=e1.SS.set k none,M:=M}:=by
 have hkl:=(aeK.1 hs).1;have u:=(aeK.1 hi).1;have I:=(aeK.1 hi).2;have gs:∀(k':Nat) (s':Ses),(e1.SS.set k none)[k']? =some (some s')↔k'≠k/\e1.SS[k']? =some (some s'):=by
  grind
 refine⟨hI,h.rest,λk' s'=> ?_,λk' s' h'=> ?_,λj' b' h'=> ?_,?_⟩
 ·show (e1.SS.set k none)[k']? =_↔_;rw[gs,h.ss,aj3 u,I]
  grind
 ·have h2:=h';obtain⟨n1,n2⟩:=(gs k' s').1 h2;obtain⟨j',b',q1,q2⟩:=h.sb k' s' n2;refine⟨j',b',q1,?_⟩;show S[j']? =_;rcases hS with rfl|⟨rfl,h0⟩
  ·exact q2
  ·rw[akJ,ada]
   ·exact q2
   ·intro e;exact ahK h0 h2 (by omega)
 ·have h2:=h';rcases hS with rfl|⟨rfl,_⟩
  ·exact h.old _ _ h2
  ·rw[akJ] at h2;split at h2
   ·split at h2<;>cases h2
   ·exact h.old _ _ h2
 ·have:=Gp.Ses.ku 0 hs;have h3:=h.cnt
  grind
theorem Inv.ss (h:Inv c e) (SS:Gp.Ses.Slots) (M:ByteArray->Option Int):Inv c {e with SS:=SS,M:=M}:=⟨h.ql,h.cn,h.gv,h.mp⟩
end Go.Proofs.EN
end
section
namespace Go.Proofs.EN
open Gp Gp.V4 Go.Proofs Go.Proofs.AN Go.Proofs.VN
open Gp.Bind (Bnd Slots live GoodB freeN getS In64)
open Gp.Ses (Ses)
open Gp.Wh (Tm)
variable {w w':θ} {a:EA} {c:Cf} {e:ES}
structure Kv (e e':ES) (T:Nat):Prop where
 now:e'.now=T
 tn:e'.tn=e.tn
 SS:∀(k:Nat) (s:Ses),e'.SS[k]? =some (some s)↔e.SS[k]? =some (some s)/\(T:Int)<s.un
 S:∀(j:Nat) (b:Bnd),e'.S[j]? =some (some b)->e.S[j]? =some (some b)
theorem aaj {l:WN.PL} {T:Nat}:∀{D:List Tm},D.Pairwise WN.ltT->(∀t,t∈D->lC l t.id=some t/\t.a<=T)->(D.map Tm.id).Nodup
 |[],_,_=>List.nodup_nil
 |t::D,hp,hm=>by
  rw[amJ] at hp;rw[ajU,alT];refine⟨λhx=> ?_,aaj hp.2 λu hu=>hm u (alm _ hu)⟩;obtain⟨u,hu,he⟩:=akR.1 hx;have h1:=(hm u (alm _ hu)).1;have h2:=(hm t (alQ)).1;rw[he,h2] at h1;have h1:t=u:=by simpa using h1
  subst h1;have:=hp.1 t hu;unfold WN.ltT at this;omega
theorem agU (hg:Gd c e) (N:∀id t,lC e.l id=some t->t.id=id) {D:List Tm} {T:Nat} (hT:T<=2^40) (hD:∀t,t∈D↔lC e.l t.id=some t/\t.a<=T) {l':WN.PL} (hl':∀id t,lC l' id=some t↔lC e.l id=some t/\T<t.a) (hlen:l'.length+D.length=e.l.length) {F} {e1:ES}
  (h:Adv c {e with now:=T,l:=l',wn:=T,F:=F} D D.length e1):Gd c e1/\Kv e e1 T:=by
 obtain⟨n1,n2,n3,n4⟩:=h.rest;have n2:e1.l=l':=n2;have J:∀(k:Nat) (s:Ses),e1.SS[k]? =some (some s)↔e.SS[k]? =some (some s)/\(T:Int)<s.un:=by
  intro k s;rw[h.ss,akY];show e.SS[k]? =_/\_↔_;refine and_congr_right λhs=> ?_;obtain⟨t,ht⟩:=hg.st k s hs;obtain⟨k2,s2,q1,q2,q3⟩:=hg.ts _ t ht;have:k2=k:=by omega
  subst this;rw[hs] at q2;have:s=s2:=by simpa using q2
  subst this;have I:=N _ _ ht;constructor
  ·intro hn;have:¬t.a<=T:=λO=>hn t ((hD t).2 ⟨by rw[I];exact ht,O⟩) I;omega
  ·intro hlt u hu R;obtain⟨g1,g2⟩:=(hD u).1 hu;rw[R,ht] at g1;have:t=u:=by simpa using g1
   subst this;omega
 refine⟨⟨h.inv,h.sb,λid t ht=> ?_,λk s hs=> ?_,?_,n3.trans n1.symm,by rw[n1];exact hT⟩,⟨n1,n4,J,λj b hb=>h.old j b hb⟩⟩
 ·rw[n2] at ht;obtain⟨q1,q2⟩:=(hl' id t).1 ht;obtain⟨k,s,g1,g2,g3⟩:=hg.ts id t q1;exact⟨k,s,g1,(J k s).2 ⟨g2,by omega⟩,g3⟩
 ·obtain⟨q1,q2⟩:=(J k s).1 hs;obtain⟨t,ht⟩:=hg.st k s q1;obtain⟨k2,s2,g1,g2,g3⟩:=hg.ts _ t ht;have:k2=k:=by omega
  subst this;rw[q1] at g2;have:s=s2:=by simpa using g2
  subst this;exact⟨t,by rw[n2];exact(hl' _ t).2 ⟨ht,by omega⟩⟩
 ·have h1:=h.cnt;have h2:=hg.lc;have h1:(Gp.Ses.live 0 e1.SS).length+D.length=(Gp.Ses.live 0 e.SS).length:=h1;rw[n2];omega
theorem aa6 (h:lH w a c e) (hg:Gd c e) (t:Int) {K:Int->b_}
  (hK:∀r w' a' e',gV w w' (iZ a)->lH w' a' c e'->Gd c e'->Grow a a' w.heap.size->a'.x=a.x->Kv e e' (hop e.now t)->K r w'):
  nS (some ⟨a.x,0,none⟩) t w K:=by
 apply Gl;refine cmS0 (xQ h) ?_;rintro r w1 ⟨rfl,hw⟩;subst hw;rw[adp,aaT];refine jM.2 (ig (k:= .int .i64) (y:=(e.now:Int)) (by rw[gJ];exact h.c41) (jM.2 ?_));rw[ako];refine gY (i:=41) h.hd rfl (by simp[h.cf.len]) λw2 r2 f2' z2=> ?_;have f2:gV w1 w2 (·=a.x):=f2' _ rfl;have hd2:(([.pointer (some ⟨a.p,0,none⟩),.pointer (some ⟨a.qb,0,none⟩),.pointer (some ⟨a.B.d,0,none⟩),.pointer (some ⟨a.T.d,0,none⟩),.pointer (some ⟨a.d,0,none⟩)]:List Value)++c.C++([Β (e.now:Int)]:List Value)).set 41 (Β (hop e.now t:Int))=([.pointer (some ⟨a.p,0,none⟩),.pointer (some ⟨a.qb,0,none⟩),.pointer (some ⟨a.B.d,0,none⟩),.pointer (some ⟨a.T.d,0,none⟩),.pointer (some ⟨a.d,0,none⟩)]:List Value)++c.C++([Β (hop e.now t:Int)]:List Value):=by
  rw[alS _ _ (by simp[h.cf.len]),ahY,h.cf.len];rfl
 rw[hd2] at r2;have h2:=(h.ala f2 r2).ext (Ext.drew w2);refine jM.2 (ig (k:= .ptr) (y:=some ⟨a.d,0,none⟩) (by rw[gJ];exact h2.c4) (jM.2 (ig (k:= .int .i64) (y:=(hop e.now t:Int)) (by rw[gJ];exact h2.c41) ?_)));obtain⟨hp0,hp1⟩:=ajc hg.le t;have hT:hop e.now t=max e.wn (min (hop e.now t:Int) 1099511627776).toNat:=by rw[hg.wn];omega
 refine cmS2 (WN.aaK h2.wh (hop e.now t:Int) hT) ?_;generalize hop e.now t=T at *;rintro r w3 ⟨f3,D,ak,hD,hr,am,ss,l',F,ws,hl',hlen,ae,an⟩;have hD:∀t,t∈D↔lC e.l t.id=some t/\t.a<=T:=hD;have hl':∀id t,lC l' id=some t↔lC e.l id=some t/\T<t.a:=hl';have hlen:l'.length+D.length=e.l.length:=hlen;have hw2:w2.drew.heap.size=w1.heap.size:=z2;have h3:=h2.setW f3 ws λx hx=>ae x hx;have ao:=aaj ak λt ht=>(hD t).1 ht;have U:Grow a {a with ss:=ss} w1.heap.size:=Vd λx hx=>by rw[<- hw2];exact ae x hx
 have aq:=hr.len;rw[ahc] at aq;have f13:gV w1 w3 (iZ a):=((f2.mono λy hy=>⟨0,hy⟩).ext (Ext.drew _)).trans f3 λy _ hy=>⟨5,hy⟩;have Y:∀b,fU.at r b->¬iZ {a with ss:=ss} b:=by
  rintro b hb ⟨k,hk⟩;have hge:=am b hb;have J:=h.lt
  match k,hk with
  |0,hk=>have:=J 0 b hk;omega
  |1,hk=>have:=J 1 b hk;omega
  |2,hk=>have:=J 2 b hk;omega
  |3,hk=>have:=J 3 b hk;omega
  |4,hk=>have:=J 4 b hk;omega
  |5,hk=>exact an b hb hk
 refine gI (λst W=>∃(i:Nat) (a1:EA) (e1:ES),st.2.1=(i:Int)/\i<=D.length/\Adv c {e with now:=T,l:=l',wn:=T,F:=F} D i e1/\lH W a1 c e1/\(∀b,iZ a1 b->iZ {a with ss:=ss} b)/\a1.x=a.x/\iQ 1 WN.eI W r (D.map Tm.id)/\gV w1 W (iZ a)/\w3.heap.size<=W.heap.size)
  (λst _=>D.length - st.2.1.toNat) ⟨0,{a with ss:=ss},_,rfl,Nat.zero_le _,⟨?_,⟨rfl,rfl,rfl,rfl⟩,λk s=>by simp,λk s hs=>hg.sb k s hs,λj b hb=>hb,rfl⟩,h3,λb hb=>hb,rfl,hr,f13,ai8 _⟩ ?_
 ·exact⟨hg.inv.ql,hg.inv.cn,hg.inv.gv,hg.inv.mp⟩
 rintro⟨gone,iz,⟨⟩⟩ W ⟨i,a1,e1,af,hi,hA,hE,N,ab,ag,ah,hzW⟩ next Z
 dsimp only at af;subst af;dsimp -zeta only;by_cases J:i<D.length;rotate_left
 ·rw[show decide ((i:Int)<(r.len:Int))=false by rw[adn];omega,aaT];have:i=D.length:=by omega
  subst this;obtain⟨q1,q2⟩:=agU hg (λid t ht=>(h.wh.wi.pl id t ht).1) hp1 hD hl' hlen hA;exact hK _ W a1 e1 ah hE q1 (λb hb=>U b (N b hb)) ab q2
 have ar:decide ((i:Int)<(r.len:Int))=true:=by rw[aeJ];omega
 simp -zeta only[ar,aaU];obtain⟨tm,aa⟩:∃tm,D[i]? =some tm:=⟨_,ade J⟩;intro ac;have au:tm∈D:=akK aa;obtain⟨av,hle⟩:=(hD tm).1 au;obtain⟨k,s,hk,aw,_⟩:=hg.ts _ _ av;have O:e1.SS[k]? =some (some s):=by
  rw[hA.ss];refine⟨aw,λu hu hue=> ?_⟩;have:(D.take (i+1)).map Tm.id=(D.take i).map Tm.id++[tm.id]:=by
   rw[aj3 J,alz,(aeK.1 aa).2];rfl
  have hn:((D.take (i+1)).map Tm.id).Nodup:=ao.sublist ((List.take_sublist _ _).map _);rw[this,al4] at hn;exact hn.2.2 u.id (akR.2 ⟨u,hu,rfl⟩) tm.id (akU.2 rfl) (by omega)
 obtain⟨j,b,hj,hb⟩:=hA.sb k s O;have ai:Gp.Ses.getS e1.SS (k:Int)=some s:=Gp.Ses.kY.2 ⟨by omega,by rw[ab3];exact O⟩;have hJ:∀(g:Int) (W':θ) (a2:EA) (e2:ES),Adv c {e with now:=T,l:=l',wn:=T,F:=F} D (i+1) e2->lH W' a2 c e2->(∀b,iZ a2 b->iZ a1 b)->a2.x=a1.x->gV W W' (iZ a1)->ac g W':=by
  intro g W' a2 e2 q1 q2 q3 q4 q5;simp -zeta only[ac];have hi2:ο.wrap ((i:Int)+1)=((i+1:Nat):Int):=by
   rw[Α (by omega) (by have:=h.wh.mo;omega)];rfl
  rw[hi2];refine Z _ _ ⟨i+1,a2,e2,rfl,J,q1,q2,λb hb=>N b (q3 b hb),q4.trans ab,ag.fr q5 λb hb ho=>Y b hb (N b ho),ah.trans q5 λb hb ho=> ?_,by have:=q5.size;omega⟩ (by simp only;omega);rcases U b (N b ho) with hh|hh
  ·exact hh
  ·omega
 clear_value ac;have aj:∀x:Int,(WN.eI x).length=1:=λ_=>rfl;obtain⟨ra,ax,ay⟩:=(iQ.sl aj (by omega) ag).at_ aj (by omega) (i:=i) (x:=tm.id) (by rw[aiN,aa];rfl);refine⟨ra,ax,by omega,by omega,?_⟩;refine ig (k:= .int .i64) (y:=(k:Int)) (by rw[ab3];exact ay 0 _ (by rw[hk];rfl)) ?_;rw[<- ab];refine jM.2 (ig (k:= .ptr) (y:=some ⟨a1.T.d,0,none⟩) (by rw[gJ];exact hE.c3) ?_);refine cmS15 (SN.ZM hE.se _) ?_;rintro b1 b2 b3 b4 b5 _ w4 ⟨rfl,hR,f4⟩;rw[ai] at hR;obtain⟨rfl,rfl,rfl,rfl,rfl⟩:=hR;refine gy λq w5 r5 e5 z5 f5=> ?_;refine StN_f r5 λw6 r6 f6 z6=> ?_;have zf4:=f4.size;have x6:Ext W w6:=(f4.trans f5).nw f6;have hE6:=hE.ext x6;refine jM.2 (ig (k:= .ptr) (y:=some ⟨a1.T.d,0,none⟩) (by rw[gJ];exact hE6.c3) ?_);refine cmS0 (SN.VB hE6.se _) ?_;rintro _ w7 ⟨rfl,f7,A',S',M',hT',hd',R,hS'⟩;rw[ai,ajX,aeH rfl,ab3] at hS';subst hS';have hE7:=hE6.ah4 f7 hT' hd' (λx hx=> .inl (R x hx)) (λx hx=>alc (hE6.lt 4 x (R x hx)) f7.size);have f17:gV W w7 (iZ a1):=(x6 _).trans f7 λy _ hy=>⟨4,hy⟩;have az:¬SN.fp a1.T q:=λhq=>by have:=hE.lt 4 q hq;omega
 have r7:=r6.fr f7 az;have I:∀x,iZ {a1 with T:=A'} x->iZ a1 x:=by
  rintro x ⟨n,hn⟩
  match n,hn with
  |0,hn=>exact⟨0,hn⟩
  |1,hn=>exact⟨1,hn⟩
  |2,hn=>exact⟨2,hn⟩
  |3,hn=>exact⟨3,hn⟩
  |4,hn=>exact⟨4,R x hn⟩
  |5,hn=>exact⟨5,hn⟩
 refine gZ (k:= .int .i64) (i:=0) (x:=(j:Int)) r7 (by rw[<- hj];rfl) ?_;have hb7:({e1 with SS:=e1.SS.set k none,M:=M'}:ES).S[j]? =some (some b):=hb;refine ad1 (a:={a1 with T:=A'}) hE7 hb7 λlo w8 f8 aA=> ?_;have hE8:=hE7.ext f8;have r8:=r7.ext f8
 cases lo
 ·rw[aaT];exact hJ _ w8 _ _ (hA.step (rest:=True) aa hk O hj hb (.inl rfl) (hA.inv.ss _ _)) hE8 I rfl (f17.ext f8)
 ·rw[aaU];refine gZ (k:= .int .i64) (i:=0) (x:=(j:Int)) r8 (by rw[<- hj];rfl) ?_;obtain⟨_,h0⟩:=aA rfl;refine Vo (a:={a1 with T:=A'}) hE8 (hA.inv.ss _ _) (λx hx=>absurd (h0 ▸ hx) (by simp)) hb7 λw9 a2 Mi Mo Q G SS M l F f9 hE9 hI9 _ _ hx9 hn=> ?_;obtain⟨rfl,rfl,rfl,rfl,rfl⟩:=hn h0;exact hJ _ w9 _ _ (hA.step (rest:=True) aa hk O hj hb (.inr ⟨rfl,h0⟩) hI9) hE9 I rfl ((f17.ext f8).trans f9 λy _ hy=>I y hy)
end Go.Proofs.EN
end
section
namespace Gp.V4
theorem XG (t:Nat):fold (t+(65535 - fold t))=65535:=by
 unfold fold
 grind
theorem aiB {n:Int} (h:jc n 2):0<=n/\n<65536:=⟨h.2.1,by have:=h.2.2;trivial⟩
theorem agI (p:lV) {s:Nat} (hs:s<65536):tot (p.head s)=tot (p.head 0)+s:=by
 rw[head_eq,head_eq];simp only[tot,amy];omega
theorem aeo (p:lV):fold (tot (p.head p.sum))=65535:=by
 rw[agI p (by unfold lV.sum;omega)];exact XG _
theorem ae8 {p:lV} (h:p.fine):((p.bits % 8192 * 8:Nat):Int)=p.off/\(p.bits / 16384 % 2==1)=p.df/\(p.bits / 8192 % 2==1)=p.mf:=by
 obtain⟨_,_,⟨h1,h2,h3,_⟩,_⟩:=h;rw[alu h1] at h3;unfold lV.bits
 grind
theorem ab5 {p:lV} (h:p.check=0) (more:List UInt8):qR (p.bytes++more) false=0/\field (p.bytes++more)=p/\hlen (p.bytes++more)=20+p.opts.length:=by
 obtain⟨hf,hs⟩:=qC h;have hb:=acs hf;have hbo:=ae8 hf;obtain⟨⟨f1,f2,f3,f4⟩,⟨r1,r2⟩,⟨o1,o2,o3,o4⟩,p1,p2⟩:=id hf;have f1:=Qz f1;have f2:=Qz f2;have f3:=Qz f3;have f4:=aiB f4;obtain⟨r11,r12⟩:=r1;obtain⟨r21,r22⟩:=r2;obtain⟨s1,s2⟩:=hs;have hsum:p.sum<65536:=by unfold lV.sum;omega
 have e:p.bytes++more=p.head p.sum++(p.data++more):=by simp[lV.bytes]
 rw[e];have hl:=Ob p p.sum;have hh:hlen (p.head p.sum++(p.data++more))=20+p.opts.length:=by
  rw[head_eq];simp only[hlen,alr,aeI,alf,amy];omega
 have hv:ver (p.head p.sum++(p.data++more))=4:=by
  rw[head_eq];simp only[ver,alr,aeI,alf,amy];omega
 have n2:num (p.head p.sum++(p.data++more)) 2 2=20+p.opts.length+p.data.length:=by
  rw[head_eq];simp[num,nY];omega
 have n6:num (p.head p.sum++(p.data++more)) 6 2=p.bits:=by
  rw[head_eq];simp[num,nY];omega
 have u:field (p.head p.sum++(p.data++more))=p:=by
  unfold field;rw[hh,n2,n6];have a1:((num (p.head p.sum++(p.data++more)) 1 1:Nat):Int)=p.tos:=by
   rw[head_eq];simp[num,nY];omega
  have a2:((num (p.head p.sum++(p.data++more)) 4 2:Nat):Int)=p.id:=by
   rw[head_eq];simp[num,nY];omega
  have a3:((num (p.head p.sum++(p.data++more)) 8 1:Nat):Int)=p.ttl:=by
   rw[head_eq];simp[num,nY];omega
  have a4:((num (p.head p.sum++(p.data++more)) 9 1:Nat):Int)=p.proto:=by
   rw[head_eq];simp[num,nY];omega
  have a5:((num (p.head p.sum++(p.data++more)) 12 4:Nat):Int)=p.src:=by
   rw[head_eq];simp[num,nY];omega
  have a6:((num (p.head p.sum++(p.data++more)) 16 4:Nat):Int)=p.dst:=by
   rw[head_eq];simp[num,nY];omega
  have a7:((p.head p.sum++(p.data++more)).take (20+p.opts.length)).drop 20=p.opts:=by
   rw[<- hl,List.take_left',head_eq]<;>simp
  have a8:((p.head p.sum++(p.data++more)).take (20+p.opts.length+p.data.length)).drop (20+p.opts.length)=p.data:=by
   rw[<- hl,List.take_append,List.drop_append];simp
  simp_all
 refine⟨?_,u,hh⟩;unfold qR;have ho:mW (p.head p.sum++(p.data++more)) false=0:=by
  unfold mW
  grind
 have ht:(p.head p.sum++(p.data++more)).take (20+p.opts.length)=p.head p.sum:=by simp_all
 rw[ho,hh,u,ht,aeo,h];simp
end Gp.V4
end
section
namespace Go.Proofs.RN
open Gp Gp.V4 Go.Proofs.VN
theorem agw {m:Nat} (hm:m<2^62) (w:θ):FN (m:Int) w λr w'=>r=(fold m:Int)/\w'=w:=by
 apply WR;have h0:¬((m:Int)<0):=by omega
 simp only[h0,acQ,aaT];refine gI (λst W=>W=w/\∃x:Nat,x<2^62/\st.1=(x:Int)/\fold x=fold m) (λst _=>st.1.toNat) ⟨rfl,m,hm,rfl,rfl⟩ ?_;rintro⟨x,⟨⟩⟩ W ⟨rfl,n,hn,rfl,hf⟩ next u
 by_cases I:65535<n
 ·have h:((n:Int)>65535):=by omega
  simp only[h,ace,aaU];refine⟨by omega,by omega,?_⟩;rw[alu (by omega),amd (by omega),Α (n:=(n:Int) / 65536) (by omega) (by omega),Α];exact u _ _ ⟨rfl,n % 65536+n / 65536,by omega,by rfl,by rw[XH I,hf]⟩ (by omega)
 ·have h:¬((n:Int)>65535):=by omega
  simp only[h,acQ,aaT];exact⟨by rw[<- hf,Uc (by omega)],by trivial⟩
theorem ait {w:θ} {s:fU} {l:List UInt8} (h:iD w s l) (hl:l.length<=2^46) {j:Nat} (hj:j<l.length):FM s (j:Int) w λr w'=>r=(wordAt l j:Int)/\Ext w w':=by
 apply WQ;have hsl:=h.1;rw[Α];obtain⟨a,ha,hc⟩:=h.at_ (ade hj);have hb:=l[j].toNat_lt;by_cases h2:j+1<l.length
 ·have h2':((j:Int)+1<(s.len:Int)):=by omega
  simp only[h2',ace,aaU];obtain⟨a',ha',hc'⟩:=h.at_ (ade h2);have hb':=l[j+1].toNat_lt;refine⟨a,ha,by omega,by omega,?_⟩;rw[ab3];simp only[sx,iF,iK,aiG];rw[show w.drew.cell? (a.add j)=w.cell? (a.add j) from rfl,hc];simp only[f_,gq];refine⟨a',ha',by omega,by omega,?_⟩;rw[show ((j:Int)+1).toNat=j+1 by omega];simp only[aiG];rw[show w.drew.cell? (a'.add (j+1))=w.cell? (a'.add (j+1)) from rfl,hc'];simp only[f_,gq];refine⟨?_,Ext.drew w⟩;unfold wordAt;rw[ade hj,ade h2];simp only[alf];rw[Α (n:=(l[j].toNat:Int)) (by omega) (by omega),Α (n:=(l[j+1].toNat:Int)) (by omega) (by omega),Α (n:=(l[j].toNat:Int) * 256) (by omega) (by omega),Α];omega
 ·have h2':¬((j:Int)+1<(s.len:Int)):=by omega
  simp only[h2',acQ,aaT];refine⟨a,ha,by omega,by omega,?_⟩;rw[ab3];simp only[sx,iF,iK,aiG,hc];refine⟨?_,Ext.refl w⟩;unfold wordAt;rw[ade hj,aml (by omega)];rw[Α (n:=(l[j].toNat:Int)) (by omega) (by omega),Α];simp
theorem acY {w:θ} {s:fU} {ps:List (fU×List UInt8)} (hs:Parts w s ps) (hn:ps.length<=64) (hl:∀p∈ps,p.2.length<=2^40):
  Di s w λr w'=>r=(fold (rY ps):Int)/\Ext w w':=by
 apply Zk;have hsl:=hs.1;refine gI (λst W=>∃i:Nat,i<=ps.length/\st.2.1=i/\st.1=(rY (ps.take i):Int)/\Ext w W) (λst _=>ps.length - st.2.1.toNat) ⟨0,by omega,rfl,by simp[rY],Ext.refl _⟩ ?_;rintro⟨n,x,⟨⟩⟩ W ⟨i,hi,rfl,rfl,hx⟩ next J
 by_cases hlt:i<ps.length
 ·have u:((i:Int)<(s.len:Int)):=by omega
  simp only[u,ace,aaU];generalize hp:ps[i]=p;have O:ps[i]? =some p:=by simp_all
  have hpl:=hl p (akK O);have h0:=ac5 hn hl i;have h0':=hs.fr hx;refine gI (λst W'=>∃j:Nat,j<=(p.2.length+1) / 2/\st.2.1=((2 * j:Nat):Int)/\st.1=((rY (ps.take i)+tot (p.2.take (2 * j)):Nat):Int)/\Ext w W') (λst _=>p.2.length+1 - st.2.1.toNat) ⟨0,by omega,rfl,by simp[tot],hx⟩ ?_;rintro⟨n,x,⟨⟩⟩ W' ⟨j,hj,rfl,rfl,hx'⟩ next' I
  obtain⟨b,o,ha,hc,hb⟩:=(hs.fr hx').2 i p O;refine⟨_,ha,by omega,by omega,?_⟩;have hpl2:=hb.1;simp only[sx,iF,iK,ab3,aiG,hc];by_cases N:2 * j<p.2.length
  ·have h:(((2 * j:Nat):Int)<(p.1.len:Int)):=by omega
   simp only[h,ace,aaU];refine⟨_,ha,by omega,by omega,?_⟩;simp only[sx,iF,iK,ab3,aiG,hc];refine cmS1 (ait hb (by omega) N) ?_;rintro _ w2 ⟨rfl,f2⟩;have:=EY p.2 (2 * j);have h3:=VA (p.2.take (2 * j));have h4:65535 * (p.2.take (2 * j)).length<=65535 * 2^40:=Nat.mul_le_mul_left _ (by simp;omega);rw[Α,Α];refine I _ _ ⟨j+1,by omega,by rfl,?_,hx'.trans f2⟩ (by grind);rw[aaG _ N];omega
  ·have h:¬(((2 * j:Nat):Int)<(p.1.len:Int)):=by omega
   simp only[h,acQ,aaT];rw[Α,akM (l:=p.2) (by omega)];exact J _ _ ⟨i+1,by omega,by simp,by rw[X9 O],hx'⟩ (by grind)
 ·have u:¬((i:Int)<(s.len:Int)):=by omega
  simp only[u,acQ,aaT];have:i=ps.length:=by omega
  subst this;rw[akY];refine cmS1 (agw (aaE hn hl) W) ?_
  grind
theorem agx {w:θ} {s:fU} {ps:List (fU×List UInt8)} (hs:Parts w s ps) (hn:ps.length<=64) (hl:∀p∈ps,p.2.length<=2^40):
  FP s w λr w'=>r=((65535 - fold (rY ps):Nat):Int)/\Ext w w':=by
 apply ϸ;refine cmS1 (acY hs hn hl) ?_;rintro _ w1 ⟨rfl,f1⟩;have:=N_ (rY ps);exact⟨by rw[Α];omega,f1⟩
theorem aem {w:θ} {s:fU} {ps:List (fU×List UInt8)} (hs:Parts w s ps) (hn:ps.length<=64) (hl:∀p∈ps,p.2.length<=2^40):
  DX s w λr w'=>r=decide (fold (rY ps)=65535)/\Ext w w':=by
 apply UW;refine cmS1 (acY hs hn hl) ?_
 grind
theorem QI (n:Int) (w:θ):yG n w λr w'=>r=decide (kU n)/\w'=w:=by
 apply UY;by_cases h1:n>=0
 ·have h1':=h1;simp[h1',kU]
 ·have h1':=h1;simp[h1',kU]
theorem agn (k:Nat) (hk:k<=7) (w:θ):Dh (k:Int) w λr w'=>r=((256^k:Nat):Int)/\w'=w:=by
 apply Zj;refine gI (λst W=>W=w/\∃i:Nat,i<=k/\st.2.1=i/\st.1=((256^i:Nat):Int)) (λst _=>k - st.2.1.toNat) ⟨rfl,0,by omega,rfl,rfl⟩ ?_;rintro⟨n,j,⟨⟩⟩ W ⟨rfl,i,hi,rfl,rfl⟩ next u
 by_cases hlt:i<k
 ·have h:((i:Int)<(k:Int)):=by omega
  simp only[h,ace,aaU];have hp:(256:Nat)^(i+1)<=256^7:=al6 (by omega) (by omega);have e:(256:Nat)^7=72057594037927936:=by decide
  have e2:((256^i:Nat):Int) * 256=((256^(i+1):Nat):Int):=by rfl
  rw[e2];have I:=u (((256^(i+1):Nat):Int),((i+1:Nat):Int),()) W ⟨rfl,i+1,by omega,rfl,rfl⟩ (by grind);generalize 256^(i+1)=q at hp I ⊢;rw[Α,Α];exact I
 ·have h:¬((i:Int)<(k:Int)):=by omega
  simp only[h,acQ,aaT]
  grind
theorem Cb (n k:Int) (w:θ):mY n k w λr w'=>r=decide (jc n k)/\w'=w:=by
 apply WO;by_cases h1:k>=1
 ·by_cases h2:k<=4
  ·by_cases h3:n>=0
   ·simp only[h1,h2,h3,ace,aaU];obtain⟨m,rfl⟩:∃m:Nat,k=(m:Int):=⟨k.toNat,by omega⟩;refine cmS1 (agn m (by omega) w) ?_;rintro r w' ⟨rfl,rfl⟩;have hs:kV (m:Int):=⟨h1,h2⟩;refine⟨?_,by trivial⟩;have h3':=h3;simp[jc,hs,h3']
   ·have:¬jc n k:=λh=>h3 h.2.1;simp[h1,h2,h3,this]
  ·have:¬jc n k:=λh=>h2 h.1.2;simp[h1,h2,this]
 ·have:¬jc n k:=λh=>h1 h.1.1;simp[h1,this]
theorem ah0 {w:θ} {s:fU} {l:List UInt8} (h:iD w s l) (hl:l.length<=2^62) (at_ k:Int):Ic s at_ k w λn e w'=>w'=w/\ML l at_ k n e:=by
 apply Zh;unfold ML;have hlen:=h.1;by_cases h1:k<1
 ·have c:¬kV k\/at_<0:= .inl λx=>by have:=x.1;omega
  simp only[h1,ace,aaU]
  simp_all
 by_cases h2:k>4
 ·have c:¬kV k\/at_<0:= .inl λx=>by have:=x.2;omega
  simp only[h1,h2,ace,acQ,aaU,aaT]
  simp_all
 by_cases h3:at_<0
 ·have c:¬kV k\/at_<0:= .inr h3;simp only[h1,h2,acQ,aaU,aaT];rw[show decide (at_<0)=true by simp[h3]];simp only[aaU]
  simp_all
 have hk:kV k:=⟨by omega,by omega⟩;have c:¬(¬kV k\/at_<0):=by rintro(h|h)<;>contradiction
 simp only[ada c];rw[show decide (k<1)=false by simp[h1],show decide (k>4)=false by simp[h2],show decide (at_<0)=false by simp[h3]];simp only[aaT];rw[Α];by_cases h4:at_>(s.len:Int) - k
 ·rw[show decide (at_>(s.len:Int) - k)=true by simp[h4]];simp only[aaU]
  grind
 rw[show decide (at_>(s.len:Int) - k)=false by simp[h4]];simp only[aaT];obtain⟨m,rfl⟩:∃m:Nat,k=(m:Int):=⟨k.toNat,by omega⟩;obtain⟨o,rfl⟩:∃o:Nat,at_=(o:Int):=⟨at_.toNat,by omega⟩;simp only[ab3];refine gI (λst W=>W=w/\∃i:Nat,i<=m/\st.2.1=i/\st.1=(nY ((l.drop o).take i):Int)) (λst _=>m - st.2.1.toNat) ⟨rfl,0,by omega,rfl,rfl⟩ ?_;rintro⟨n,j,⟨⟩⟩ W ⟨rfl,i,hi,rfl,rfl⟩ next I
 by_cases hlt:i<m
 ·have u:((i:Int)<(m:Int)):=by omega
  simp only[u,ace,aaU];rw[Α];have J:o+i<l.length:=by omega
  obtain⟨a,ha,hc⟩:=h.at_ (ade J);refine⟨a,ha,by omega,by omega,?_⟩;have eo:((o:Int)+(i:Int)).toNat * 1=o+i:=by omega
  rw[eo];simp only[sx,iF,iK,hc];have hb:=l[o+i].toNat_lt;have N:i<(l.drop o).length:=by simp;omega
  have hn2:nY ((l.drop o).take i)<2^32:=Uw (by simp;omega);rw[Α (n:=(nY ((l.drop o).take i):Int) * 256) (by omega) (by omega),Α (n:=((l[o+i].toNat:Nat):Int)) (by omega) (by omega),Α,Α];refine I _ _ ⟨rfl,i+1,by omega,by simp,?_⟩ (by grind);have e:=Ux (l.drop o) N
  simp_all
 ·have u:¬((i:Int)<(m:Int)):=by omega
  simp only[u,acQ,aaT];have:i=m:=by omega
  subst this;exact⟨by trivial,by rw[ada (by omega)];trivial⟩
theorem ae6 {k n i:Nat} (h:i<k):(jY k n).take (i+1)=(jY k n).take i++[UInt8.ofNat (n / 256^(k - 1 - i))]:=by
 have hl:i<(jY k n).length:=by rw[iT];exact h
 rw[aj3 hl];have:=Ym k n i h
 simp_all
theorem JZ {w:θ} {s:fU} {l:List UInt8} (hs:iD w s l) (hl:l.length+4<=2^46) (n k:Int) (hn:n<2^62):
  jg s n k w λr w'=>Buf w' r (bytesV (lU l n k))/\Ext w w'/\(∀b,fU.at r b->w.heap.size<=b):=by
 apply Zi;refine jv (l:=[]) Buf.nil hs (by simp;omega) λr w1 b1 f1 n1 _=> ?_;have x1:=f1.new λb _ ⟨o,h⟩=>by cases h
 have y1:∀b,fU.at r b->w.heap.size<=b:=λb hb=>by
  rcases n1 b hb with ⟨o,h⟩|h
  ·cases h
  ·exact h
 rw[alJ] at b1;refine cmS0 (Cb n k w1) ?_;rintro _ _ ⟨rfl,rfl⟩;by_cases hf:jc n k
 ·simp only[hf,ace,adp,aaT];obtain⟨hk1,hk2⟩:=hf.1;have hn0:=hf.2.1;obtain⟨m,rfl⟩:∃m:Nat,k=(m:Int):=⟨k.toNat,by omega⟩;obtain⟨z,rfl⟩:∃z:Nat,n=(z:Int):=⟨n.toNat,by omega⟩;refine gI (λst W=>∃i:Nat,i<=m/\st.2.1=(m:Int) - 1 - i/\Buf W st.1 (bytesV (l++(jY m z).take i))/\Ext w W/\(∀b,fU.at st.1 b->w.heap.size<=b)) (λst _=>(st.2.1+1).toNat)
   ⟨0,by omega,by rw[Α];simp,by simpa using b1,x1,y1⟩ ?_
  rintro⟨t,x,⟨⟩⟩ W ⟨i,hi,hx,h1,h2,h3⟩ next u
  simp only at hx h1 h3;by_cases I:i<m
  ·have hx0:x>=0:=by omega
   simp only[hx0,ace,aaU];obtain⟨j,rfl⟩:∃j:Nat,x=(j:Int):=⟨x.toNat,by omega⟩;have hj:j=m - 1 - i:=by omega
   refine cmS1 (agn j (by omega) W) ?_;rintro _ _ ⟨rfl,rfl⟩;have hp:0<256^j:=Nat.pow_pos (by omega);refine⟨by omega,by omega,gy λc w3 r3 e3 z3 f3=> ?_⟩;have e:IntKind.u8.wrap (Int.tmod (ο.wrap (Int.tdiv (z:Int) ((256^j:Nat):Int))) 256)=(((UInt8.ofNat (z / 256^j)).toNat:Nat):Int):=by
    rw[amd (by omega),<- amr];have:z / 256^j<=z:=Nat.div_le_self _ _;generalize z / 256^j=q at this ⊢;rw[Α,alu (by omega),IntKind.wrap_u8];simp
   rw[e] at r3;have hx3:iD w3 ⟨some ⟨c,0,none⟩,1,1⟩ [UInt8.ofNat (z / 256^j)]:= .iG (iD.row (l:=[UInt8.ofNat (z / 256^j)]) (by simpa [bytesV] using r3));refine jv (h1.ext f3) hx3 (by simp;omega) λs' w4 b4 f4 p4 _=> ?_;rw[Α];refine u _ _ ⟨i+1,by omega,by grind,?_,(h2.trans f3).new f4 λb hb h=>by grind,λb hb=> ?_⟩ (by simp)
   ·rw[ae6 I,<- hj,<- akc];exact b4
   ·have:=h2.size
    grind
  ·have hx0:¬x>=0:=by omega
   simp only[hx0,acQ,aaT];have:i=m:=by omega
   subst this;rw[akM (by rw[iT];omega)] at h1;exact⟨by simpa [lU,hf] using h1,h2,h3⟩
 ·simp only[hf,acQ,afa,aaU];exact⟨by simpa [lU,hf] using b1,x1,y1⟩
end Go.Proofs.RN
end
