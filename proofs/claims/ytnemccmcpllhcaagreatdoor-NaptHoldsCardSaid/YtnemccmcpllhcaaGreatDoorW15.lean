import Derived.Test.YtnemccmcpllhcaaGreatDoorW14
set_option maxRecDepth 100000
set_option maxHeartbeats 4000000
section
namespace Go.Proofs.AN
open Gp Gp.V4 Go.Proofs Go.Proofs.VN
open Gp.Bind (In64)
section
variable {w0 w w':θ}
def evN (n:Int):Value:= .int .i64 n
theorem afq (s0:fU) (x0 x1 x2 x3 x4 x5 x6:Int) (x7 x8:Bool) (x9:fU) (N:Int) {d:fU} {m:List UInt8} (hd:h_ w d m) (hm:m.length<=2^40):
  r_ s0 x0 x1 x2 x3 x4 x5 x6 x7 x8 x9 d N w λr w'=>(r= -1\/(0<=r/\r+2<=m.length))/\Ext w w':=by
 apply Gj;refine gu λa w1 r1 e1 z1 f1=> ?_;refine WN.Me (enc:=WN.RY) (ev:=evN) λw2 g2 z2 f2=> ?_;have O:a≠w1.heap.size:=by have:=r1.lt;omega
 refine Ag (ev:=evN) g2 WN.eqW 17 6 (WN.aaw _) λw3 g3 f3 z3=> ?_;refine Ag (ev:=evN) g3 WN.eqW 6 16 (WN.aaw _) λw4 g4 f4 z4=> ?_;refine Ag (ev:=evN) g4 WN.eqW 1 2 (WN.aaw _) λw5 g5 f5 z5=> ?_;have f35:gU w2 w5 (·=w1.heap.size):=(f3.trans f4 λ_ _ h=>h).trans f5 λ_ _ h=>h;have s1:=f1.size;have x5:Ext w w5:=(f1.trans f2).nw f35;have r5:=(r1.ext f2).fr f35 O;have hd5:=hd.ext x5;refine iU (k:= .int .i64) (y:=x4) (by rw[gJ,gJ,r5.cell];rfl) ?_;have key:∀(v:Int),(v=6\/v=16\/v=2\/v=0)->(let u:Bool->b_:=λR I=>(bif R then ((-1:Int)= -1\/(0<=(-1:Int)/\(-1:Int)+2<=(m.length:Int)))/\Ext w I else (v= -1\/(0<=v/\v+2<=(m.length:Int)))/\Ext w I)
   Ld .slice w5 (Addr.add (Addr.add ⟨a,0,none⟩ 1) 10) λU=>(bif (decide ((ο.wrap (v+2))>(U.len:Int))) then u true w5 else
    Ld ν w5 (Addr.add (Addr.add ⟨a,0,none⟩ 1) 4) λY=>(bif (Y==17) then
     tX w5 ⟨a,0,none⟩ λZ aa ab ac ae af ag ah ai aj ak am an=>jL Z aa ab ac ae af ag ah ai aj ak am an v w5 λao aq=>u (ao==0) aq
    else u false w5))):=by
  intro v hv;intro J;refine iU (k:= .slice) (y:=d) (by rw[gJ,gJ,r5.cell];rfl) ?_;rw[Α];have hl:=hd.1;by_cases c1:v+2>(d.len:Int)
  ·rw[ab9 c1,Δ];exact⟨.inl rfl,x5⟩
  rw[abW c1,Β];have hJ:∀q W,Ext w W->J q W:=by
   intro q W hx;simp only[J]
   cases q
   ·exact⟨.inr ⟨by omega,by omega⟩,hx⟩
   ·exact⟨.inl trivial,hx⟩
  clear_value J;refine iU (k:= .int .i64) (y:=x4) (by rw[gJ,gJ,r5.cell];rfl) ?_
  cases (x4==17)
  ·exact hJ _ _ x5
  ·rw[Δ];refine Pe r5 ?_;refine cmS1 (N7 _ _ _ _ _ _ _ _ _ _ _ _ hd5 hm v) ?_;rintro n w6 ⟨_,f6⟩;exact hJ _ _ (x5.trans f6)
 refine Gz (k:= .int .i64) g5 WN.eqW x4 (WN.aaw _) (λ_=>key 0 (by omega)) (λb hb=> ?_);have hb':b=6\/b=16\/b=2\/b=0:=by
  rw[Cc] at hb;split at hb
  ·cases hb;omega
  rw[Cc] at hb;split at hb
  ·cases hb;omega
  rw[Cc] at hb;split at hb
  ·cases hb;omega
  ·cases hb
 exact key b hb'
theorem chs {pc:Nat} {cs:List Ch} (hr:Row w pc (cs.flatMap chV)):lD 3 chV w ⟨some ⟨pc,0,none⟩,cs.length,cs.length⟩ cs:=(iY.row (n:=3) (f:=chV) hr).sl abk (by omega)
theorem abw {s d:fU} {l m:List UInt8} (hs:h_ w s l) (hl:l.length<=2^40) (hd:h_ w d m) (x0 x1 x2 x3 x4 x5 x6:Int) (x7 x8:Bool) (x9:fU) {h:Int} (h20:20<=h) (hm8:8<=m.length) (hml:h+(m.length:Int)<=l.length)
  (aa pa an n:Int) (ha:aa=12\/aa=16) (hpa:pa=0\/pa=2):
  oK s x0 x1 x2 x3 x4 x5 x6 x7 x8 x9 d h aa pa an n w λr w'=>(∃L:List UInt8,h_ w' r L/\L.length<=2^40)/\Ext w w':=by
 apply Iy;refine gu λa w1 r1 e1 z1 f1=> ?_;intro J;have hJ:∀q,q=0\/q=2\/q=4->J q:=by
  intro q hq;simp only[J];refine Ld_s 0 s r1 ?_;refine cmS19 (Rz (hs.ext f1) hl aa an 4 (by omega) (by omega) (by omega)) ?_;rintro c0 c1 c2 w2 ⟨⟨hc0,⟨m1,hm1,lm1⟩,m2,hm2,lm2⟩,f2⟩;have hc0:=hc0.symm;subst hc0;refine gu λb w3 r3 e3 z3 f3=> ?_;refine StN_f r3 λw4 r4 f4 z4=> ?_;have R:Ext w2 w4:=f3.nw f4;have g4:=f2.trans R;have U:=r1.ext g4;have x4':=f1.trans g4;refine Ld_s 0 s U (Ld_i 12 h U ?_);rw[Α (n:=h+q) (by omega) (by omega)];refine cmS19 (Rz (hs.ext x4') hl (h+q) n 2 (by omega) (by omega) (by omega)) ?_;rintro d0 d1 d2 w5 ⟨⟨rfl,⟨m3,hm3,lm3⟩,m4,hm4,lm4⟩,f5⟩;refine gu λk w6 r6 e6 z6 f6=> ?_;refine StN_f r6 λw7 r7 f7 z7=> ?_;have I:Ext w5 w7:=f6.nw f7;have g7:=f5.trans I;have x7':=x4'.trans g7;have Y:=U.ext g7;have N:=r4.ext g7;have C1:abZ w7 l.length (aa,c1,c2):=⟨by show 0<=aa;omega,by show aa<l.length;omega,⟨m1,(hm1.ext R).ext g7,lm1⟩,m2,(hm2.ext R).ext g7,lm2⟩;have C2:abZ w7 l.length (h+q,d1,d2):=⟨by show 0<=h+q;omega,by show h+q<l.length;omega,⟨m3,hm3.ext I,lm3⟩,m4,hm4.ext I,lm4⟩;refine Ld_s 0 s Y ?_;refine Ld_i 0 aa N (Ld_s 1 c1 N (Ld_s 2 c2 N ?_));refine gu λpc w8 r8 e8 z8 f8=> ?_;have x8':=x7'.trans f8;refine cmS2 (YV (cs:=[(aa,c1,c2)]) (hs.ext x8') hl 10 (by omega) (by omega) (chs (cs:=[(aa,c1,c2)]) r8) (by simp) (by
   intro c hc;simp only[aiB] at hc;subst hc;exact C1.ext f8)) ?_
  rintro o1 w9 ⟨⟨L1,B1,hL1⟩,f9,n9⟩;have Z:=f8.trans f9;have x9':=x7'.trans Z;have ak:=Y.ext Z;refine Pe ak ?_;refine cmS1 (afq _ _ _ _ _ _ _ _ _ _ _ _ (hd.ext x9') (by omega)) ?_;rintro r O ⟨hr,f10⟩;have x710:=Z.trans f10;have u:=x7'.trans x710;have r110:=Y.ext x710;have r410:=N.ext x710;have r710:=r7.ext x710;have ab:Buf O o1 (bytesV L1):=B1.fr (f10 λ_=>False) (by simp);rcases hr with rfl|⟨hr0,hr1⟩
  ·
   rw[show ((-1:Int)== -1)=true from rfl,Δ];have ac:=Ext.drew O;refine Ld_i 0 (h+q) r710.drew ?_;have Bd:Buf O.drew o1 (bytesV L1):=ab.fr (ac λ_=>False) (by simp);refine abm (src:=d2) Bd (by omega) (by omega) λs17 am=> ?_;refine Ld_s 2 d2 r710.drew ?_;refine am O.drew m4 _ Bd (((hm4.ext I).ext x710).ext ac) λnn ah L' hL' ao f11=> ?_;have hn9:=x8'.size;exact⟨⟨L',h_.iG ao,by omega⟩,(u.trans ac).new f11 λy hy hb=>by have:=n9 y hb;omega⟩
  have aq:(r== -1)=false:=by rw[akJ];omega
  rw[aq,Β];refine Ld_i 12 h r110 ?_;refine iU (k:= .int .i64) (y:=x4) (by rw[gJ,gJ,r110.cell];rfl) ?_;have ar:ο.wrap (r+h)=r+h:=Α;rw[ar];by_cases h1:(x4==1)=true
  ·rw[h1,Δ];refine Ld_i 0 (h+q) r710 (Ld_s 1 d1 r710 (Ld_s 2 d2 r710 ?_));refine gu λpc2 ah ae au av f11=> ?_;refine cmS2 (YV (cs:=[(h+q,d1,d2)]) ((h_.iG ab).ext f11) (by omega) (r+h) (by omega) (by omega) (chs (cs:=[(h+q,d1,d2)]) ae) (by simp) (by
    intro c hc;simp only[aiB] at hc;subst hc;rw[hL1];exact(C2.ext x710).ext f11)) ?_
   rintro o2 aw ⟨⟨L2,B2,hL2⟩,f12,n12⟩;exact⟨⟨L2,h_.iG B2,by omega⟩,(u.trans f11).trans f12⟩
  ·have h1:(x4==1)=false:=by simpa using h1
   rw[h1,Β];refine Ld_i 0 aa r410 (Ld_s 1 c1 r410 (Ld_s 2 c2 r410 ?_));refine Ld_i 0 (h+q) r710 (Ld_s 1 d1 r710 (Ld_s 2 d2 r710 ?_));refine gu λpc2 ah ae au av f11=> ?_;refine cmS2 (YV (cs:=[(aa,c1,c2),(h+q,d1,d2)]) ((h_.iG ab).ext f11) (by omega) (r+h) (by omega) (by omega) (chs (cs:=[(aa,c1,c2),(h+q,d1,d2)]) ae) (by simp) (by
    intro c hc;rw[hL1];simp only[afm,ajp,ajV] at hc;rcases hc with rfl|rfl
    ·exact(C1.ext x710).ext f11
    ·exact(C2.ext x710).ext f11)) ?_
   rintro o2 aw ⟨⟨L2,B2,hL2⟩,f12,n12⟩;have ai:=(u.trans f11).trans f12;have r112:=(r110.ext f11).ext f12;refine cmS8 (OC (h_.iG B2) (by omega) (r+h) 2) ?_;rintro g e af ⟨hw,_⟩;subst hw;have hf:(∃L:List UInt8,h_ af o2 L/\L.length<=2^40)/\Ext w af:=⟨⟨L2,h_.iG B2,by omega⟩,ai⟩;have ht:yx o2 (r+h) 65535 2 af λax _ aj=>(∃L:List UInt8,h_ aj ax L/\L.length<=2^40)/\Ext w aj:=by
    refine cmS7 (Ur (h_.iG B2) (by omega) (r+h) 65535 2) ?_;rintro o3 e3 w14 ⟨ag,f14,_⟩;have ay:=(QW (l:=L2) (by unfold iZ kP;refine⟨by omega,by omega,?_⟩;have:(2:Int).toNat=2:=rfl;rw[this];omega) (by omega) (by omega) ag).2;refine⟨⟨_,h_.iG ay,?_⟩,ai.trans f14⟩;have h2:(2:Int).toNat=2:=rfl;rw[h2];simp only[adH,ahP,aj0,iQ];omega
   cases (g==0)
   ·exact hf
   ·rw[Δ];refine iU (k:= .int .i64) (y:=x4) (by rw[gJ,gJ,r112.cell];rfl) ?_
    cases (x4==17)
    ·exact hf
    ·exact ht
 clear_value J;refine iU (k:= .int .i64) (y:=x4) (by rw[gJ,gJ,r1.cell];rfl) ?_
 cases (x4==1)
 ·exact hJ _ (by omega)
 ·exact hJ _ (by omega)
end
end Go.Proofs.AN
end
section
namespace Go.Proofs.AN
open Gp Gp.V4 Go.Proofs Go.Proofs.VN
open Gp.Bind (In64)
section
variable {w0 w w':θ}
theorem abJ {s:fU} {l:List UInt8} (hs:h_ w s l) (hl:l.length<=2^40) (an n:Int) {K:fU->Int->Int->Int->Int->Int->Int->Int->Bool->Bool->fU->fU->Int->Int->b_}
  (hK:∀s0 t i o l' p s' d' df mf op da hd e w' (m:List UInt8),Ext w w'->h_ w' da m->m.length<=2^40->(e=0->s0=s/\20<=hd/\hd+(m.length:Int)<=(l.length:Int)/\8<=m.length)->K s0 t i o l' p s' d' df mf op da hd e w'):BP s an n w K:=by
 apply Yh;refine gu λa w1 r1 e1 z1 f1=> ?_;refine WJ (hs.ext f1) hl λt i o l' p s' d' df mf op da x y z e w2 f2 _ _ _ _ _=> ?_;refine gu λb w3 r3 e3 z3 f3=> ?_;refine gu λk w4 r4 e4 z4 f4=> ?_;refine StN_f (r3.ext f4) λw5 r5 f5 z5=> ?_;have z1f:=f1.size;have z2f:=f2.size;have z3f:=f3.size;refine StN_f (r4.fr f5 (by omega)) λw6 r6 f6 z6=> ?_;have x6:Ext w w6:=((((f1.trans f2).trans f3).trans f4).nw f5).nw f6;have u:Ext w1 w6:=((((f2).trans f3).trans f4).nw f5).nw f6;have zr:∀(W:θ) (e:Int),Ext w1 W->e≠0->ig (nM ⟨none,0,0⟩ 0 0 0 0 0 0 0 false false ⟨none,0,0⟩ ⟨none,0,0⟩ 0) W ⟨a,0,none⟩ 0 λI=>tX I ⟨a,0,none⟩ λy0 y1 y2 y3 y4 y5 y6 y7 y8 y9 U Y Z=>K y0 y1 y2 y3 y4 y5 y6 y7 y8 y9 U Y Z e I:=by
  intro W e hW he;refine StN_f (r1.ext hW) λw2 r2 f2 z2=> ?_;refine Pe r2 ?_;exact hK _ _ _ _ _ _ _ _ _ _ _ _ _ e w2 [] ((f1.trans hW).nw f2) h_.nil (by simp) (λh=>absurd h he)
 by_cases he:e=0;rotate_left
 ·have:(e !=0)=true:=by rw[aj3];exact he
  rw[this,Δ];exact zr w6 e u he
 subst he;rw[show ((0:Int) !=0)=false from rfl,Β];have hT:∀W,Ext w1 W->ig (nM ⟨none,0,0⟩ 0 0 0 0 0 0 0 false false ⟨none,0,0⟩ ⟨none,0,0⟩ 0) W ⟨a,0,none⟩ 0 λJ=>tX J ⟨a,0,none⟩ λaa ab ac ae af ag ah ai aj ak am ao aq=>K aa ab ac ae af ag ah ai aj ak am ao aq 1 J:=λW hW=>zr W 1 hW (by omega);have hF:∀W,Ext w1 W->vZ s W λar au av aw ax ay az aA aB aC aD aE aF aG aH=>ig (nM ar au av aw ax ay az aA aB aC aD aE aF) aH ⟨a,0,none⟩ 0 λN=>tX N ⟨a,0,none⟩ λaI aJ aK aL aM aN aO aP aQ aR aS aT aU=>K aI aJ aK aL aM aN aO aP aQ aR aS aT aU aG N:=by
  intro W hW;refine Τ (hs.ext (f1.trans hW)) hl λt i o l' p s' d' df mf op da hd e w7 m f7 O hm hm8 _ _ _ s0 h0=> ?_;have R:=r1.ext (hW.trans f7);refine StN_f R λw8 r8 f8 z8=> ?_;refine Pe r8 ?_;refine hK _ _ _ _ _ _ _ _ _ _ _ _ _ e w8 m (((f1.trans hW).trans f7).nw f8) (O.fr f8 λad ha h0 e=>jW R (by simp) O ha h0 e) hm λhe=> ?_;obtain⟨g1,g2,g3⟩:=h0 he;exact⟨g1,g2,g3,hm8 he⟩
 refine cmS0 (AV an w6) ?_;rintro r w7 ⟨_,hw⟩;subst hw
 cases r
 ·exact hT w7 u
 rw[ab6,Β];refine cmS0 (rE n 2 w7) ?_;rintro r w8 ⟨_,hw⟩;subst hw
 cases r
 ·exact hT w8 u
 ·exact hF w8 u
theorem aij {s:fU} {l:List UInt8} (hs:h_ w s l) (hl:l.length<=2^40) (an n:Int):Ry s an n w λr _ w'=>(∃L:List UInt8,h_ w' r L/\L.length<=2^40)/\Ext w w':=by
 apply Z4;refine abJ hs hl an n λs0 t i o l' p s' d' df mf op da hd e w1 m f1 u hm h0=> ?_;refine gu λa w2 r2 e2 z2 f2=> ?_;refine StN_f r2 λw3 r3 f3 z3=> ?_;have h:Ext w1 w3:=f2.nw f3;by_cases he:e=0;rotate_left
 ·have:(e !=0)=true:=by rw[aj3];exact he
  rw[this,Δ];exact⟨⟨[],h_.nil,by simp⟩,f1.trans h⟩
 subst he;rw[show ((0:Int) !=0)=false from rfl,Β];obtain⟨rfl,I,J,hm8⟩:=h0 rfl;refine Pe r3 ?_;have x3:=f1.trans h;refine cmS2 (abw (hs.ext x3) hl (u.ext h) _ _ _ _ _ _ _ _ _ _ I hm8 J 16 2 an n (by omega) (by omega)) ?_;rintro r w4 ⟨hr,f4⟩;exact⟨hr,x3.trans f4⟩
theorem afb {s:fU} {l:List UInt8} (hs:h_ w s l) (hl:l.length<=2^40) (an n:Int):ML s an n w λr _ w'=>(∃L:List UInt8,h_ w' r L/\L.length<=2^40)/\Ext w w':=by
 apply Vl;refine abJ hs hl an n λs0 t i o l' p s' d' df mf op da hd e w1 m f1 u hm h0=> ?_;refine gu λa w2 r2 e2 z2 f2=> ?_;refine StN_f r2 λw3 r3 f3 z3=> ?_;have h:Ext w1 w3:=f2.nw f3;by_cases he:e=0;rotate_left
 ·have:(e !=0)=true:=by rw[aj3];exact he
  rw[this,Δ];exact⟨⟨[],h_.nil,by simp⟩,f1.trans h⟩
 subst he;rw[show ((0:Int) !=0)=false from rfl,Β];obtain⟨rfl,I,J,hm8⟩:=h0 rfl;refine Pe r3 ?_;have x3:=f1.trans h;refine cmS2 (abw (hs.ext x3) hl (u.ext h) _ _ _ _ _ _ _ _ _ _ I hm8 J 12 0 an n (by omega) (by omega)) ?_;rintro r w4 ⟨hr,f4⟩;exact⟨hr,x3.trans f4⟩
theorem aaG (k c r:Int) {s:fU} {l:List UInt8} (hs:h_ w s l) (hl:l.length<=2^40) (q:Bool) (an n:Int) {K:Int->Int->Int->fU->Int->b_}
  (hK:∀k c r s' e w' (L:List UInt8),Ext w w'->h_ w' s' L->L.length<=2^40->K k c r s' e w'):yN k c r s q an n w K:=by
 apply O4;refine gu λa w1 r1 e1 z1 f1=> ?_;refine gu λb w2 r2 e2 z2 f2=> ?_;have R:=r1.ext f2;have x2:=f1.trans f2;have za:=f1.size;have zb:=f2.size;have fin:∀(o:fU) (e:Int) (W:θ) (L:List UInt8),Ext w2 W->h_ W o L->L.length<=2^40->
   (bif (e !=0) then ig alN W ⟨b,0,none⟩ 0 λh=>Ld ν h (Addr.add ⟨b,0,none⟩ 0) λaa=>Ld ν h (Addr.add ⟨b,0,none⟩ 1) λab=>Ld ν h (Addr.add ⟨b,0,none⟩ 2) λac=>Ld .slice h (Addr.add ⟨b,0,none⟩ 3) λae=>K aa ab ac ae e h
    else St W (Addr.add ⟨a,0,none⟩ 3) (.slice o.a o.len o.cap) λu=>Ld ν u (Addr.add ⟨a,0,none⟩ 0) λU=>Ld ν u (Addr.add ⟨a,0,none⟩ 1) λY=>Ld ν u (Addr.add ⟨a,0,none⟩ 2) λZ=>Ld .slice u (Addr.add ⟨a,0,none⟩ 3) λN=>ig [.int .i64 U,.int .i64 Y,.int .i64 Z,.slice N.a N.len N.cap] u ⟨b,0,none⟩ 0 λI=>Ld ν I (Addr.add ⟨b,0,none⟩ 0) λaf=>Ld ν I (Addr.add ⟨b,0,none⟩ 1) λag=>Ld ν I (Addr.add ⟨b,0,none⟩ 2) λah=>Ld .slice I (Addr.add ⟨b,0,none⟩ 3) λai=>K af ag ah ai 0 I):=by
  intro o e W L hW ho hL
  cases (e !=0)
  rotate_left
  ·rw[Δ];refine StN_f (r2.ext hW) λw3 r3 f3 z3=> ?_;refine YZ (x3:=⟨none,0,0⟩) (K:=λy0 y1 y2 y3 W=>K y0 y1 y2 y3 e W) r3 ?_;exact hK _ _ _ _ _ w3 [] ((x2.trans hW).nw f3) h_.nil (by simp)
  rw[Β];have r1W:=R.ext hW;refine gX (i:=3) r1W rfl (by simp) λw3 r3 f3' z3=> ?_;have f3:gU W w3 (·=a):=f3' _ rfl;simp only[aho,agE] at r3;have ho3:=ho.fr f3 λad ha h0 e=>jW r1W (by simp) ho ha h0 e;refine YZ (K:=λU Y Z N W=>_) r3 ?_;have r2W:=(r2.ext hW).fr f3 (by omega);refine StN_f r2W λw4 r4 f4 z4=> ?_;refine YZ (K:=λy0 y1 y2 y3 W=>K y0 y1 y2 y3 0 W) r4 ?_;exact hK _ _ _ _ _ w4 L (((x2.trans hW).nw f3).nw f4) (ho3.fr f4 λad ha h0 e=>jW r2W (by simp) ho3 ha h0 e) hL
 intro J;have hJ:∀v,(∀Q:Value->b_,(∀(o:fU) (e:Int) W (L:List UInt8),Ext w2 W->h_ W o L->L.length<=2^40->Q (.tuple ⟨[.slice o.a o.len o.cap,.int .i64 e]⟩) W)->jB υ [.one .slice,.one ν] v [.slice s.a s.len s.cap,.int .i64 an,.int .i64 n] w2 Q)->J v:=by
  intro v hv;simp only[J];refine Ld_s 3 s R ?_;refine hv _ λo e W L hW ho hL=> ?_;exact⟨o,e,rfl,fin o e W L hW ho hL⟩
 clear_value J;have hs2:=hs.ext x2
 cases q
 ·refine hJ _ λQ hQ=> ?_;refine CN.jZ (by kernel_rfl) ?_;refine Calls.mono (aij hs2 hl an n) ?_;rintro e W' ⟨o,e',he,⟨L,hL,O⟩,hx⟩;exact⟨o,e',he,hQ o e' W' L hx hL O⟩
 ·refine hJ _ λQ hQ=> ?_;refine CN.jZ (by kernel_rfl) ?_;refine Calls.mono (afb hs2 hl an n) ?_;rintro e W' ⟨o,e',he,⟨L,hL,O⟩,hx⟩;exact⟨o,e',he,hQ o e' W' L hx hL O⟩
end
end Go.Proofs.AN
end
section
namespace Go.Proofs.EN
open Gp Gp.V4 Go.Proofs Go.Proofs.AN Go.Proofs.VN
open Gp.Bind (Bnd Slots live GoodB freeN getS In64)
open Gp.Ses (Ses)
variable {w w':θ} {a:EA} {c:Cf} {e:ES}
abbrev KV:=Int->Int->Int->Int->Int->Int->Int->Bool->Bool->fU->fU->b_
theorem YP (p:kZ) {o d:fU} (ho:h_ w o p.opts) (h1:p.opts.length<=2^40) (k1 k2 k3:Int) {s:fU} {m:List UInt8} (hs:h_ w s m) (hm:m.length<=2^40) (q:Bool) (an n:Int) {K:KV}
  (hK:∀x0 x1 x2 x3 x4 x5 x6 x7 x8 x9 J w',Ext w w'->K x0 x1 x2 x3 x4 x5 x6 x7 x8 x9 J w'):
  GV p.tos p.id p.off p.ttl p.proto p.src p.dst p.df p.mf o d k1 k2 k3 s q an n w K:=by
 apply Ye;refine gu λa w1 r1 e1 z1 f1=> ?_;refine gu λb w2 r2 e2 z2 f2=> ?_;refine gu λg w3 r3 e3 z3 f3=> ?_;have x3:=(f1.trans f2).trans f3;have za:=f1.size;have zb:=f2.size;have zc:=f3.size;have N:=(r1.ext f2).ext f3;have h:=r2.ext f3;refine YZ (K:=λx0 x1 x2 x3 W=>_) h ?_;refine aaG k1 k2 k3 (hs.ext x3) hm q an n λu0 u1 u2 s' e' w4 L f4 hL hll=> ?_;refine StN_f (h.ext f4) λw5 r5 f5 z5=> ?_;have x5:Ext w w5:=(x3.trans f4).nw f5;have hL5:h_ w5 s' L:=hL.fr f5 λad ha h0 e=>jW (h.ext f4) (by simp) hL ha h0 e;have u:=(N.ext f4).fr f5 (by omega);have O:=(r3.ext f4).fr f5 (by omega);refine Ld_s 9 o u ?_;refine cmS2 (nD (ho.ext x5) (by omega)) ?_;rintro oc w6 ⟨_,_,f6,_⟩;have I:=u.ext f6;refine gX (i:=9) I rfl (by simp) λw7 r7 f7' z7=> ?_;have f7:gU w6 w7 (·=a):=f7' _ rfl;have x7:Ext w w7:=(x5.trans f6).nw f7;have R:=(r5.ext f6).fr f7 (by omega);have U:=(O.ext f6).fr f7 (by omega);have hL7:h_ w7 s' L:=(hL5.ext f6).fr f7 λad ha h0 e=>jW I (by simp) (hL5.ext f6) ha h0 e;refine YZ (K:=λx0 x1 x2 x3 W=>_) R ?_;refine cmS7 (Wv ⟨u0,u1,u2,L⟩ hL7) ?_;rintro r e8 w8 ⟨_,_,f8,_,_⟩;have Y:=r7.ext f8;refine gX (i:=10) Y rfl (by simp) λw9 r9 f9' z9=> ?_;have f9:gU w8 w9 (·=a):=f9' _ rfl;simp only[aho,agE] at r9;have x9:Ext w w9:=(x7.trans f8).nw f9;refine lK r9 ?_;have Z:=(U.ext f8).fr f9 (by omega);refine StN_f Z λaa ab f10 z10=> ?_;refine lK ab ?_;exact hK _ _ _ _ _ _ _ _ _ _ _ aa (x9.nw f10)
theorem Zu (h:nK w a c e) (i:Int) (hi:In64 i) (p:kZ) {o d:fU} (ho:h_ w o p.opts) (h1:p.opts.length<=2^40) (k1 k2 k3:Int) {s:fU} {m:List UInt8} (hs:h_ w s m) (hm:m.length<=2^40)
  {K:Int->Int->Int->Int->Int->Int->Int->Bool->Bool->fU->fU->Int->b_}
  (hK:∀x0 x1 x2 x3 x4 x5 x6 x7 x8 x9 aa why w',Ext w w'->K x0 x1 x2 x3 x4 x5 x6 x7 x8 x9 aa why w'):
  pX (some ⟨a.x,0,none⟩) i p.tos p.id p.off p.ttl p.proto p.src p.dst p.df p.mf o d k1 k2 k3 s w K:=by
 apply D9;refine gu λg1 w1 r1 e1 z1 f1=> ?_;refine gu λg2 w2 r2 e2 z2 f2=> ?_;refine gu λg3 w3 r3 e3 z3 f3=> ?_;have x3:=(f1.trans f2).trans f3;have za:=f1.size;have zb:=f2.size;have zc:=f3.size;have O:=(r1.ext f2).ext f3;have R:=r2.ext f3;have fin:∀(W:θ) (why:Int),Ext w3 W->ig ξ W ⟨g3,0,none⟩ 0 λU=>iC U ⟨g3,0,none⟩ λy0 y1 y2 y3 y4 y5 y6 y7 y8 y9 Y=>K y0 y1 y2 y3 y4 y5 y6 y7 y8 y9 Y why U:=by
  intro W why hW;refine StN_f (r3.ext hW) λw4 r4 f4 z4=> ?_;refine lK r4 ?_;exact hK _ _ _ _ _ _ _ _ _ _ _ why w4 ((x3.trans hW).nw f4)
 refine Ld_s 3 s R ?_;refine WJ (hs.ext x3) hm λt i' o' l' p' s' dd df mf op da x y z ee w4 f4 is ix iy idd iz=> ?_;refine gu λb1 w5 r5 e5 z5 f5=> ?_;refine gu λb2 w6 r6 e6 z6 f6=> ?_;refine StN_f (r5.ext f6) λw7 r7 f7 z7=> ?_;have zd:=f5.size;have ze:=f6.size;have zf:=f4.size;refine StN_f (r6.fr f7 (by omega)) λw8 r8 f8 z8=> ?_;have x8:Ext w3 w8:=((f4.trans (f5.trans f6)).nw f7).nw f8
 cases (ee !=0)
 rotate_left
 ·exact fin w8 1 x8
 rw[Β];have xd:=x8.trans (Ext.drew w8);have hE8:=h.ext (x3.trans xd);refine kF.2 (iU (k:= .ptr) (y:=some ⟨a.B.d,0,none⟩) (by rw[gJ];exact hE8.c2) ?_);refine Ld_i 0 x r8.drew (KP (k:= .int .i64) (i:=6) (x:=dd) (r7.fr f8 (by omega)).drew rfl (Ld_i 2 z r8.drew ?_));refine cmS3 (MW hE8.db i x dd z (by
  intro n hn;simp only[afm,ajp,ajV] at hn;rcases hn with rfl|rfl|rfl|rfl
  ·exact hi
  ·exact ix
  ·exact idd
  ·exact iz)) ?_
 rintro n9 t9 w9 ⟨rfl,rfl,f9⟩;have x9:=xd.trans f9;generalize e.Mi (Bind.keyS [i,x,dd,z])=mo
 cases mo with
 |none=>
  rw[aj_,aek,Δ];exact fin w9 9 x9
 |some v=>
  rw[ajv,ab6,Β];have hE9:=h.ext (x3.trans x9);refine kF.2 (iU (k:= .ptr) (y:=some ⟨a.B.d,0,none⟩) (by rw[gJ];exact hE9.c2) ?_);refine cmS14 (Jh hE9.db _) ?_;rintro a1 a2 a3 a4 a5 a6 a7 a8 r w10 ⟨_,_,f10⟩;refine gu λb3 w11 ab e11 z11 f11=> ?_;refine StN_f ab λI J f12 z12=> ?_;have zg:=x9.size;have zh:=f10.size;have u:Ext w3 I:=((x9.trans f10).trans f11).nw f12;have r112:=O.ext u;have r212:=R.ext u;refine lK r112 ?_;refine YZ (K:=λx0 x1 x2 x3 W=>_) r212 ?_;have g5:I.cell? (Addr.add (Addr.add ⟨b3,0,none⟩ 4) 1)=some (.int .i64 a6):=by rw[gJ,gJ,J.cell];rfl
  have g6:I.cell? (Addr.add (Addr.add ⟨b3,0,none⟩ 4) 2)=some (.int .i64 a7):=by rw[gJ,gJ,J.cell];rfl
  refine iU (k:= .int .i64) (y:=a6) g5 (iU (k:= .int .i64) (y:=a7) g6 ?_);refine YP p (ho.ext (x3.trans u)) h1 _ _ _ (hs.ext (x3.trans u)) hm false a6 a7 λy0 y1 y2 y3 y4 y5 y6 y7 y8 y9 Y w13 f13=> ?_;refine StN_f (r112.ext f13) λac ae f14 z14=> ?_;have hb3:b3<I.heap.size:=J.lt;have hg1:g1<w3.heap.size:=O.lt;have hb3':w3.heap.size<=b3:=by omega
  refine iU (k:= .int .i64) (y:=a6) (by rw[gJ,gJ,((J.ext f13).fr f14 (by omega)).cell];rfl) ?_;refine gX (i:=5) ae rfl (by simp) λaf Z N z15=> ?_;have f15:gU ac af (·=g1):=N _ rfl;simp only[aho,agE] at Z;refine lK Z ?_;have r315:=(((r3.ext u).ext f13).fr f14 (by omega)).fr f15 (by omega);refine StN_f r315 λag ah f16 z16=> ?_;refine lK ah ?_;exact hK _ _ _ _ _ _ _ _ _ _ _ 0 ag (((((x3.trans u).trans f13).nw f14).nw f15).nw f16)
end Go.Proofs.EN
end
section
namespace Go.Proofs.AN
open Gp Gp.V4 Go.Proofs Go.Proofs.VN
open Gp.Bind (In64)
theorem af5 {n:Nat} (hn:n<=2^46) (w:θ):o9 ⟨none,0,0⟩ (n:Int) w λr w'=>Buf w' r (bytesV [])/\Ext w w'/\∀b,fU.at r b->w.heap.size<=b:=by
 apply Dz;rw[abW (by omega),Β];have e0:ο.wrap (((0:Nat):Int) - ((0:Nat):Int))=0:=rfl;simp -zeta only[e0];rw[show ((n:Int) - 0)=(n:Int) by omega,Α];intro J;by_cases hz:(n:Int)>0
 ·rw[ab9 hz,Δ];refine⟨by omega,by omega,by simp,?_⟩;show VJ 5 1 1 [.int .u8 0] (⟨none,0,0⟩:fU) (n:Int) w _;refine Q7 (old:=[]) (by show 0<0+n;omega) (by show (0+n) * 1<=_;omega) (by show 0+n<=_;omega) rfl λc w1 hc r1 f1 z1=> ?_;have hc:0+n<=c:=hc;refine⟨by omega,by omega,by simp,?_⟩;have h:qM (some (⟨w.heap.size,0,none⟩:Addr)) c (0:Int).toNat 1=some ⟨w.heap.size,0,none⟩:=by
   unfold qM;split<;>simp[Addr.add]
  show J ⟨qM (some (⟨w.heap.size,0,none⟩:Addr)) c (0:Int).toNat 1,0,c - 0⟩ w1;rw[h];refine⟨⟨rfl,.inr ⟨w.heap.size,gW [.int .u8 0] n++gW [.int .u8 0] (c - (0+n)),rfl,?_,by simpa [bytesV] using r1⟩⟩,f1,λb ⟨o,hb⟩=>by cases hb;exact aiq _⟩;simp only[adH,mQ,aeW,aiJ,bytesV,List.map_nil];omega
 ·rw[abW hz,Β];exact⟨Buf.nil,Ext.refl _,λb ⟨o,hb⟩=>by cases hb⟩
def Jy (ps:List (fU×List UInt8)):List UInt8:=ps.flatMap (·.2)
theorem afD {ps:List (fU×List UInt8)} {n:Nat} (h:∀p∈ps,p.2.length<=n):(Jy ps).length<=ps.length * n:=by
 induction ps with
 |nil=>simp[Jy]
 |cons p ps ih=>
  have h1:=h p (by simp);have h2:=ih λq hq=>h q (by simp[hq]);unfold Jy at h2 ⊢;rw[ajB,adH,aeW,ajD];omega
theorem VT {ps:List (fU×List UInt8)} {i:Nat} {p:fU×List UInt8} (h:ps[i]? =some p):Jy (ps.take (i+1))=Jy (ps.take i)++p.2:=by
 unfold Jy;rw[akc,h,ajT];simp
theorem abG {w:θ} {s:fU} {ps:List (fU×List UInt8)} (hs:Parts w s ps) {i:Nat} {p:fU×List UInt8} (hp:ps[i]? =some p) {K:Addr->Prop} (hK:∀a,w.cell? a=some (.slice p.1.a p.1.len p.1.cap)->h_ w p.1 p.2->K a):iF s 1 (i:Int) K:=by
 have hlt:=(ady.1 hp).1;have hl:=hs.1;obtain⟨b,o,ha,hc,hb⟩:=hs.2 i p hp;refine⟨_,ha,by omega,by omega,?_⟩;rw[Η,ahy,gJ];exact hK _ hc hb
theorem acp {w:θ} {s:fU} {ps:List (fU×List UInt8)} (hs:Parts w s ps) (hn:ps.length<=8) (hl:∀p∈ps,p.2.length<=2^40):
  nR s w λr w'=>Buf w' r (bytesV (Jy ps))/\Ext w w'/\∀b,fU.at r b->w.heap.size<=b:=by
 apply Bf;have hsl:=hs.1;have bnd:∀i,(Jy (ps.take i)).length<=2^43:=λi=>by
  have h1:=afD (ps:=ps.take i) (n:=2^40) λp hp=>hl p (alv hp);have h2:(ps.take i).length<=8:=by simp;omega
  have h3:(ps.take i).length * 2^40<=8 * 2^40:=akA _ h2;omega
 refine gK (λst W=>W=w/\∃i:Nat,i<=ps.length/\st.2.1=(i:Int)/\st.1=((Jy (ps.take i)).length:Int)) (λst _=>ps.length - st.2.1.toNat) ⟨rfl,0,by omega,rfl,by simp[Jy]⟩ ?_;rintro⟨t,x,⟨⟩⟩ W ⟨rfl,i,hi,hx,ht⟩ next I
 simp only at hx ht;subst hx ht;by_cases O:(i:Int)<(s.len:Int)
 ·rw[ab9 O,Δ];have hp:=abe (show i<ps.length by omega);generalize ps[i]'(by omega)=p at hp;refine abG hs hp λa hc hb=> ?_;simp only[VL,hc,fZ,gI];have b1:=bnd (i+1);have e1:=VT hp;have hpl:=hb.1;rw[e1,adH] at b1;rw[Α (n:=((Jy (ps.take i)).length:Int)+(p.1.len:Int)) (by omega) (by omega),abW (by omega),Β,Α];exact I _ _ ⟨rfl,i+1,by omega,by simp,by rw[e1,adH];simp only;omega⟩ (by simp only;omega)
 ·rw[abW O,Β];have b1:=bnd i;refine cmS2 (af5 (by omega) W) ?_;rintro r w1 ⟨g1,g2,g3⟩;refine gK (λst W'=>∃j:Nat,j<=ps.length/\st.2.1=(j:Int)/\Buf W' st.1 (bytesV (Jy (ps.take j)))/\(∀b,fU.at st.1 b->W.heap.size<=b)/\Ext W W') (λst _=>ps.length - st.2.1.toNat) ⟨0,by omega,rfl,by simpa [Jy] using g1,g3,g2⟩ ?_;rintro⟨u,x,⟨⟩⟩ W' ⟨j,hj,hx,hb,J,N⟩ next' h
  simp only at hx hb J;subst hx;by_cases R:(j:Int)<(s.len:Int)
  ·rw[ab9 R,Δ];have hp:=abe (show j<ps.length by omega);generalize ps[j]'(by omega)=p at hp;refine abG (hs.fr N) hp λa hc U=> ?_;simp only[VL,hc,fZ,gI];have b2:=bnd (j+1);have e1:=VT hp;rw[e1,adH] at b2;refine ji hb U (by omega) λs' w' h1 h2 h3 _=> ?_;rw[Α];have z1:=N.size;refine h _ _ ⟨j+1,by omega,by simp,by rw[e1];exact h1,λb hb'=> ?_,N.new h2 λy hy hb'=>by have:=J y hb';omega⟩ (by simp only;omega);rcases h3 b hb' with g|g
   ·exact J b g
   ·omega
  ·rw[abW R,Β];rw[aji (by omega)] at hb;exact⟨hb,N,J⟩
section
variable {w0 w w':θ}
theorem NV (t o:Int) (w:θ):qg t o w λr w'=>r=(if t= -1 then o else t)/\w'=w:=by
 apply Vk;by_cases h:t= -1
 ·subst h;exact⟨rfl,rfl⟩
 ·have:(t== -1)=false:=by rw[akJ];exact h
  rw[this,Β,Ε h];exact⟨rfl,rfl⟩
def QB (a b:Int) (L:List UInt8):List UInt8:=j_ (j_ (j_ (j_ [] a 2) b 2) (8+(L.length:Int)) 2) 0 2++L
def adp (sa da:Int) (m:List UInt8):Int:=if (65535 - fold (qN [(⟨none,0,0⟩,yh sa da 17 (m.length:Int)),(⟨none,0,0⟩,m)]):Nat)=0 then 65535 else ((65535 - fold (qN [(⟨none,0,0⟩,yh sa da 17 (m.length:Int)),(⟨none,0,0⟩,m)]):Nat):Int)
def YT (sa da a b:Int) (ns:Bool) (L:List UInt8):List UInt8:=if ns then QB a b L else (QB a b L).take 6++jX 2 (adp sa da (QB a b L)).toNat++(QB a b L).drop 8
theorem ϙ (s s':fU) (l m:List UInt8):qN [(s,l),(s',m)]=tot l+tot m:=by simp[qN]
theorem ado (a b:Int) (ns:Bool) {d:fU} {L:List UInt8} (hd:h_ w d L):He a b ns d w λr w'=>(lV a->lV b->L.length<=60000->r=0)/\(r=0->L.length<=65527)/\Ext w w':=by
 apply Yv;refine gu λp w1 r1 e1 z1 f1=> ?_;have hl:=hd.1;intro J;have u:∀W,Ext w W->¬(lV a/\lV b)->J true W:=λW hx hn=>by
  simp only[J,Δ];exact⟨λh1 h2=>absurd ⟨h1,h2⟩ hn,(λh=>by cases h),hx⟩
 have I:∀W,Ext w1 W->J false W:=λW hx=>by
  simp only[J,Β];refine Ld_s 3 d (r1.ext hx) ?_;by_cases c:(d.len:Int)>65527
  ·rw[ab9 c,Δ];exact⟨λ_ _ h=>by omega,(λh=>by cases h),f1.trans hx⟩
  ·rw[abW c,Β];exact⟨λ_ _ _=>trivial,λ_=>by omega,f1.trans hx⟩
 clear_value J;have fit:∀n:Int,iZ n 2↔lV n:=λn=>by
  unfold iZ kP;have:(2:Int).toNat=2:=rfl;rw[this];constructor
  ·rintro⟨_,h1,h2⟩;omega
  ·intro h;refine⟨by omega,by omega,by omega⟩
 refine Ld_i 0 a r1 ?_;refine cmS0 (rE a 2 w1) ?_;rintro r w2 ⟨hr,hw⟩;subst hw
 cases r
 ·rw[aek,Δ];exact u _ f1 λh=>akQ hr.symm ((fit a).2 h.1)
 rw[ab6,Β];refine Ld_i 1 b r1 ?_;refine cmS0 (rE b 2 w2) ?_;rintro r w3 ⟨hr,hw⟩;subst hw
 cases r
 ·exact u _ f1 λh=>akQ hr.symm ((fit b).2 h.2)
 ·exact I _ (Ext.refl _)
theorem adi (sa da:Int) {s:fU} {m:List UInt8} (hs:h_ w s m) (hl:m.length<=2^40):EX sa da s w λr w'=>r=adp sa da m/\Ext w w':=by
 apply VG;refine cmS2 (Jp sa da 17 _ w) ?_;rintro ps w1 ⟨h,f1⟩;have hpl:=Cm sa da 17 (s.len:Int);refine gu λp w2 r2 e2 z2 f2=> ?_;have u:=hs.1;refine cmS1 (Ti (Jo r2 (h.ext f2) ((hs.ext f1).ext f2)) (by simp) (by simp;omega)) ?_;rintro r w3 ⟨hr,f3⟩;have x3:=(f1.trans f2).trans f3;have e:r=((65535 - fold (qN [(⟨none,0,0⟩,yh sa da 17 (m.length:Int)),(⟨none,0,0⟩,m)]):Nat):Int):=by
  rw[hr,ϙ,ϙ,u]
 unfold adp;rw[e];generalize (65535 - fold (qN [(⟨none,0,0⟩,yh sa da 17 (m.length:Int)),(⟨none,0,0⟩,m)]):Nat)=q;by_cases h0:q=0
 ·subst h0;exact⟨rfl,x3⟩
 ·have:(((q:Nat):Int)==0)=false:=by rw[akJ];omega
  rw[this,Β,Ε h0];exact⟨rfl,x3⟩
theorem ag5 (sa da:Int) (m:List UInt8):1<=adp sa da m/\adp sa da m<=65535:=by
 unfold adp;split
 ·decide
 ·rename_i h;omega
theorem adn (sa da a b:Int) (ns:Bool) {d:fU} {L:List UInt8} (hd:h_ w d L) (hl:L.length<=2^40):
  G_ sa da a b ns d w λr e w'=>Ext w w'/\(lV a->lV b->L.length<=60000->e=0/\h_ w' r (YT sa da a b ns L)/\∀x,fU.at r x->w.heap.size<=x):=by
 apply Yu;refine gu λp w1 r1 e1 z1 f1=> ?_;refine Ld_i 0 a r1 (Ld_i 1 b r1 (Ld_b 2 ns r1 (Ld_s 3 d r1 ?_)));refine cmS1 (ado a b ns (hd.ext f1)) ?_;rintro ce w2 ⟨ae,af,f2⟩;have x2:=f1.trans f2;by_cases hc:ce=0;rotate_left
 ·have:(ce !=0)=true:=by rw[aj3];exact hc
  rw[this,Δ];exact⟨x2,λh1 h2 h3=>absurd (ae h1 h2 h3) hc⟩
 have hL:=af hc;subst hc;rw[show ((0:Int) !=0)=false from rfl,Β];have R:=r1.ext f2;have ag:=hd.1;refine Ld_i 0 a R (Ld_i 1 b R (Ld_s 3 d R ?_));rw[Α];refine gu λg w3 r3 e3 z3 f3=> ?_;have x3:=x2.trans f3;have f13:=f2.trans f3
 let ns4:List Int:=[a,b,8+(d.len:Int),0]
 let acc:Nat->List UInt8:=λi=>(ns4.take i).foldl (λl n=>j_ l n 2) []
 have J:∀i n,ns4[i]? =some n->acc (i+1)=j_ (acc i) n 2:=by
  intro i n hi;simp only[acc];rw[akc,hi,List.foldl_append];rfl
 have Y:∀i,(acc i).length<=2 * i:=by
  intro i
  induction i with
  |zero=>simp[acc]
  |succ i ih=>
   cases hi:ns4[i]? with
   |none=>
    simp only[acc] at ih ⊢;rw[akc,hi];simp only[Option.toList_none,ali];omega
   |some n=>
    rw[J i n hi];have:(j_ (acc i) n 2).length<=(acc i).length+2:=yj _ _ 2;omega
 refine gK (λst W=>∃i:Nat,i<=4/\st.2.1=(i:Int)/\Buf W st.1 (bytesV (acc i))/\Ext w1 W/\(∀x,fU.at st.1 x->w1.heap.size<=x)/\Ext w3 W) (λst _=>(4 - st.2.1).toNat) ⟨0,by omega,rfl,Buf.nil,f13,(λx h=>by obtain⟨o,h⟩:=h;cases h),Ext.refl _⟩ ?_;rintro⟨s,ii,⟨⟩⟩ W ⟨i,hi,Z,hb,hx,hn,hx3⟩ next N
 simp only at Z hb hn;subst Z;by_cases aa:(i:Int)<4
 ·rw[ab9 aa,Δ];have I:ns4[i]? =some (ns4[i]'(by show i<4;omega)):=abe _;generalize ns4[i]'(by show i<4;omega)=n at I;have O:W.cell? ⟨g,i,none⟩=some (.int .i64 n):=by
   rw[(r3.ext hx3).cell];have:([.int .i64 a,.int .i64 b,.int .i64 (8+(d.len:Int)),.int .i64 0]:List Value)=ns4.map λn=>Value.int .i64 n:=rfl;rw[this,aiF,I];rfl
  show iF ⟨some ⟨g,0,none⟩,4,4⟩ 1 (i:Int) _;refine⟨⟨g,0,none⟩,rfl,by omega,by show (i:Int)<((4:Nat):Int);omega,?_⟩;have ha9:(⟨g,0,none⟩:Addr).add ((i:Int).toNat * 1)=⟨g,i,none⟩:=by rw[Η,ahy,gJ,ahA]
  rw[ha9];refine iU (k:= .int .i64) (y:=n) O ?_;have hai:=Y i;refine cmS2 (yT (h_.iG hb) (by omega) n 2) ?_;rintro s2 w5 ⟨b5,f5,n5⟩;have ah:ο.wrap ((i:Int)+1)=(i:Int)+1:=Α;show next (s2,ο.wrap ((i:Int)+1),()) w5
  rw[ah];refine N _ _ ⟨i+1,by omega,by push_cast;rfl,by rw[J i n I];exact b5,hx.trans f5,λx ai=>by have:=n5 x ai;have:=hx.size;omega,hx3.trans f5⟩ (by simp only;omega)
 ·rw[abW aa,Β];have hi4:i=4:=by omega
  subst hi4;have r1W:=r1.ext hx;refine Ld_s 3 d r1W ?_;have ha4:(acc 4).length<=8:=Y 4;have u:acc 4++L=QB a b L:=by
   unfold QB;have:acc 4=j_ (j_ (j_ (j_ [] a 2) b 2) (8+(d.len:Int)) 2) 0 2:=rfl;rw[this,ag]
  refine ji hb ((hd.ext f1).ext hx) (by omega) λs5 w5 b5 f5 n5 _=> ?_;rw[u] at b5;have x5:Ext w w5:=(f1.trans hx).new f5 λy hy hb=>by have:=hn y hb;have:=f1.size;omega
  have hp1:¬fU.at s p:=λhb=>by have:=hn p hb;have:=r1.lt;omega
  have aj:=r1W.fr f5 hp1;refine Ld_b 2 ns aj ?_
  cases ns
  rotate_left
  ·rw[Δ];exact⟨x5,λ_ _ _=>⟨rfl,by unfold YT;exact h_.iG b5,λx hx5=>by
    have:=f1.size;have:=hx.size;rcases n5 x hx5 with h|h
    ·have:=hn x h;omega
    ·omega⟩⟩
  rw[Β];have hul:(QB a b L).length<=8+L.length:=by rw[<- u,adH];omega
  refine cmS1 (adi sa da (h_.iG b5) (by omega)) ?_;rintro sm w6 ⟨ab,f6⟩;have b6:=b5.fr (f6 λ_=>False) (by simp);obtain⟨u1,u2⟩:=ag5 sa da (QB a b L);rw[<- ab] at u1 u2;refine cmS7 (Ur (h_.iG b6) (by omega) 6 sm 2) ?_;rintro r7 e7 w7 ⟨U,f7,n7⟩;refine⟨(x5.trans f6).trans f7,λh1 h2 h3=> ?_⟩;have hlen:8<=(QB a b L).length:=by
   have q:∀(l:List UInt8) (n:Int),lV n->(j_ l n 2).length=l.length+2:=λl n hn=>by
    unfold j_;rw[Ζ ⟨⟨by omega,by omega⟩,by omega,by have:(2:Int).toNat=2:=rfl;rw[this];omega⟩,adH];have:(2:Int).toNat=2:=rfl;rw[this,iQ]
   unfold QB;rw[adH,q _ _ (by decide),q _ _ (by omega),q _ _ h2,q _ _ h1];simp
  have ac:=QW (l:=QB a b L) (by unfold iZ kP;refine⟨by omega,by omega,?_⟩;have:(2:Int).toNat=2:=rfl;rw[this];omega) (by omega) (by omega) U;refine⟨ac.1,?_,λx hx7=>by have:=n7 x hx7;have:=(x5.trans f6).size;omega⟩;unfold YT;rw[<- ab];exact h_.iG ac.2
end
end Go.Proofs.AN
end
section
namespace Go.Proofs.AN
open Gp Gp.V4 Go.Proofs Go.Proofs.VN
open Gp.Bind (In64)
section
variable {w0 w w':θ}
def prV (c:Int×Int):List Value:=[.int .i64 c.1,.int .i64 c.2]
theorem YD (c:Int×Int):(prV c).length=2:=rfl
theorem aii (l:List UInt8) (n k:Int):(j_ l n k).length<=l.length+4:=by
 unfold j_;split
 ·rename_i h;have:=h.1;unfold kP at this;rw[adH,iQ];omega
 ·omega
theorem Ο {b:Nat} {s s' s'':fU} {l l' l'':List UInt8} (h:Row w b [.slice s.a s.len s.cap,.slice s'.a s'.len s'.cap,.slice s''.a s''.len s''.cap]) (hs:h_ w s l) (hs':h_ w s' l') (hs'':h_ w s'' l''):Parts w ⟨some ⟨b,0,none⟩,3,3⟩ [(s,l),(s',l'),(s'',l'')]:=by
 refine⟨rfl,λi p hi=> ?_⟩
 match i,hi with
 |0,hi=>simp at hi;subst hi;exact⟨b,0,rfl,by rw[h.cell];rfl,hs⟩
 |1,hi=>simp at hi;subst hi;exact⟨b,0,rfl,by rw[h.cell];rfl,hs'⟩
 |2,hi=>simp at hi;subst hi;exact⟨b,0,rfl,by rw[h.cell];rfl,hs''⟩
 |(n+3),hi=>simp at hi
theorem Ux (x0 x1 x2 x3 x4 x5 x6 x7:Int) (x8 x9:fU) (w:θ):zJ x0 x1 x2 x3 x4 x5 x6 x7 x8 x9 w λr w'=>(∃l:List (Int×Int),lD 2 prV w' r l/\l.length=9)/\Ext w w':=by
 apply VE;refine gu λa w1 r1 e1 z1 f1=> ?_;refine Ld_s 8 x8 r1 ⟨by omega,?_⟩;refine Ld_i 0 x0 r1 (Ld_i 1 x1 r1 (Ld_i 2 x2 r1 (Ld_i 3 x3 r1 ⟨by omega,?_⟩)));refine Ld_i 4 x4 r1 (Ld_i 5 x5 r1 (Ld_i 6 x6 r1 (Ld_i 7 x7 r1 ?_)));refine gu λg w2 r2 e2 z2 f2=> ?_;have hb:=iY.row (n:=2) (f:=prV) (xs:=[(x0,2),(x1,2),(x2,4),(x3,4),(orI .i64 (Ky .i64 (ο.wrap (Int.tdiv (ο.wrap (20+(x8.len:Int))) 4)) 4) x4,1),(x5,1),(x6,2),(0,2),(x7,2)]) r2;exact⟨⟨_,hb.sl YD (by omega),rfl⟩,f1.trans f2⟩
theorem adl (x0 x1 x2 x3 x4 x5 x6 x7:Int) (x8 x9:fU) (w:θ) (h8:x8.len<=2^40) (h9:x9.len<=2^40):G8 x0 x1 x2 x3 x4 x5 x6 x7 x8 x9 w λe w'=>(e=0->x8.len<=65535/\x9.len<=65535)/\Ext w w':=by
 apply Yr;refine gu λa w1 r1 e1 z1 f1=> ?_;intro J;have hJ:∀q,J q:=by
  intro q;simp only[J]
  cases q
  rotate_left
  ·exact⟨(λh=>by cases h),f1⟩
  rw[Β];refine Ω r1 ?_;refine cmS2 (Ux _ _ _ _ _ _ _ _ _ _ w1) ?_;rintro r w2 ⟨⟨l,hl,R⟩,f2⟩;have U:r.len=9:=by rw[hl.len,R]
  rw[U];refine gK (λst W=>∃i:Nat,i<=9/\st.1=(i:Int)/\Ext w2 W) (λst _=>(9 - st.1).toNat) ⟨0,by omega,rfl,Ext.refl _⟩ ?_;rintro⟨ii,⟨⟩⟩ W ⟨i,hi,N,hx⟩ next u
  simp only at N;subst N;by_cases O:(i:Int)<((9:Nat):Int)
  ·rw[ab9 O,Δ];have I:=abe (show i<l.length by omega);generalize l[i]'(by omega)=c at I;show iF r 2 (i:Int) _;refine SN.jE (i:=(i:Int)) YD (by omega) (hl.ext hx) (by omega) (by rw[Η];exact I) λa9 h9'=> ?_;refine iU (k:= .int .i64) (y:=c.1) (h9' 0 _ rfl) (iU (k:= .int .i64) (y:=c.2) (h9' 1 _ rfl) ?_);refine gu λk w3 r3 e3 z3 f3=> ?_;refine StN_f r3 λw4 r4 f4 z4=> ?_;have x4':Ext W w4:=f3.nw f4;refine Ld_i 0 c.1 r4 (Ld_i 1 c.2 r4 ?_);refine cmS0 (rE _ _ w4) ?_;rintro q w5 ⟨_,hw⟩;subst hw
   cases q
   ·exact⟨(λh=>by cases h),((f1.trans f2).trans hx).trans x4'⟩
   ·rw[ab6,Β];have Y:ο.wrap ((i:Int)+1)=(i:Int)+1:=Α;show next (ο.wrap ((i:Int)+1),()) w5
    rw[Y];exact u _ _ ⟨i+1,by omega,by push_cast;rfl,hx.trans x4'⟩ (by simp only;omega)
  ·rw[abW O,Β];have rW:=r1.ext (f2.trans hx);refine Ld_s 8 x8 rW (Ld_s 9 x9 rW ?_);have xW:=(f1.trans f2).trans hx;rw[Α (n:=20+(x8.len:Int)) (by omega) (by omega),Α];by_cases hb:20+(x8.len:Int)+(x9.len:Int)>65535
   ·rw[ab9 hb,Δ];exact⟨(λh=>by cases h),xW⟩
   ·rw[abW hb,Β];exact⟨λ_=>⟨by omega,by omega⟩,xW⟩
 clear_value J;refine Ld_s 8 x8 r1 ?_
 cases (decide ((x8.len:Int)>40))
 rotate_left
 ·exact hJ _
 rw[Β];refine Ld_s 8 x8 r1 ⟨by omega,?_⟩
 cases ((Int.tmod (x8.len:Int) 4) !=0)
 rotate_left
 ·exact hJ _
 rw[Β];refine Ld_i 4 x4 r1 ?_
 cases (decide (x4<0))
 rotate_left
 ·exact hJ _
 rw[Β];exact Ld_i 4 x4 r1 (hJ _)
theorem adk (sa da x0 x1 x2 x3 x4 x5 x6 x7:Int) {x8 x9:fU} (h8:UJ w x8) (h9:UJ w x9):G7 sa da x0 x1 x2 x3 x4 x5 x6 x7 x8 x9 w λ_ _ w'=>Ext w w':=by
 obtain⟨L8,g8,l8⟩:=h8;obtain⟨L9,g9,l9⟩:=h9;have k8:=g8.1;have k9:=g9.1;apply Yq;refine gu λa w1 r1 e1 z1 f1=> ?_;refine Ω r1 ?_;refine cmS1 (adl _ _ _ _ _ _ _ _ _ _ w1 (by omega) (by omega)) ?_;rintro ce w2 ⟨N,f2⟩;have x2:=f1.trans f2;by_cases hc:ce=0;rotate_left
 ·have:(ce !=0)=true:=by rw[aj3];exact hc
  rw[this,Δ];exact x2
 obtain⟨q8,q9⟩:=N hc;subst hc;rw[show ((0:Int) !=0)=false from rfl,Β];refine Ω (r1.ext f2) ?_;refine cmS2 (Ux _ _ _ _ _ _ _ _ _ _ w2) ?_;rintro r w3 ⟨⟨l,hl,O⟩,f3⟩;have R:r.len=9:=by rw[hl.len,O]
 rw[R];have x3:=x2.trans f3;refine gK (λst W=>∃(i:Nat) (m:List UInt8),i<=9/\st.2.1=(i:Int)/\Buf W st.1 (bytesV m)/\m.length<=4 * i/\Ext w3 W) (λst _=>(9 - st.2.1).toNat) ⟨0,[],by omega,rfl,Buf.nil,by simp,Ext.refl _⟩ ?_;rintro⟨s,ii,⟨⟩⟩ W ⟨i,m,hi,I,hb,hm,hx⟩ next h
 simp only at I hb;subst I;by_cases J:(i:Int)<((9:Nat):Int)
 ·rw[ab9 J,Δ];have u:=abe (show i<l.length by omega);generalize l[i]'(by omega)=c at u;show iF r 2 (i:Int) _;refine SN.jE (i:=(i:Int)) YD (by omega) (hl.ext hx) (by omega) (by rw[Η];exact u) λa9 h9'=> ?_;refine iU (k:= .int .i64) (y:=c.1) (h9' 0 _ rfl) (iU (k:= .int .i64) (y:=c.2) (h9' 1 _ rfl) ?_);refine gu λk w4 r4 e4 z4 f4=> ?_;refine StN_f r4 λw5 r5 f5 z5=> ?_;have x5':Ext W w5:=f4.nw f5;refine Ld_i 0 c.1 r5 (Ld_i 1 c.2 r5 ?_);refine cmS2 (yT ((h_.iG hb).ext x5') (by omega) c.1 c.2) ?_;rintro s2 w6 ⟨b6,f6,_⟩;have hp4:=aii m c.1 c.2;have U:ο.wrap ((i:Int)+1)=(i:Int)+1:=Α;show next (s2,ο.wrap ((i:Int)+1),()) w6
  rw[U];exact h _ _ ⟨i+1,_,by omega,by push_cast;rfl,b6,by omega,(hx.trans x5').trans f6⟩ (by simp only;omega)
 ·rw[abW J,Β];have rW:=r1.ext ((f2.trans f3).trans hx);have xW:=x3.trans hx;refine Ld_s 8 x8 rW (Ld_s 9 x9 rW ?_);refine gu λg w4 r4 e4 z4 f4=> ?_;have x4':=xW.trans f4;refine cmS2 (acp (Ο r4 ((h_.iG hb).ext f4) (g8.ext x4') (g9.ext x4')) (by simp) (by
   intro p hp;simp only[afm,ajp,ajV] at hp;rcases hp with rfl|rfl|rfl<;>simp only<;>omega)) ?_
  rintro o w5 ⟨b5,f5,_⟩;have Y:(Jy [(s,m),(x8,L8),(x9,L9)]).length<=2^20:=by
   simp only[Jy,ajB,List.flatMap_nil,ali,adH];omega
  generalize Jy [(s,m),(x8,L8),(x9,L9)]=M at b5 Y;have hol:o.len=M.length:=by rw[b5.1,jF]
  refine cmS2 (Jp sa da 6 _ w5) ?_;rintro ps w6 ⟨Z,f6⟩;have hpl:=Cm sa da 6 (o.len:Int);refine gu λq w7 r7 e7 z7 f7=> ?_;have b7:=(b5.fr (f6 λ_=>False) (by simp)).fr (f7 λ_=>False) (by simp);refine cmS1 (Ti (Jo r7 (Z.ext f7) (h_.iG b7)) (by simp) (by simp;omega)) ?_;rintro sm w8 ⟨_,f8⟩;refine cmS7 (Ur ((h_.iG b7).ext f8) (by omega) 16 sm 2) ?_;rintro r9 e9 w9 ⟨_,f9,_⟩;exact((((x4'.trans f5).trans f6).trans f7).trans f8).trans f9
theorem adt (x0 x1 x2:Int) {x3:fU} (h3:UJ w x3) (n:Int) {K:Int->Int->Int->fU->b_} (hK:∀y0 y1 y2 y3 w',Ext w w'->UJ w' y3->K y0 y1 y2 y3 w'):CW x0 x1 x2 x3 n w K:=by
 obtain⟨L,g3,l3⟩:=h3;apply TF;refine gu λa w1 r1 e1 z1 f1=> ?_;refine gu λb w2 r2 e2 z2 f2=>⟨by omega,?_⟩;have h:=r1.ext f2;have za:=f1.size;have zb:=f2.size;refine Ld_i 2 x2 h ?_;refine gX (i:=2) h rfl (by simp) λw3 r3 f3' z3=> ?_;have f3:gU w2 w3 (·=a):=f3' _ rfl;simp only[aho,agE] at r3;have x3':Ext w w3:=(f1.trans f2).nw f3;refine Ld_s 3 x3 r3 ?_;refine cmS2 (nD (g3.ext x3') (by omega)) ?_;rintro o w4 ⟨bo,_,f4,no⟩;have r4:=r3.ext f4;refine gX (i:=3) r4 rfl (by simp) λw5 r5 f5' z5=> ?_;have f5:gU w4 w5 (·=a):=f5' _ rfl;simp only[aho,agE] at r5;refine YZ (K:=λx0 x1 x2 x3 W=>_) r5 ?_;have u:=(((r2.fr f3 (by omega)).ext f4).fr f5 (by omega));refine StN_f u λw6 r6 f6 z6=> ?_;have zo:=x3'.size;have ao:∀c,fU.at o c->c≠a/\c≠b:=λc hc=>by have:=no c hc;have:=r3.lt;have:=(r2.fr f3 (by omega)).lt;omega
 refine YZ (K:=K) r6 ?_;exact hK _ _ _ _ w6 (((x3'.trans f4).nw f5).nw f6) ⟨L,h_.iG ((bo.fr f5 λc hc=>(ao c hc).1).fr f6 λc hc=>(ao c hc).2),l3⟩
end
end Go.Proofs.AN
end
section
namespace Go.Proofs.AN
open Gp Gp.V4 Go.Proofs Go.Proofs.VN
open Gp.Bind (In64)
section
variable {w0 w w':θ}
abbrev CP (a b:Int):List Value:=[.int .i64 a,.int .i64 b]
theorem ah0 (v:Value) (a b:Int) (w:θ) (K:Value->b_):KO υ (.iface 285 v) "goosepond/ports.with" (CP a b) [.one .any] w K=f_ υ 338 (v::CP a b) [.one .any] w K:=by kernel_rfl
theorem ah4 (v:Value) (a b:Int) (w:θ) (K:Value->b_):KO υ (.iface 291 v) "goosepond/ports.with" (CP a b) [.one .any] w K=f_ υ 345 (v::CP a b) [.one .any] w K:=by kernel_rfl
theorem ah2 (v:Value) (a b:Int) (w:θ) (K:Value->b_):KO υ (.iface 293 v) "goosepond/ports.with" (CP a b) [.one .any] w K=f_ υ 353 (v::CP a b) [.one .any] w K:=by kernel_rfl
theorem ahZ (v:Value) (a b:Int) (w:θ) (K:fU->Int->b_):KO υ (.iface 285 v) "goosepond/ports.build" (CP a b) [.one .slice,.one ν] w K=f_ υ 336 (v::CP a b) [.one .slice,.one ν] w K:=by kernel_rfl
theorem ah3 (v:Value) (a b:Int) (w:θ) (K:fU->Int->b_):KO υ (.iface 291 v) "goosepond/ports.build" (CP a b) [.one .slice,.one ν] w K=f_ υ 343 (v::CP a b) [.one .slice,.one ν] w K:=by kernel_rfl
theorem ah1 (v:Value) (a b:Int) (w:θ) (K:fU->Int->b_):KO υ (.iface 293 v) "goosepond/ports.build" (CP a b) [.one .slice,.one ν] w K=f_ υ 351 (v::CP a b) [.one .slice,.one ν] w K:=by kernel_rfl
def FU (t o:Int):Int:=if t= -1 then o else t
inductive ahd (w:θ) (p:kZ) (a b:Int) (v:Value):Prop
 |dat (a0 a1:Int) (a2:Bool) (a3:fU) (hv:v= .iface 285 (.agg ⟨[.int .i64 a0,.int .i64 a1,.bool a2,.slice a3.a a3.len a3.cap]⟩)) (hb:UJ w a3) (hg:DR p->a0=FU a (wordAt p.data 0:Int)/\a1=FU b (wordAt p.data 2:Int)/\a2=false/\h_ w a3 (p.data.drop 8))
 |seg (a0 a1 a2 a3 a4 a5 a6 a7:Int) (a8 a9:fU) (h:p.proto=6) (hv:v= .iface 291 (.agg ⟨kX a0 a1 a2 a3 a4 a5 a6 a7 a8 a9⟩)) (hb8:UJ w a8) (hb9:UJ w a9)
 |que (a0 a1 a2:Int) (a3:fU) (h:p.proto=1) (hv:v= .iface 293 (.agg ⟨[.int .i64 a0,.int .i64 a1,.int .i64 a2,.slice a3.a a3.len a3.cap]⟩)) (hb:UJ w a3)
theorem UJ.fr {s:fU} {S:Nat->Prop} (h:UJ w s) (hf:gU w w' S) {b:Nat} {vs:List Value} (hr:Row w b vs) (hv:∀v∈vs,∀n,v≠.int .u8 n) (hS:∀y,S y->y=b):UJ w' s:=by
 obtain⟨L,h1,h2⟩:=h;exact⟨L,h1.fr hf λad ha h0 e=>jW hr hv h1 ha h0 (hS _ e),h2⟩
theorem acF {p:kZ} {v:Value} (hf:Form w p v) (a b:Int) {K:Value->b_} (hK:∀v' w',Ext w w'->ahd w' p a b v'->K v' w'):KO υ v "goosepond/ports.with" (CP a b) [.one .any] w K:=by
 cases hf with
 |dat a0 a1 a2 a3 h hv i0 i1 hb hg=>
  subst hv;rw[ah0];apply Fv;refine gu λg w1 r1 e1 z1 f1=> ?_;have x1:=f1.trans (Ext.drew w1);have r1d:=r1.drew;refine Ld_i 0 a0 r1d (Ld_i 1 a1 r1d ?_);refine cmS1 (NV a a0 _) ?_;rintro r w2 ⟨rfl,hw⟩;subst hw;refine⟨by rw[gJ,r1d.cell];rfl,?_⟩;refine cmS1 (NV b a1 _) ?_;rintro r w2 ⟨rfl,hw⟩;subst hw;refine gX (i:=0) r1d rfl (by simp) λw3 r3 f3' z3=> ?_;refine gX (i:=1) r3 rfl (by simp) λw4 r4 f4' z4=> ?_;simp only[aho,agE] at r4;have f4:gU w1.drew w4 (·=g):=(f3' (·=g) rfl).trans (f4' (·=g) rfl) λ_ _ h=>h;have x4:Ext w w4:=x1.nw f4;refine Ld_i 0 (if a= -1 then a0 else a) r4 (Ld_i 1 (if b= -1 then a1 else b) r4 (Ld_b 2 a2 r4 (Ld_s 3 a3 r4 ?_)))
  refine hK _ w4 x4 (.dat _ _ _ _ rfl (hb.ext x4) λg=> ?_);obtain⟨g0,g1,g2,g3⟩:=hg g;exact⟨by rw[g0];rfl,by rw[g1];rfl,g2,g3.ext x4⟩
 |seg a0 a1 a2 a3 a4 a5 a6 a7 a8 a9 h hv i0 i1 hb8 hb9=>
  subst hv;rw[ah4];apply Gh;refine gu λg w1 r1 e1 z1 f1=> ?_;have x1:=f1.trans (Ext.drew w1);have r1d:=r1.drew;refine Ld_i 0 a0 r1d (Ld_i 1 a1 r1d ?_);refine cmS1 (NV a a0 _) ?_;rintro r w2 ⟨rfl,hw⟩;subst hw;refine⟨by rw[gJ,r1d.cell];rfl,?_⟩;refine cmS1 (NV b a1 _) ?_;rintro r w2 ⟨rfl,hw⟩;subst hw;refine gX (i:=0) r1d rfl (by simp) λw3 r3 f3' z3=> ?_;refine gX (i:=1) r3 rfl (by simp) λw4 r4 f4' z4=> ?_;simp only[aho,agE] at r4;have f4:gU w1.drew w4 (·=g):=(f3' (·=g) rfl).trans (f4' (·=g) rfl) λ_ _ h=>h;have x4:Ext w w4:=x1.nw f4;refine Ω r4 ?_;exact hK _ w4 x4 (.seg _ _ _ _ _ _ _ _ _ _ h rfl (hb8.ext x4) (hb9.ext x4))
 |que a0 a1 a2 a3 h hv hb=>
  subst hv;rw[ah2];apply JX;refine gu λg w1 r1 e1 z1 f1=> ?_;have x1:=f1.trans (Ext.drew w1);have r1d:=r1.drew;refine YZ (K:=λx0 x1 x2 x3 W=>_) r1d ?_;refine cmS1 (NV a b _) ?_;rintro r w2 ⟨_,hw⟩;subst hw;refine⟨by rw[gJ,r1d.cell];rfl,by rw[gJ,r1d.cell];rfl,by rw[gJ,r1d.cell];rfl,by rw[gJ,r1d.cell];rfl,?_⟩;refine adt a0 a1 a2 (hb.ext x1) r λy0 y1 y2 y3 w3 f3 hy=> ?_;have I:=r1d.ext f3;refine StN_f I λw4 r4 f4 z4=> ?_;have x4:Ext w w4:=(x1.trans f3).nw f4;refine YZ (K:=λJ N O u W=>K (.iface 293 (.agg ⟨[.int .i64 J,.int .i64 N,.int .i64 O,.slice u.a u.len u.cap]⟩)) W) r4 ?_;exact hK _ w4 x4 (.que _ _ _ _ h rfl (hy.fr f4 I (by simp) λy hy=>hy))
theorem aaq {p:kZ} {a b:Int} {v:Value} (hf:ahd w p a b v) (sa da:Int) {K:fU->Int->b_}
  (hK:∀r e w',Ext w w'->(DR p->lV (FU a (wordAt p.data 0:Int))->lV (FU b (wordAt p.data 2:Int))->p.data.length<=60000->e=0/\h_ w' r (YT sa da (FU a (wordAt p.data 0:Int)) (FU b (wordAt p.data 2:Int)) false (p.data.drop 8))/\∀x,fU.at r x->w.heap.size<=x)->K r e w'):
  KO υ v "goosepond/ports.build" (CP sa da) [.one .slice,.one ν] w K:=by
 cases hf with
 |dat a0 a1 a2 a3 hv hb hg=>
  subst hv;rw[ahZ];apply Ea;refine gu λg w1 r1 e1 z1 f1=> ?_;refine Ld_i 0 a0 r1 (Ld_i 1 a1 r1 (Ld_b 2 a2 r1 (Ld_s 3 a3 r1 ?_)));obtain⟨L,h1,h2⟩:=hb;refine cmS7 (adn sa da a0 a1 a2 (h1.ext f1) h2) ?_;rintro r e w2 ⟨f2,hu⟩;refine hK r e w2 (f1.trans f2) λg k0 k1 hl=> ?_;obtain⟨rfl,rfl,rfl,g3⟩:=hg g;have hL:=h1.unique g3;subst hL;obtain⟨q1,q2,q3⟩:=hu k0 k1 (by simp;omega);exact⟨q1,q2,λx hx=>by have:=q3 x hx;have:=f1.size;omega⟩
 |seg a0 a1 a2 a3 a4 a5 a6 a7 a8 a9 h hv hb8 hb9=>
  subst hv;rw[ah3];apply Fz;refine gu λg w1 r1 e1 z1 f1=> ?_;refine Ω r1 ?_;refine cmS7 (adk sa da _ _ _ _ _ _ _ _ (hb8.ext f1) (hb9.ext f1)) ?_;intro r e w2 f2;exact hK r e w2 (f1.trans f2) λg=>by have:=g.1;omega
 |que a0 a1 a2 a3 h hv hb=>
  subst hv;rw[ah1];apply Ir;refine gu λg w1 r1 e1 z1 f1=> ?_;refine YZ (K:=λx0 x1 x2 x3 W=>_) r1 ?_;obtain⟨L,h1,h2⟩:=hb;refine cmS7 (Wv ⟨a0,a1,a2,L⟩ (h1.ext f1)) ?_;rintro r e w2 ⟨_,_,f2,_,_⟩;exact hK r e w2 (f1.trans f2) λg=>by have:=g.1;omega
end
end Go.Proofs.AN
end
section
namespace Go.Proofs.AN
open Gp Gp.V4 Go.Proofs Go.Proofs.VN
open Gp.Bind (In64)
section
variable {w0 w w':θ}
theorem Pv (l:List UInt8) (i:Nat):lV (wordAt l i:Int):=by
 have:=Em l i;constructor<;>omega
theorem Form.fr {p:kZ} {v:Value} (h:Form w p v) {S:Nat->Prop} (hf:gU w w' S) {b:Nat} {vs:List Value} (hr:Row w b vs) (hv:∀v∈vs,∀n,v≠.int .u8 n) (hS:∀y,S y->y=b):Form w' p v:=by
 cases h with
 |dat a0 a1 a2 a3 h hv' i0 i1 hb hg=>
  refine .dat a0 a1 a2 a3 h hv' i0 i1 (hb.fr hf hr hv hS) λg=> ?_;obtain⟨g0,g1,g2,g3⟩:=hg g;exact⟨g0,g1,g2,g3.fr hf λad ha h0 e=>jW hr hv g3 ha h0 (hS _ e)⟩
 |seg a0 a1 a2 a3 a4 a5 a6 a7 a8 a9 h hv' i0 i1 hb8 hb9=>exact .seg a0 a1 a2 a3 a4 a5 a6 a7 a8 a9 h hv' i0 i1 (hb8.fr hf hr hv hS) (hb9.fr hf hr hv hS)
 |que a0 a1 a2 a3 h hv' hb=>exact .que a0 a1 a2 a3 h hv' (hb.fr hf hr hv hS)
structure ahx (n:Nat) (w:θ) (p:kZ) (sa da po qo:Int) (x5 x6:Int) (x10:fU) (e:Int):Prop where
 e:e=0
 src:x5=sa
 dst:x6=da
 data:h_ w x10 (YT sa da (FU po (wordAt p.data 0:Int)) (FU qo (wordAt p.data 2:Int)) false (p.data.drop 8))
 new:∀x,fU.at x10 x->n<=x
def adG (p:kZ) (sa da po qo:Int):Prop:=DR p/\(kG sa/\kG da)/\(-1<=po/\po<=65535/\ -1<=qo/\qo<=65535/\(0<=po\/0<=qo))/\p.data.length<=60000
theorem abH {t o:Int} (h: -1<=t/\t<=65535) (ho:lV o):lV (FU t o):=by
 unfold FU;split
 ·exact ho
 ·exact⟨by omega,by omega⟩
theorem ZL (p:kZ) {o d:fU} (ho:h_ w o p.opts) (hd:h_ w d p.data) (h1:p.opts.length<=2^40) (h2:p.data.length<=2^40) (sa da po qo:Int)
  {K:Int->Int->Int->Int->Int->Int->Int->Bool->Bool->fU->fU->Int->b_}
  (hK:∀x0 x1 x2 x3 x4 x5 x6 x7 x8 x9 ab e w',Ext w w'->(adG p sa da po qo->ahx w.heap.size w' p sa da po qo x5 x6 ab e)->K x0 x1 x2 x3 x4 x5 x6 x7 x8 x9 ab e w'):
  xI p.tos p.id p.off p.ttl p.proto p.src p.dst p.df p.mf o d sa da po qo w K:=by
 apply TN;refine gu λa w3 r3 e3 z3 f3=> ?_;refine gu λb w4 r4 e4 z4 f4=> ?_;refine gu λc w5 r5 e5 z5 f5=> ?_;refine gu λg w6 r6 e6 z6 f6=> ?_;have zc:=f3.size;have zd:=f4.size;have ze:=f5.size;have zf:=f6.size;have x6:Ext w w6:=((f3.trans f4).trans f5).trans f6;have ac:=((r3.ext f4).ext f5).ext f6;have ao:=(r4.ext f5).ext f6;have aq:=r5.ext f6;refine lK ac ?_;refine LY p (ho.ext x6) (hd.ext x6) h1 h2 λv e w7 f7 hF hG=> ?_;have x7:=x6.trans f7;have ae:=ac.ext f7;have N:=ao.ext f7;have O:=aq.ext f7;have af:=r6.ext f7;have z7:=f7.size;have bad:∀(W:θ) (e:Int),Ext w7 W->¬adG p sa da po qo->ig ξ W ⟨g,0,none⟩ 0 λag=>iC ag ⟨g,0,none⟩ λy0 y1 y2 y3 y4 y5 y6 y7 y8 y9 ar=>K y0 y1 y2 y3 y4 y5 y6 y7 y8 y9 ar e ag:=by
  intro W e hW hn;refine StN_f (af.ext hW) λw8 r8 f8 z8=> ?_;refine lK r8 ?_;exact hK _ _ _ _ _ _ _ _ _ _ _ e w8 ((x7.trans hW).nw f8) λh=>absurd h hn
 by_cases he:e=0;rotate_left
 ·have:(e !=0)=true:=by rw[aj3];exact he
  rw[this,Δ];exact bad w7 e (Ext.refl _) λhh=>he (hG hh.1)
 subst he;show cond false _ _;rw[Β];have hF7:=hF rfl;refine⟨by omega,by omega,?_⟩;refine Ld_i 0 po O ⟨by omega,by omega,?_⟩;refine Ld_i 1 qo O ?_;intro J;have R:∀(W:θ),Ext w7 W->¬adG p sa da po qo->J true W:=λW hW hn=>bad W 1 hW hn;have au:∀(W:θ),Ext w7 W->J false W:=by
  intro W hW;show cond false _ _;rw[Β];have hd':=hW.trans (Ext.drew W);have U:=N.ext hd';have av:=ae.ext hd';have z8:=hd'.size;refine⟨by omega,by omega,Ld_i 0 sa U ⟨by omega,by omega,Ld_i 1 da U ?_⟩⟩;refine gX (i:=5) av rfl (by simp) λw8 r8 f8' z8'=> ?_;have f8:gU W.drew w8 (·=a):=f8' _ rfl;have y8:Ext w w8:=(x7.trans hd').nw f8;refine⟨by rw[gJ,((U.fr f8 (by omega))).cell];rfl,?_⟩;refine gX (i:=6) r8 rfl (by simp) λw9 r9 f9' z9'=> ?_;have f9:gU w8 w9 (·=a):=f9' _ rfl;have y9:Ext w w9:=y8.nw f9;simp only[aho,agE] at r9;refine Ld_s 9 o r9 ?_;refine cmS2 (nD (ho.ext y9) (by omega)) ?_;rintro oc aw ⟨_,_,f10,_⟩;have ax:=r9.ext f10;refine gX (i:=9) ax rfl (by simp) λu ah Y z11=> ?_;have f11:gU aw u (·=a):=Y _ rfl;have ay:Ext w u:=(y9.trans f10).nw f11;simp only[aho,agE] at ah;have y11d:=ay.trans (Ext.drew u);have r11d:=ah.drew;have I:gU w7 u.drew (·=a):=((((hd'.fr f8).trans f9 λ_ _ h=>h).ext f10).trans f11 λ_ _ h=>h).ext (Ext.drew u);have r511:=O.fr I (by omega);have hF11:=hF7.fr I ae (by simp) λy hy=>hy;have r611:=af.fr I (by omega);refine⟨by omega,by omega,Ld_i 0 po r511 ⟨by omega,by omega,Ld_i 1 qo r511 ?_⟩⟩;refine Ld_i 5 sa r11d (Ld_i 6 da r11d ?_);refine acF hF11 po qo λv' w12 f12 hF2=> ?_;have Z:=r11d.ext f12;refine⟨by rw[gJ,Z.cell];rfl,by rw[gJ,Z.cell];rfl,?_⟩;refine aaq hF2 sa da λr e az f13 hB=> ?_;have ai:=Z.ext f13;refine gX (i:=10) ai rfl (by simp) λaj ak aa z14=> ?_;have f14:gU az aj (·=a):=aa _ rfl;simp only[aho,agE] at ak;have aA:Ext w aj:=((y11d.trans f12).trans f13).nw f14;refine lK ak ?_;have zz:=f12.size;have zy:=f13.size;have r614:=((r611.ext f12).ext f13).fr f14 (by omega);refine StN_f r614 λaB aC f15 z15=> ?_;refine lK aC ?_;refine hK _ _ _ _ _ _ _ _ _ _ _ e aB (aA.nw f15) λhm=> ?_;obtain⟨hg,_,⟨m1,m2,m3,m4,_⟩,hl⟩:=hm;obtain⟨q1,q2,qn⟩:=hB hg (abH ⟨m1,m2⟩ (Pv _ _)) (abH ⟨m3,m4⟩ (Pv _ _)) hl;refine⟨q1,rfl,rfl,?_,λx hx=>by have:=qn x hx;have:=I.size;omega⟩;have q3:=q2.fr f14 λad ha h0 e=>jW ai (by simp) q2 ha h0 e;exact q3.fr f15 λad ha h0 e=>jW r614 (by simp) q3 ha h0 e
 clear_value J;refine⟨by omega,by omega,Ld_i 0 sa N ?_⟩;refine cmS0 (AV sa w7) ?_;rintro q w8 ⟨rfl,hw⟩;subst hw;by_cases k1:kG sa;rotate_left
 ·rw[abW k1,aek,Δ];exact R _ (Ext.refl _) λhh=>k1 hh.2.1.1
 rw[ab9 k1,ab6,Β];refine⟨by omega,by omega,Ld_i 1 da N ?_⟩;refine cmS0 (AV da _) ?_;rintro q w8 ⟨rfl,hw⟩;subst hw;by_cases k2:kG da;rotate_left
 ·rw[abW k2,aek,Δ];exact R _ (Ext.refl _) λhh=>k2 hh.2.1.2
 rw[ab9 k2,ab6,Β];refine cmS0 (rE _ 2 _) ?_;rintro q w8 ⟨hq,hw⟩;subst hw
 cases q
 ·refine R _ (Ext.refl _) λhh=>akQ hq.symm ?_;obtain⟨_,_,⟨m1,m2,m3,m4,m5⟩,_⟩:=hh;have am:∀x:Int,(x=po\/x=qo)->0<=x->iZ x 2:=λx hx h0=>⟨by decide,h0,by show x<65536;omega⟩;by_cases an:qo>po
  ·rw[Ζ an];exact am _ (.inr rfl) (by omega)
  ·rw[Ε an];exact am _ (.inl rfl) (by omega)
 exact au _ (Ext.refl _)
theorem afZ (p:kZ) {o d:fU} (ho:h_ w o p.opts) (hd:h_ w d p.data) (h1:p.opts.length<=2^40) (h2:p.data.length<=2^40) (ad po:Int)
  {K:Int->Int->Int->Int->Int->Int->Int->Bool->Bool->fU->fU->Int->b_}
  (hK:∀x0 x1 x2 x3 x4 x5 x6 x7 x8 x9 h e w',Ext w w'->(adG p ad p.dst po (-1)->ahx w.heap.size w' p ad p.dst po (-1) x5 x6 h e)->K x0 x1 x2 x3 x4 x5 x6 x7 x8 x9 h e w'):
  EF p.tos p.id p.off p.ttl p.proto p.src p.dst p.df p.mf o d ad po w K:=by
 apply Vj;refine gu λg0 w1 r1 e1 z1 f1=> ?_;refine gu λg1 w2 r2 e2 z2 f2=> ?_;have x2:=f1.trans f2;have u:=r1.ext f2;have za:=f1.size;have zb:=f2.size;refine lK u (Ld_i 6 p.dst u ?_);refine ZL p (ho.ext x2) (hd.ext x2) h1 h2 _ _ _ _ λy0 y1 y2 y3 y4 y5 y6 y7 y8 y9 y10 e W hW hR=> ?_;refine StN_f (r2.ext hW) λw4 r4 f4 z4=> ?_;refine lK r4 ?_;refine hK _ _ _ _ _ _ _ _ _ _ _ e w4 ((x2.trans hW).nw f4) λhm=> ?_;obtain⟨q1,q2,q2',q3,q4⟩:=hR hm;exact⟨q1,q2,q2',q3.fr f4 λad ha h0 e=>jW (r2.ext hW) (by simp) q3 ha h0 e,λx hx=>by have:=q4 x hx;omega⟩
end
end Go.Proofs.AN
end
section
namespace Go.Proofs.AN
open Gp Gp.V4 Go.Proofs Go.Proofs.VN
open Gp.Bind (In64)
section
variable {w0 w w':θ}
theorem agA (e:Int) (w:θ):ED e w λr w'=>r≠0/\w'=w:=by
 apply ZV
 cases (e==8)<;>exact⟨by decide,rfl⟩
theorem Wx (p:kZ) {o d:fU} (hd:h_ w d p.data) (h2:p.data.length<=2^40) {K:Int->Int->Int->fU->Bool->b_}
  (hK:∀k c r d' is w' (m:List UInt8),Ext w w'->h_ w' d' m->m.length<=2^40->(is=true->p.proto=1)->K k c r d' is w'):
  zC p.tos p.id p.off p.ttl p.proto p.src p.dst p.df p.mf o d w K:=by
 apply Vd;refine gu λa w1 r1 e1 z1 f1=> ?_;refine gu λb w2 r2 e2 z2 f2=> ?_;have h:=r1.ext f2;have x2:=f1.trans f2;have za:=f1.size;have zb:=f2.size;refine Ld_i 4 p.proto h ?_;by_cases p1:p.proto=1;rotate_left
 ·rw[show (p.proto !=1)=true by rw[aj3];exact p1,Δ];refine StN_f r2 λw3 r3 f3 z3=> ?_;refine YZ (x3:=⟨none,0,0⟩) (K:=λy0 y1 y2 y3 W=>K y0 y1 y2 y3 false W) r3 ?_;exact hK _ _ _ _ _ w3 [] (x2.nw f3) h_.nil (by simp) λhh=>by cases hh
 rw[show (p.proto !=1)=false by simpa using p1,Β];refine Ld_s 10 d h ?_;refine SE (hd.ext x2) h2 λu0 u1 u2 u3 e w3 m f3 hm N=> ?_;refine gu λg w4 r4 e4 z4 f4=> ?_;refine StN_f r4 λw5 r5 f5 z5=> ?_;have u:Ext w3 w5:=f4.nw f5;have g5:=f3.trans u;have hm5:=hm.ext u;intro J;have fin:∀(q:Bool) W,Ext w5 W->ig [.int .i64 u0,.int .i64 u1,.int .i64 u2,.slice u3.a u3.len u3.cap] W ⟨b,0,none⟩ 0 λO=>J q O:=by
  intro q W hW;refine StN_f ((r2.ext g5).ext hW) λw6 r6 f6 z6=> ?_;simp only[J];refine YZ (K:=λy0 y1 y2 y3 W=>K y0 y1 y2 y3 q W) r6 ?_;have I:=hm5.ext hW;exact hK _ _ _ _ _ w6 m (((x2.trans g5).trans hW).nw f6) (I.fr f6 λad ha h0 e=>jW ((r2.ext g5).ext hW) (by simp) I ha h0 e) N λ_=>p1
 clear_value J;have r5d:=r5.drew;have c0:∀{W:θ},Ext w5 W->W.cell? (Addr.add ⟨g,0,none⟩ 0)=some (.int .i64 u0)/\W.cell? (Addr.add ⟨g,0,none⟩ 1)=some (.int .i64 u1)/\W.cell? (Addr.add ⟨g,0,none⟩ 2)=some (.int .i64 u2)/\W.cell? (Addr.add ⟨g,0,none⟩ 3)=some (.slice u3.a u3.len u3.cap):=
  λhW=>⟨by rw[gJ,(r5.ext hW).cell];rfl,by rw[gJ,(r5.ext hW).cell];rfl,by rw[gJ,(r5.ext hW).cell];rfl,by rw[gJ,(r5.ext hW).cell];rfl⟩
 refine YZ (K:=λx29 x30 x31 x32 W=>_) r5d ?_
 cases (e==0)
 ·rw[Β];obtain⟨q0,q1,q2,q3⟩:=c0 (Ext.drew w5);exact⟨q0,q1,q2,q3,fin false _ (Ext.drew w5)⟩
 ·rw[Δ];refine Ld_i 0 u0 r5d ?_;refine cmS0 (acB _ _) ?_;rintro fr w6 f6;obtain⟨q0,q1,q2,q3⟩:=c0 ((Ext.drew w5).trans f6);exact⟨q0,q1,q2,q3,fin fr _ ((Ext.drew w5).trans f6)⟩
end
end Go.Proofs.AN
namespace Go.Proofs.EN
open Gp Gp.V4 Go.Proofs Go.Proofs.AN Go.Proofs.VN
open Gp.Bind (Bnd Slots live GoodB freeN getS In64)
open Gp.Ses (Ses)
variable {w w':θ} {a:EA} {c:Cf} {e:ES}
structure Stp (e e':ES) (sw:Int):Prop where
 now:e'.now=e.now
 tn:e'.tn<=e.tn+1
 S:∀(j:Nat) (b:Bnd),e.S[j]? =some (some b)->e'.S[j]? =some (some b)
 SS:∀(k:Nat) (s:Ses),e.SS[k]? =some (some s)->(∀(j:Nat) (b:Bnd),s.bd=(j:Int)->e.S[j]? =some (some b)->b.sw≠sw)->e'.SS[k]? =some (some s)
theorem Flow.S {e1:ES} {sw pr ad po ra rp bd sid:Int} {kn:Bool} (hf:Flow c e e1 sw pr ad po ra rp bd sid kn) {j:Nat} {b:Bnd} (h:e.S[j]? =some (some b)):e1.S[j]? =some (some b):=by
 rcases hf.was with ⟨rfl,_⟩|⟨_,_,i,o,Mi,Mo,_,u,_,rfl⟩
 ·exact h
 ·have h2:=(Gp.Bind.jm 0 u).2.1;show (e.S.set i _)[j]? =_;rw[ajo,Ε]
  ·exact h
  ·rintro rfl;rw[h2] at h;cases h
theorem Flow.eq {e1:ES} {sw pr ad po ra rp bd sid:Int} {kn:Bool} (hf:Flow c e e1 sw pr ad po ra rp bd sid kn):e1.SS=e.SS/\e1.now=e.now/\e1.tn=e.tn/\e1.M=e.M:=by
 rcases hf.was with ⟨rfl,_⟩|⟨_,_,i,o,Mi,Mo,_,hfi,_,rfl⟩<;>exact⟨rfl,rfl,rfl,rfl⟩
theorem aiu {e1:ES} {sw pr ad po ra rp bd sid:Int} {kn:Bool} (hf:Flow c e e1 sw pr ad po ra rp bd sid kn) {k:Nat} {s:Ses} {M F l nx}
  (hs:(kn=true/\sid=(k:Int)/\∃s0,e1.SS[k]? =some (some s0)/\s={s0 with st:=nx,un:=Qa c e1 pr nx})\/(kn=false/\Gp.Ses.freeN e1.SS=some k/\s=⟨bd,nx,Qa c e1 pr nx,ra,rp⟩)):
  Stp e {e1 with SS:=e1.SS.set k (some s),M:=M,l:=l,tn:=e1.tn+1,F:=F} sw:=by
 obtain⟨q1,q2,q3,_⟩:=hf.eq;refine⟨q2,by show e1.tn+1<=_;omega,λj b h=>hf.S h,λk' s' h hn=> ?_⟩;show (e1.SS.set k _)[k']? =_;rw[ajo,q1,Ε]
 ·exact h
 rintro rfl;rcases hs with ⟨rfl,hk,s0,h0,_⟩|⟨_,u,_⟩
 ·rcases hf.ses with ⟨_,k2,s2,g1,g2,g3,_⟩|⟨g,_⟩
  ·have:k2=k:=by omega
   subst this;rw[q1,h] at g2;have:s'=s2:=by simpa using g2
   subst this;rcases hf.was with ⟨rfl,_⟩|⟨_,g,_⟩
   ·obtain⟨j,b,hj,hb,I,_⟩:=hf.bnd;exact hn j b (by rw[g3,hj]) hb I
   ·cases g
  ·cases g
 ·have:=(Gp.Ses.jm 0 u).2.1;rw[q1,h] at this;cases this
def Law (c:Cf) (sw:Int) (p:kZ):Prop:=Np c sw/\DR p/\p.data.length<=60000
def ajw (w':θ) (c:Cf) (e e':ES) (sw:Int) (p:kZ) (x5:Int) (x10:fU):Prop:=
 ∃(j:Nat) (b:Bnd) (k:Nat) (s:Ses),e'.S[j]? =some (some b)/\b.sw=sw/\b.pr=17/\b.ad=p.src/\b.po=(wordAt p.data 0:Int)/\e'.SS[k]? =some (some s)/\s.bd=(j:Int)/\s.ra=p.dst/\s.rp=(wordAt p.data 2:Int)/\s.un=Qa c e 17 0/\x5=b.oad/\
  h_ w' x10 (YT b.oad p.dst b.opo (wordAt p.data 2:Int) false (p.data.drop 8))/\e'.SS=e.SS.set k (some s)/\
  (e.Mi (Bind.keyS [sw,17,p.src,(wordAt p.data 0:Int)])=none->PN.CO 17 (wordAt p.data 0:Int) sw c.lo c.hi c.pl e.G=some (b.opr,b.oad,b.opo)/\b.st=false)
end Go.Proofs.EN
end
section
namespace Go.Proofs.EN
open Gp Gp.V4 Go.Proofs Go.Proofs.AN Go.Proofs.VN
open Gp.Bind (Bnd Slots live GoodB freeN getS In64)
open Gp.Ses (Ses)
variable {w w':θ} {a:EA} {c:Cf} {e:ES}
theorem out_ok (h:nK w a c e) (hg:Gd c e) (hm:CfM c) (ht:e.tn<2^61) (hH:Hdl w) (h0:¬jq a 0) (sw:Int) (p:kZ) {o d:fU} (ho:h_ w o p.opts) (hd:h_ w d p.data) (h1:p.opts.length<=2^40) (h2:p.data.length<=2^40)
  (bg:∀ad,o.a=some ad->0<p.opts.length->¬jq a ad.block) (bh:∀ad,d.a=some ad->0<p.data.length->¬jq a ad.block)
  {K:Int->Int->Int->Int->Int->Int->Int->Bool->Bool->fU->fU->Int->b_}
  (hD:∀x0 x1 x2 x3 x4 x5 x6 x7 x8 x9 I why w',Ext w w'->(Law c sw p->Full c e sw 17 (wordAt p.data 0:Int) why/\MF e sw 17 p.src (wordAt p.data 0:Int) p.dst (wordAt p.data 2:Int))->K x0 x1 x2 x3 x4 x5 x6 x7 x8 x9 I why w')
  (hK:∀x0 x1 x2 x3 x4 x5 x6 x7 x8 x9 I w' a' e',gU w w' (jq a)->nK w' a' c e'->Gd c e'->Grow a a' w.heap.size->a'.x=a.x->Stp e e' sw->(Law c sw p->ajw w' c e e' sw p x5 I/\∀b,fU.at I b->¬jq a' b)->K x0 x1 x2 x3 x4 x5 x6 x7 x8 x9 I 0 w'):
  jJ (some ⟨a.x,0,none⟩) sw p.tos p.id p.off p.ttl p.proto p.src p.dst p.df p.mf o d w K:=by
 apply LP;refine gu λg0 w1 r1 e1 z1 f1=> ?_;refine gu λg1 w2 r2 e2 z2 f2=> ?_;have x2:=f1.trans f2;have r1:=r1.ext f2;have za:=f1.size;have zb:=f2.size;have h02:0<w.heap.size:=by
  have:=h.lt 0 a.x (by simp[own]);omega
 have fin:∀(W:θ) (why:Int),Ext w2 W->(Law c sw p->Full c e sw 17 (wordAt p.data 0:Int) why/\MF e sw 17 p.src (wordAt p.data 0:Int) p.dst (wordAt p.data 2:Int))->ig ξ W ⟨g1,0,none⟩ 0 λY=>iC Y ⟨g1,0,none⟩ λy0 y1 y2 y3 y4 y5 y6 y7 y8 y9 aI=>K y0 y1 y2 y3 y4 y5 y6 y7 y8 y9 aI why Y:=by
  intro W why hW hL;refine StN_f (r2.ext hW) λw4 r4 f4 z4=> ?_;refine lK r4 ?_;exact hD _ _ _ _ _ _ _ _ _ _ _ why w4 ((x2.trans hW).nw f4) hL
 intro J8;have hJ8t:∀W,Ext w2 W->¬Law c sw p->J8 true W:=by
  intro W hW hn;simp -zeta only[J8];exact fin W 1 hW λhh=>absurd hh hn
 have hJ8f:∀W,Ext w2 W->Np c sw->p.check=0->J8 false W:=by
  intro W hW ae hc0;simp -zeta only[J8];rw[Β];have r1W:=r1.ext hW;have xW:=x2.trans hW;refine lK r1W ?_;refine Wx p (hd.ext xW) h2 λk1 k2 k3 d' is w3 m f3 hd' bi bj=> ?_;refine gu λb1 w4 r4 e4 z4 f4=> ?_;refine StN_f r4 λw5 r5 f5 z5=> ?_;have aP:Ext w3 w5:=f4.nw f5;have g5:=f3.trans aP;have af:=r1W.ext g5;have hE5:=h.ext (xW.trans g5)
  cases is
  rotate_left
  ·rw[Δ];have bk:¬Law c sw p:=λhh=>by have:=bj rfl;have:=hh.2.1.1;omega
   refine lK af ?_;refine YZ (K:=λx53 x54 x55 x56 W=>_) r5 ?_;refine Zu hE5 sw (by unfold In64;have:=h.cf.sw;obtain⟨q1,q2⟩:=ae;omega) p (ho.ext (xW.trans g5)) h1 k1 k2 k3 (hd'.ext aP) bi λy0 y1 y2 y3 y4 y5 y6 y7 y8 y9 aI why w6 f6=> ?_;refine StN_f ((r2.ext hW).ext (g5.trans f6)) λw7 r7 f7 z7=> ?_;refine lK r7 ?_;exact hD _ _ _ _ _ _ _ _ _ _ _ why w7 (((xW.trans g5).trans f6).nw f7) λhh=>absurd hh bk
  rw[Β];refine lK af ?_;refine cmS10 (ae8 p (ho.ext (xW.trans g5)) (hd.ext (xW.trans g5)) h1 h2) ?_;rintro x y z ee w6 ⟨⟨ix,iz,hp0,aJ⟩,f6⟩;refine gu λb2 w7 r7 e7 z7 f7=> ?_;refine StN_f r7 λw8 r8 f8 z8=> ?_;have bm:Ext w6 w8:=f7.nw f8;have g8:=(g5.trans f6).trans bm;by_cases aK:ee=0;rotate_left
  ·rw[show (ee !=0)=true by rw[aj3];exact aK,Δ];refine cmS1 (agA ee w8) ?_;rintro r w9 ⟨hr,hw9⟩;subst hw9;exact fin w9 r (hW.trans g8) λhh=>absurd (aJ hh.2.1).1 aK
  subst aK;show cond false _ _;rw[Β];obtain⟨rfl,am⟩:=hp0 rfl;have an:Law c sw p->p.proto=17/\y=(wordAt p.data 0:Int)/\z=(wordAt p.data 2:Int):=λhh=>⟨hh.2.1.1,(aJ hh.2.1).2.1,(aJ hh.2.1).2.2⟩;have aQ:=r1W.ext g8;have x8:=xW.trans g8;refine Ld_i 0 p.proto r8 (Ld_i 5 p.src aQ (Ld_i 1 y r8 ?_));refine gu λb3 w9 r9 e9 z9 f9=> ?_;refine StN_f r9 λJ ag f10 z10=> ?_;have zc:=f3.size;have zd:=f6.size;have ze:=f9.size;have x810:Ext w8 J:=f9.nw f10;have I:=x8.trans x810;have r1A:=aQ.ext x810;have r2A:=(r2.ext hW).ext (g8.trans x810);have rpA:=r8.ext x810;intro J122;have bn:∀{pr},pr=p.proto->MF e sw pr p.src y p.dst (if pr=1 then 0 else z)->Law c sw p->MF e sw 17 p.src (wordAt p.data 0:Int) p.dst (wordAt p.data 2:Int):=by
   rintro pr rfl hn hh;obtain⟨q1,q2,q3⟩:=an hh;rw[q1,Ε (by omega),q2,q3] at hn;exact hn
  have aR:∀(W:θ) (g:Nat) (dd:Int),Ext J W->(Law c sw p->Full c e sw 17 (wordAt p.data 0:Int) dd/\MF e sw 17 p.src (wordAt p.data 0:Int) p.dst (wordAt p.data 2:Int))->J122 ⟨g,0,none⟩ (PE dd) W:=by
   intro W g dd hx hL;simp -zeta only[J122];refine gu λt Y Z aw ax f11=> ?_;refine cmS0 (adT ((hH.ext (I.trans hx)).ext f11) Z) ?_;rintro q N ⟨rfl,f12,ao⟩;rw[Δ];have r12d:=ao.drew;refine Ld_i 0 dd r12d ?_;have zx:=hx.size;have aS:Ext J N.drew:=((hx.trans f11).new f12 λy hy e=>by omega).trans (Ext.drew N);refine StN_f (r2A.ext aS) λaa bo f13 z13=> ?_;refine⟨by rw[(r12d.fr f13 (by have:=r2A.lt;omega)).cell];rfl,?_⟩;refine lK bo ?_;exact hD _ _ _ _ _ _ _ _ _ _ _ dd aa ((I.trans aS).nw f13) hL
  have aT:∀(W:θ) (g:Nat) (a':EA) (e':ES) (bd sid nx:Int) (kn:Bool),J.heap.size<=W.heap.size->J.heap.size<=g->gU J W (jq a)->nK W a' c e'->Gd c e'->Grow a a' J.heap.size->¬jq a' g->a'.x=a.x->
    Flow c e e' sw p.proto p.src y p.dst (if p.proto=1 then 0 else z) bd sid kn->(p.proto≠6->nx=0)->Row W g (PS bd true sid kn nx p.dst (if p.proto=1 then 0 else z))->J122 ⟨g,0,none⟩ .nilIface W:=by
   intro W g a' e' bd sid nx kn hz hzg hf hE hG ah bp ar ab ay hr;simp -zeta only[J122];have aq:∀b,jq a b->b<w.heap.size:=λb ⟨k,hk⟩=>h.lt k b hk;have zz2:=xW.size;have zz8:=x8.size;have zz10:=I.size;have lt2:=r8.lt;refine gu λt Y Z aw ax f11=> ?_;refine cmS0 (adU _ Y) ?_;rintro q N ⟨rfl,hw⟩;subst hw;rw[Β];have hf1:=hf.ext f11;have hr1:=hr.ext f11;have rp1:=rpA.fr hf1 λhb=>by have:=aq _ hb;omega
   refine rd7 (Q:=λy0 y1 y2 y3 y4 y5 y6=>Ld ν N ⟨b2,0,none⟩ λy7=>Ld ν N (Addr.add ⟨g,0,none⟩ 4) λy8=>ni (some ⟨a.x,0,none⟩) y0 y1 y2 y3 y4 y5 y6 y7 y8 N _) hr1 ?_;refine Ld_i 0 p.proto rp1 (Ld_i 4 nx hr1 ?_);rw[<- ar];obtain⟨q1,q2,q3,q4⟩:=ab.eq;obtain⟨jb,bb,az,U,hb1,hb2,hb3,hb4⟩:=ab.bnd;have ib:In64 bd:=by
    have:=(ady.1 U).1;have:=hE.db.len;have:=h.cf.b1;rw[az];unfold In64;omega
   have ira:In64 p.dst:=by
    have:=(oH hc0).1.2.1.2;unfold kG at this;unfold In64;omega
   have irp:In64 (if p.proto=1 then 0 else z):=by unfold In64;split<;>omega
   refine agy (hE.ext f11) hG hm am (by omega) (ab.ses.imp (λ⟨g1,k,s0,g2,g3,_⟩=>⟨g1,k,s0,g2,g3⟩) λ⟨g1,g2,g3⟩=>⟨g1,g2,g3,⟨jb,bb,az,U⟩,ib,ira,irp⟩) λaa a2 M F k s f13 hk4 bq hst hs hE2 hG2 aA ac=> ?_;have aB:=aiu ab hs (M:=M) (F:=F) (l:=Bo e'.l (k:Int) ⟨(k:Int),max (Qa c e' p.proto nx).toNat e'.wn,e'.tn+1⟩);generalize hE2e:({e' with SS:=e'.SS.set k (some s),M:=M,l:=Bo e'.l (k:Int) ⟨(k:Int),max (Qa c e' p.proto nx).toNat e'.wn,e'.tn+1⟩,tn:=e'.tn+1,F:=F}:ES)=e2 at hE2 hG2 aB;have hf3:gU J aa (jq a):=hf1.trans f13 λb hb ho=>(ah b ho).elim id λhh=>by omega
   have hf3w:gU w aa (jq a):=(I _).trans hf3 λ_ _ q=>q;have hr3:=hr1.fr f13 bp;intro J153;have hJ153:∀(u:Nat) (W:θ),Ext aa W->Row W u [.int .i64 bb.sw,.int .i64 bb.pr,.int .i64 bb.ad,.int .i64 bb.po,.int .i64 bb.opr,.int .i64 bb.oad,.int .i64 bb.opo,.bool bb.st]->J153 ⟨u,0,none⟩ W:=by
    intro u W hW hu;simp -zeta only[J153];have lt1:=r1A.lt;have lt2':=r2A.lt;have fW:=hf3.ext hW;have fWw:=hf3w.ext hW;have r1W:=r1A.fr fW λhb=>by have:=aq _ hb;omega
    have r2W:=r2A.fr fW λhb=>by have:=aq _ hb;omega
    refine lK r1W ?_;have g5:W.cell? (Addr.add (Addr.add ⟨u,0,none⟩ 4) 1)=some (.int .i64 bb.oad):=by rw[gJ,gJ,hu.cell];rfl
    have g6:W.cell? (Addr.add (Addr.add ⟨u,0,none⟩ 4) 2)=some (.int .i64 bb.opo):=by rw[gJ,gJ,hu.cell];rfl
    refine iU (k:= .int .i64) (y:=bb.oad) g5 (iU (k:= .int .i64) (y:=bb.opo) g6 ?_);refine afZ p (ho.fr fWw bg) (hd.fr fWw bh) h1 h2 bb.oad bb.opo λy0 y1 y2 y3 y4 y5 y6 y7 y8 y9 aI ee aL f14 hR=> ?_;refine gu λv aU af aV aW f15=> ?_;refine StN_f af λaC aD f16 aX=> ?_;have zf14:=f14.size;have aE:Ext aL aC:=f15.nw f16;refine lK aD ?_;refine StN_f (r2W.ext (f14.trans aE)) λaY br f17 z17=> ?_;refine lK br ?_;have zw:=hW.size;have zfw:=hf3w.size;have aZ:gU W aY (·=g1):=((f14.trans aE) _).trans f17 λ_ _ q=>q;have hg1:∀b,jq a2 b->b≠g1:=by
     intro b hb;rcases aA b hb with hb|hb
     ·rcases ah b hb with hb|hb
      ·have:=aq _ hb;omega
      ·omega
     ·have:=hf.size;omega
    refine hK _ _ _ _ _ _ _ _ _ _ _ aY a2 e2 (fWw.trans aZ λb hb he=>by omega) ((hE2.ext hW).fr aZ λk b hb he=>hg1 b ⟨k,hb⟩ he) hG2 ?_ (ac.trans ar) aB λhL=> ?_
    ·intro b hb;rcases aA b hb with hb|hb
     ·rcases ah b hb with hb|hb
      ·exact .inl hb
      ·exact .inr (by omega)
     ·exact .inr (by have:=hf.size;have:=f11.size;omega)
    ·obtain⟨au,hy,hz⟩:=an hL;have aM:=hG.inv.mp jb bb U;have bt:=h.cf.hp _ aM.2.2.1;have hR:=hR ⟨hL.2.1,⟨by unfold kG;unfold CN.mD at bt;omega,(oH hc0).1.2.1.2⟩,by have:=aM.2.2.2.2.1;omega,hL.2.2⟩;have bu:FU bb.opo (wordAt p.data 0:Int)=bb.opo:=Ε (by have:=aM.2.2.2.2.1.1;omega);obtain⟨_,hR2,_,hR3,hR4⟩:=hR;rw[bu,show FU (-1) (wordAt p.data 2:Int)=(wordAt p.data 2:Int) from Ζ rfl] at hR3;have aN:s.bd=(jb:Int)/\s.ra=p.dst/\s.rp=z:=by
      rcases hs with ⟨rfl,hk,s0,hs0,rfl⟩|⟨rfl,ba,rfl⟩
      ·rcases ab.ses with ⟨_,k2,s2,g1,g2,g3,g4,g5⟩|⟨g,_⟩
       ·have:k2=k:=by omega
        subst this;rw[hs0] at g2;have:s0=s2:=by simpa using g2
        subst this;exact⟨g3.trans az,g4,g5.trans (Ε (by omega))⟩
       ·cases g
      ·exact⟨az,rfl,Ε (by omega)⟩
     have bv:k<e'.SS.length:=by
      rcases hs with ⟨_,_,s0,hs0,_⟩|⟨_,ba,_⟩
      ·exact(ady.1 hs0).1
      ·exact(Gp.Ses.jm 0 ba).1
     have aO:=ay (by omega);refine⟨?_,λy hy ⟨k,hk⟩=>by have:=hR4 y hy;have:=(hE2.ext hW).lt k y hk;omega⟩;refine⟨jb,bb,k,s,by rw[<- hE2e];exact U,hb1,hb2.trans au,hb3,hb4.trans hy,?_,aN.1,aN.2.1,aN.2.2.trans hz,?_,hR2,?_,?_,?_⟩
     ·rw[<- hE2e];show (e'.SS.set k _)[k]? =_;rw[ajo,Ζ rfl,Ζ bv]
     ·rw[bq,au,aO];unfold Qa;rw[q2]
     ·have q3:=(hR3.ext aE).fr f17 λad ha h0 e=>jW (r2W.ext (f14.trans aE)) (by simp) (hR3.ext aE) ha h0 e;exact q3
     ·rw[<- hE2e,<- q1]
     ·intro bw;rcases ab.was with ⟨_,bc⟩|⟨_,_,i,o,Mi,Mo,hbi,bx,be,he'⟩
      ·rw[au,hy,bw] at bc;cases bc
      ·have bz:=(Gp.Bind.jm 0 bx).1;have:jb=i:=by omega
       subst this;rw[he'] at U;have U:(e.S.set jb (some ⟨sw,p.proto,p.src,y,o.1,o.2.1,o.2.2,false⟩))[jb]? =some (some bb):=U;rw[ajo,Ζ rfl,Ζ bz] at U;have U:=akT (akT U);subst U;rw[au,hy] at be;exact⟨be,rfl⟩
   clear_value J153;have hE3:=hE2.ext (Ext.drew aa);have bf:getS e2.S bd=some bb:=Gp.Bind.nV.2 ⟨by omega,by rw[az,Η,<- hE2e];exact U⟩;refine kF.2 (iU (k:= .ptr) (y:=some ⟨a2.B.d,0,none⟩) (by rw[gJ,<- ac];exact hE3.c2) ?_);refine Ld_i 0 bd hr3.drew ⟨?_,?_⟩
   ·refine cmS14 (Jh hE3.db bd) ?_;rintro a1 a2' a3 a4 a5 a6 a7 a8 r aL ⟨_,hR,f14⟩;rw[bf] at hR;obtain⟨rfl,rfl,rfl,rfl,rfl,rfl,rfl,rfl⟩:=hR;refine gu λu aU af aV aW f15=> ?_;have ai:=(Ext.drew aa).trans (f14.trans f15);refine⟨by rw[(hr3.ext ai).cell];rfl,by rw[gJ,<- ac];exact(hE2.ext ai).c2,?_⟩;refine StN_f af λaC aD f16 aX=> ?_;have zq:=((Ext.drew aa).trans f14).size;exact hJ153 u aC (ai.nw f16) aD
   ·refine gu λu aU af aV aW f15=> ?_;have ai:=(Ext.drew aa).trans f15;refine⟨by rw[(hr3.ext ai).cell];rfl,by rw[gJ,<- ac];exact(hE2.ext ai).c2,?_⟩;refine cmS14 (Jh (hE2.ext ai).db bd) ?_;rintro a1 a2' a3 a4 a5 a6 a7 a8 r aL ⟨_,hR,f14⟩;rw[bf] at hR;obtain⟨rfl,rfl,rfl,rfl,rfl,rfl,rfl,rfl⟩:=hR;refine StN_f (af.ext f14) λaC aD f16 aX=> ?_;have zq:=(Ext.drew aa).size;exact hJ153 u aC ((ai.trans f14).nw f16) aD
  clear_value J122;have aq:∀b,jq a b->b<w.heap.size:=λb ⟨k,hk⟩=>h.lt k b hk;have zz2:=xW.size;have zz8:=x8.size;have zz10:=I.size;have lt1:=r1A.lt;have lt2:=rpA.lt;have lt3:=ag.lt;have aj:∀(V:θ),Row V b3 [.int .i64 sw,.int .i64 p.proto,.int .i64 p.src,.int .i64 y]->V.cell? (Addr.add ⟨b3,0,none⟩ 0)=some (.int .i64 sw)/\V.cell? (Addr.add ⟨b3,0,none⟩ 1)=some (.int .i64 p.proto)/\V.cell? (Addr.add ⟨b3,0,none⟩ 2)=some (.int .i64 p.src)/\V.cell? (Addr.add ⟨b3,0,none⟩ 3)=some (.int .i64 y):=
   λV hr=>⟨by rw[gJ,hr.cell];rfl,by rw[gJ,hr.cell];rfl,by rw[gJ,hr.cell];rfl,by rw[gJ,hr.cell];rfl⟩
  have ck:∀(V:θ) (R:Prop),Row V g0 (gQ p.tos p.id p.off p.ttl p.proto p.src p.dst p.df p.mf o d)->Row V b2 [.int .i64 p.proto,.int .i64 y,.int .i64 z]->Row V b3 [.int .i64 sw,.int .i64 p.proto,.int .i64 p.src,.int .i64 y]->R->
    UK (gQ p.tos p.id p.off p.ttl p.proto p.src p.dst p.df p.mf o d) V ⟨g0,0,none⟩ 0 (V.cell? (Addr.add ⟨b2,0,none⟩ 2)=some (.int .i64 z)/\V.cell? (Addr.add ⟨g0,0,none⟩ 6)=some (.int .i64 p.dst)/\V.cell? ⟨b2,0,none⟩=some (.int .i64 p.proto)/\
     V.cell? (Addr.add ⟨b3,0,none⟩ 0)=some (.int .i64 sw)/\V.cell? (Addr.add ⟨b3,0,none⟩ 1)=some (.int .i64 p.proto)/\V.cell? (Addr.add ⟨b3,0,none⟩ 2)=some (.int .i64 p.src)/\V.cell? (Addr.add ⟨b3,0,none⟩ 3)=some (.int .i64 y)/\R):=by
   intro V R k1 k2 k3 hR;obtain⟨q1,q2,q3,q4⟩:=aj V k3;exact Gx k1 ⟨by rw[gJ,k2.cell];rfl,by rw[gJ,k1.cell];rfl,by rw[k2.cell];rfl,q1,q2,q3,q4,hR⟩
  have ck4:∀(V:θ) (R:Prop),Row V g0 (gQ p.tos p.id p.off p.ttl p.proto p.src p.dst p.df p.mf o d)->Row V b3 [.int .i64 sw,.int .i64 p.proto,.int .i64 p.src,.int .i64 y]->R->
    UK (gQ p.tos p.id p.off p.ttl p.proto p.src p.dst p.df p.mf o d) V ⟨g0,0,none⟩ 0 (V.cell? (Addr.add ⟨b3,0,none⟩ 0)=some (.int .i64 sw)/\V.cell? (Addr.add ⟨b3,0,none⟩ 1)=some (.int .i64 p.proto)/\V.cell? (Addr.add ⟨b3,0,none⟩ 2)=some (.int .i64 p.src)/\V.cell? (Addr.add ⟨b3,0,none⟩ 3)=some (.int .i64 y)/\R):=by
   intro V R k1 k3 hR;obtain⟨q1,q2,q3,q4⟩:=aj V k3;exact Gx k1 ⟨q1,q2,q3,q4,hR⟩
  have isrc:0<=p.src/\p.src<=4294967295:=by
   have:=(oH hc0).1.2.1.1;unfold kG at this;omega
  have ira:In64 p.dst:=by
   have:=(oH hc0).1.2.1.2;unfold kG at this;unfold In64;omega
  have irp:In64 (if p.proto=1 then 0 else z):=by unfold In64;split<;>omega
  have dlaw:∀dd:Int,(Full c e sw p.proto y dd\/(p.proto=6/\dd=8)\/(p.proto=1/\dd=9))->(p.proto=6\/MF e sw p.proto p.src y p.dst (if p.proto=1 then 0 else z))->Law c sw p->Full c e sw 17 (wordAt p.data 0:Int) dd/\MF e sw 17 p.src (wordAt p.data 0:Int) p.dst (wordAt p.data 2:Int):=by
   intro dd aF hn hL;obtain⟨au,q2,_⟩:=an hL;refine⟨?_,bn rfl (hn.resolve_left (by omega)) hL⟩;rcases aF with h|h|h
   ·rw[au,q2] at h;exact h
   ·omega
   ·omega
  have aG:∀V,Ext J V->jS (some ⟨a.x,0,none⟩) sw p.proto p.src y p.dst (if p.proto=1 then 0 else z) p.tos p.id p.off p.ttl p.proto p.src p.dst p.df p.mf o d V λr258 r259 r260 r261 r262 r263 r264 r265 w266=>Al w266 (.cells ⟨alO⟩ 96) λa268 w267=>UK (gQ p.tos p.id p.off p.ttl p.proto p.src p.dst p.df p.mf o d) w267 ⟨g0,0,none⟩ 0 (w267.cell? (Addr.add ⟨b2,0,none⟩ 2)=some (.int .i64 z)/\w267.cell? (Addr.add ⟨g0,0,none⟩ 6)=some (.int .i64 p.dst)/\w267.cell? ⟨b2,0,none⟩=some (.int .i64 p.proto)/\
     w267.cell? (Addr.add ⟨b3,0,none⟩ 0)=some (.int .i64 sw)/\w267.cell? (Addr.add ⟨b3,0,none⟩ 1)=some (.int .i64 p.proto)/\w267.cell? (Addr.add ⟨b3,0,none⟩ 2)=some (.int .i64 p.src)/\w267.cell? (Addr.add ⟨b3,0,none⟩ 3)=some (.int .i64 y)/\ig (PS r258 r259 r260 r261 r262 r263 r264) w267 a268 0 λw269=>J122 a268 r265 w269):=by
   intro V hV;have zV:=hV.size;refine Ze (h.ext (I.trans hV)) hg hm p (ho.ext (I.trans hV)) (hd.ext (I.trans hV)) h1 h2 ae am isrc ⟨ix.1,ix.2⟩ ira irp ?_ ?_
   ·intro dd W aF hn hx;refine gu λg Y Z aw ax f11=> ?_;have O:=hV.trans (hx.trans f11);refine ck _ _ (r1A.ext O) (rpA.ext O) (ag.ext O) ?_;refine StN_f Z λN ao f12 z12=> ?_;have zx:=hx.size;exact aR N g dd (O.nw f12) (dlaw dd aF hn)
   ·intro W a' e' bd sid kn nx hf hE hG ah ar ab ay;have zx:=hf.size;refine gu λg Y Z aw ax f11=> ?_;have av:gU J Y (jq a):=((hV _).trans hf λ_ _ q=>q).ext f11;have n1:∀b,jq a b->b≠g0/\b≠b2/\b≠b3:=λb hb=>by have:=aq b hb;omega
    refine ck _ _ (r1A.fr av λhb=>(n1 _ hb).1 rfl) (rpA.fr av λhb=>(n1 _ hb).2.1 rfl) (ag.fr av λhb=>(n1 _ hb).2.2 rfl) ?_;refine StN_f Z λN ao f12 z12=> ?_;have n2:∀k b,own a' k b->b<W.heap.size:=hE.lt;have aH:¬jq a' g:=λ⟨k,hk⟩=>by have:=n2 k _ hk;omega
    have hE2:=(hE.ext f11).fr f12 λk b hb he=>aH ⟨k,he ▸ hb⟩;exact aT N g a' e' bd sid nx kn (by omega) (by omega) (av.trans f12 λb hb he=>by omega) hE2 hG (λb hb=>(ah b hb).imp id λq=>by omega) aH ar ab ay ao
  have ak:∀V g,Ext J V->J.heap.size<=g->Row V g (PS 0 false 0 false 0 0 0)->jS (some ⟨a.x,0,none⟩) sw p.proto p.src y p.dst (if p.proto=1 then 0 else z) p.tos p.id p.off p.ttl p.proto p.src p.dst p.df p.mf o d V λr272 r273 r274 r275 r276 r277 r278 r279 w280=>ig (PS r272 r273 r274 r275 r276 r277 r278) w280 ⟨g,0,none⟩ 0 λw281=>J122 ⟨g,0,none⟩ r279 w281:=by
   intro V g hV bA hr;have zV:=hV.size;have ltg:=hr.lt;refine Ze (h.ext (I.trans hV)) hg hm p (ho.ext (I.trans hV)) (hd.ext (I.trans hV)) h1 h2 ae am isrc ⟨ix.1,ix.2⟩ ira irp ?_ ?_
   ·intro dd W aF hn hx;refine StN_f (hr.ext hx) λN ao f12 z12=> ?_;have zx:=hx.size;exact aR N g dd ((hV.trans hx).nw f12) (dlaw dd aF hn)
   ·intro W a' e' bd sid kn nx hf hE hG ah ar ab ay;have zx:=hf.size;have av:gU J W (jq a):=(hV _).trans hf λ_ _ q=>q;have ng:¬jq a g:=λhb=>by have:=aq _ hb;omega
    refine StN_f (hr.fr hf ng) λN ao f12 z12=> ?_;have aH:¬jq a' g:=λhb=>by
     rcases ah _ hb with hb|hb
     ·exact ng hb
     ·omega
    have hE2:=hE.fr f12 λk b hb he=>aH ⟨k,he ▸ hb⟩;exact aT N g a' e' bd sid nx kn (by omega) bA (av.trans f12 λb hb he=>by omega) hE2 hG (λb hb=>(ah b hb).imp id λq=>by omega) aH ar ab ay ao
  have xd:=Ext.drew J;have r1d:=r1A.drew;have rpd:=rpA.drew;have r10d:=ag.drew;refine Ld_i 0 sw r10d (Ld_i 1 p.proto r10d (Ld_i 2 p.src r10d (Ld_i 3 y r10d ?_)));refine Ld_i 0 p.proto rpd (Ld_i 6 p.dst r1d (Ld_i 2 z rpd ?_));refine lK r1d ⟨?_,?_⟩
  ·refine cmS13 (Ph _ _ _ _) ?_;rintro _ _ V ⟨rfl,rfl,fV⟩;have xV:=xd.trans fV;refine ck4 _ _ (r1A.ext xV) (ag.ext xV) ⟨aG V xV,?_⟩;refine gu λg Y Z aw ax f11=> ?_;have O:=xV.trans f11;have zV:=xV.size;refine ck _ _ (r1A.ext O) (rpA.ext O) (ag.ext O) ?_;exact ak Y g O (by omega) Z
  ·refine gu λg Y Z aw ax f11=> ?_;have O:=xd.trans f11;have zV:=xd.size;refine ck _ _ (r1A.ext O) (rpA.ext O) (ag.ext O) ?_;refine cmS13 (Ph _ _ _ _) ?_;rintro _ _ V ⟨rfl,rfl,fV⟩;have xV:=O.trans fV;refine ck4 _ _ (r1A.ext xV) (ag.ext xV) ?_;exact ak V g xV (by omega) (Z.ext fV)
 clear_value J8;refine cmS0 (Ji (h.ext x2)) ?_;rintro q w3 ⟨rfl,hw⟩;subst hw;rw[ab6,Β];refine cmS0 (P_ (h.ext x2) sw) ?_;rintro q w3 ⟨rfl,hw⟩;subst hw;by_cases ae:Np c sw;rotate_left
 ·rw[abW ae,aek,Δ];exact hJ8t _ (Ext.refl _) λhh=>ae hh.1
 rw[ab9 ae,ab6,Β];refine lK r1 ?_;refine cmS0 (Wy p (ho.ext x2) (hd.ext x2) h1 h2) ?_;rintro q w3 ⟨rfl,f3⟩;by_cases hc0:p.check=0;rotate_left
 ·rw[abW hc0];exact hJ8t w3 f3 λhh=>hc0 hh.2.1.2.1
 cases hq:(!p.mf && decide (p.off<=0))
 ·rw[Bool.and_false];refine hJ8t w3 f3 λhh=> ?_;obtain⟨_,⟨_,_,g2,g3,_⟩,_⟩:=hh;rw[g2,ab9 g3] at hq;cases hq
 ·rw[ab9 hc0];exact hJ8f w3 f3 ae hc0
end Go.Proofs.EN
end
section
namespace Go.Proofs.EN
open Gp Gp.V4 Go.Proofs Go.Proofs.AN Go.Proofs.VN
open Gp.Bind (Bnd Slots live GoodB freeN getS In64)
open Gp.Ses (Ses)
open Gp.Wh (Tm)
variable {w w':θ} {a:EA} {c:Cf} {e:ES}
def hop (now:Nat) (t:Int):Nat:=if (if (1099511627776:Int)<t then 1099511627776 else t)>(now:Int) then (if (1099511627776:Int)<t then 1099511627776 else t).toNat else now
theorem ahj (now:Nat) (t:Int):(if (if (1099511627776:Int)<t then 1099511627776 else t)>(now:Int) then (if (1099511627776:Int)<t then 1099511627776 else t) else (now:Int))=(hop now t:Int):=by
 unfold hop;split<;>split<;>omega
theorem ahU {now:Nat} (h:now<=2^40) (t:Int):now<=hop now t/\hop now t<=2^40:=by
 unfold hop;split<;>(try split)<;>omega
theorem acR (h:nK w a c e) {j:Nat} {b:Bnd} (hb:e.S[j]? =some (some b)) {K:Bool->b_}
  (hK:∀r w',Ext w w'->(r=true->b.st=false/\SN.Fg e.SS (j:Int)=[])->K r w'):
  rV (some ⟨a.x,0,none⟩) (j:Int) w K:=by
 apply Gg;have I:getS e.S (j:Int)=some b:=Gp.Bind.nV.2 ⟨by omega,by rw[Η];exact hb⟩;refine gu λq w1 r1 e1 z1 f1=> ?_;have h1:=h.ext f1;refine kF.2 (iU (k:= .ptr) (y:=some ⟨a.B.d,0,none⟩) (by rw[gJ];exact h1.c2) ?_);refine cmS14 (Jh h1.db _) ?_;rintro a1 a2 a3 a4 a5 a6 a7 a8 r w2 ⟨rfl,hr,f2⟩;rw[I] at hr;obtain⟨rfl,rfl,rfl,rfl,rfl,rfl,rfl,rfl⟩:=hr;refine gu λt w3 r3 e3 z3 f3=> ?_;refine StN_f r3 λw4 r4 f4 z4=> ?_;have zf1:=f1.size;have zf2:=f2.size;have zf3:=f3.size;have N:Ext w1 w4:=(f2.trans f3).nw f4;have x4:Ext w w4:=f1.trans N;have O:=r1.ext N;have h4:=h.ext x4;intro J;have hJ:∀s,(s=false->b.st=false)->J s:=by
  intro s hs;simp -zeta only[J]
  cases s
  rotate_left
  ·rw[Δ];refine gX (i:=0) O rfl (by simp) λw5 r5 f5' z5=> ?_;have f5:gU w4 w5 (·=q):=f5' _ rfl;refine Ld_b 0 false r5 ?_;exact hK _ w5 (x4.nw f5) λh=>by cases h
  rw[Β];refine kF.2 (iU (k:= .ptr) (y:=some ⟨a.T.d,0,none⟩) (by rw[gJ];exact h4.c3) ?_);refine cmS5 (aa6 w4 _ _) ?_;rintro v w5 ⟨f5,g0,g1,rfl,p0,p1⟩;have h5:=h4.ext f5;have u:=O.ext f5;have hla:nG none w5=w5.heap.size+1:=rfl;have hz:=(x4.trans f5).size;have hz5:=f5.size;have lt1:=u.lt;refine Pm (SN.abE c.ns.toNat e.SS e.M a.T g0 g1 (j:Int)) (λi W=>i=0/\Ext w5 W) (λx W=>x= .ret/\SN.Fg e.SS (j:Int)≠[]/\Row W q [.bool false]/\Ext w W) (by simp) (λW f _=>⟨rfl,f⟩) ?_ ?_ ?_ ?_ ?_ ?_ ?_ ?_
  ·rintro i W ⟨_,hx⟩;exact⟨p0.ext hx,p1.ext hx,h5.se.ext hx⟩
  ·rintro i W W' ⟨hi,hx⟩ hf;exact⟨hi,(hx.fr hf).new λb hb he=>by omega⟩
  ·rintro x W W' ⟨k1,k2,k3,k4⟩ hf;exact⟨k1,k2,k3.fr hf (by omega),(k4.fr hf).new λb hb he=>by omega⟩
  ·exact λx W hx=> .inl hx.1
  ·rintro i x W Kb hx ⟨_,hI⟩ hlt hn hj;refine⟨trivial,?_⟩;have R:Ext w5 (gG W (nG none w5)):=(hI.fr (gU.gG W _)).new λb hb he=>by omega
   refine gX (i:=0) (u.ext R) rfl (by simp) λw6 r6 f6' z6=> ?_;have f6:gU (gG W (nG none w5)) w6 (·=q):=f6' _ rfl;refine hj .ret w6 (·=q) f6 (λy hy=>by omega) ⟨rfl,?_,r6,((x4.trans f5).trans R).new f6 λy hy e=>by omega⟩;intro h0;rw[h0] at hx;simp[SN.yS] at hx
  ·rintro W ⟨h0,hx⟩ hm;have h0:SN.Fg e.SS (j:Int)=[]:=by
    unfold SN.yS at h0;rw[ahv] at h0;exact akX.1 h0
   refine gX (i:=0) (u.ext hx) rfl (by simp) λw6 r6 f6' z6=> ?_;have f6:gU W w6 (·=q):=f6' _ rfl;have fp:=gU.pJ w6 w5.heap.size (.deferred none);have hzx:=hx.size;refine⟨?_,Ld_b 0 true (r6.fr fp (by omega)) ?_⟩
   ·have:=f6.same w5.heap.size (aiQ.1 (hm rfl)).1 (by omega);rw[this];exact hm rfl
   exact hK _ _ ((((x4.trans f5).trans hx).nw f6).new fp λb hb he=>by omega) λ_=>⟨hs rfl,h0⟩
  ·rintro W ⟨_,k2,k3,k4⟩ hm;refine⟨hm rfl,?_⟩;have fp:=gU.pJ W w5.heap.size (.deferred none);refine Ld_b 0 false (k3.fr fp (by omega)) ?_;exact hK _ _ ((k4.fr fp).new λb hb he=>by omega) λh=>by cases h
  ·rintro id W ⟨h,_⟩;cases h
 clear_value J;rw[I,ajv,ab6,Β];refine Ld_b 7 b.st r4 ?_;exact hJ _ λh=>h
theorem agB {S:Gp.Ses.Slots} {j:Int} (h:SN.Fg S j=[]) {k:Nat} {s:Ses} (hs:S[k]? =some (some s)):s.bd≠j:=by
 intro e;have:((k:Int),s)∈SN.Fg S j:=aku.2 ⟨Gp.Ses.nH.2 ⟨k,hs,by omega⟩,by simpa using e⟩;rw[h] at this;cases this
structure Adv (c:Cf) (e:ES) (D:List Tm) (i:Nat) (e1:ES):Prop where
 inv:Inv c e1
 rest:e1.now=e.now/\e1.l=e.l/\e1.wn=e.wn/\e1.tn=e.tn
 ss:∀(k:Nat) (s:Ses),e1.SS[k]? =some (some s)↔e.SS[k]? =some (some s)/\∀t∈D.take i,t.id≠(k:Int)
 sb:∀(k:Nat) (s:Ses),e1.SS[k]? =some (some s)->∃(j:Nat) (b:Bnd),s.bd=(j:Int)/\e1.S[j]? =some (some b)
 old:∀(j:Nat) (b:Bnd),e1.S[j]? =some (some b)->e.S[j]? =some (some b)
 cnt:(Gp.Ses.live 0 e1.SS).length+i=(Gp.Ses.live 0 e.SS).length
theorem Adv.step {D:List Tm} {i:Nat} {e1:ES} (h:Adv c e D i e1) {t:Tm} (hi:D[i]? =some t) {k:Nat} {s:Ses} (hk:t.id=(k:Int)) (hs:e1.SS[k]? =some (some s)) {j:Nat} {b:Bnd} (hj:s.bd=(j:Int)) (hb:e1.S[j]? =some (some b))
  {S:Slots} {Mi Mo:ByteArray->Option Int} {Q:List Int} {G:List (PN.O3×Unit)} {M:ByteArray->Option Int} {rest:Prop}
  (hS:S=e1.S\/(S=e1.S.set j none/\SN.Fg (e1.SS.set k none) (j:Int)=[]))
  (hI:Inv c {e1 with S:=S,Mi:=Mi,Mo:=Mo,Q:=Q,G:=G,SS:=e1.SS.set k none,M:=M}):
  Adv c e D (i+1) {e1 with S:=S,Mi:=Mi,Mo:=Mo,Q:=Q,G:=G,SS:=e1.SS.set k none,M:=M}:=by
 have I:=(ady.1 hs).1;have J:=(ady.1 hi).1;have N:D[i]=t:=(ady.1 hi).2;have gs:∀(k':Nat) (s':Ses),(e1.SS.set k none)[k']? =some (some s')↔k'≠k/\e1.SS[k']? =some (some s'):=by
  intro k' s';rw[ajo];by_cases e:k=k'
  ·subst e;rw[Ζ rfl,Ζ I];simp
  ·rw[Ε e];exact⟨λh=>⟨λe'=>e e'.symm,h⟩,λh=>h.2⟩
 refine⟨hI,h.rest,λk' s'=> ?_,λk' s' h'=> ?_,λj' b' h'=> ?_,?_⟩
 ·show (e1.SS.set k none)[k']? =_↔_;rw[gs,h.ss,ajM J,N];constructor
  ·rintro⟨q1,q2,q3⟩;refine⟨q2,λu hu=> ?_⟩;rcases ajk.1 hu with hu|hu
   ·exact q3 u hu
   ·rw[aiB] at hu;subst hu;omega
  ·rintro⟨q1,q2⟩;exact⟨λe=>q2 t (ajk.2 (.inr (aiB.2 rfl))) (by omega),q1,λu hu=>q2 u (ajk.2 (.inl hu))⟩
 ·have h2:(e1.SS.set k none)[k']? =some (some s'):=h';obtain⟨n1,n2⟩:=(gs k' s').1 h2;obtain⟨j',b',q1,q2⟩:=h.sb k' s' n2;refine⟨j',b',q1,?_⟩;show S[j']? =_;rcases hS with rfl|⟨rfl,h0⟩
  ·exact q2
  ·rw[ajo,Ε]
   ·exact q2
   ·intro e;exact agB h0 h2 (by omega)
 ·have h2:S[j']? =some (some b'):=h';rcases hS with rfl|⟨rfl,_⟩
  ·exact h.old _ _ h2
  ·rw[ajo] at h2;split at h2
   ·split at h2<;>cases h2
   ·exact h.old _ _ h2
 ·have:=Gp.Ses.kV 0 hs;have h3:=h.cnt;show (Gp.Ses.live 0 (e1.SS.set k none)).length+(i+1)=_;omega
theorem Inv.ss (h:Inv c e) (SS:Gp.Ses.Slots) (M:ByteArray->Option Int):Inv c {e with SS:=SS,M:=M}:=⟨h.ql,h.cn,h.gv,h.mp⟩
end Go.Proofs.EN
end
