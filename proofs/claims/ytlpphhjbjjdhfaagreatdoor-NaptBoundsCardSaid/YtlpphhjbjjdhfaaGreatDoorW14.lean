import Derived.Test.YtlpphhjbjjdhfaaGreatDoorW13
set_option maxRecDepth 100000
set_option maxHeartbeats 2000000
section
namespace Go.Proofs.AN
open Gp Gp.V4 Go.Proofs Go.Proofs.VN
open Gp.Bind (In64)
section
variable {w0 w w':θ}
def evN (n:Int):Value:= Β n
theorem agG (s0:fU) (x0 x1 x2 x3 x4 x5 x6:Int) (x7 x8:Bool) (x9:fU) (N:Int) {d:fU} {m:List UInt8} (hd:iD w d m) (hm:m.length<=2^40):
  sJ s0 x0 x1 x2 x3 x4 x5 x6 x7 x8 x9 d N w λr w'=>(r= -1\/(0<=r/\r+2<=m.length))/\Ext w w':=by
 apply Ho;refine gy λa w1 r1 e1 z1 f1=> ?_;refine WN.JD (enc:=WN.ϑ) (ev:=evN) λw2 g2 z2 f2=> ?_;have O:a≠w1.heap.size:=by have:=r1.lt;omega
 refine yX (ev:=evN) g2 WN.eqW 17 6 (WN.YP _) λw3 g3 f3 z3=> ?_;refine yX (ev:=evN) g3 WN.eqW 6 16 (WN.YP _) λw4 g4 f4 z4=> ?_;refine yX (ev:=evN) g4 WN.eqW 1 2 (WN.YP _) λw5 g5 f5 z5=> ?_;have f35:gV w2 w5 (·=w1.heap.size):=(f3.trans f4 λ_ _ h=>h).trans f5 λ_ _ h=>h;have s1:=f1.size;have x5:Ext w w5:=(f1.trans f2).nw f35;have r5:=(r1.ext f2).fr f35 O;have hd5:=hd.ext x5;refine ig (k:= .int .i64) (y:=x4) (by rw[gJ,gJ,r5.cell];rfl) ?_;have key:∀(v:Int),(v=6\/v=16\/v=2\/v=0)->(let u:Bool->b_:=λR I=>(bif R then ((-1:Int)= -1\/(0<=(-1:Int)/\(-1:Int)+2<=(m.length:Int)))/\Ext w I else (v= -1\/(0<=v/\v+2<=(m.length:Int)))/\Ext w I)
   Ld .slice w5 (Addr.add (Addr.add ⟨a,0,none⟩ 1) 10) λU=>(bif (decide ((ο.wrap (v+2))>(U.len:Int))) then u true w5 else
    Ld ν w5 (Addr.add (Addr.add ⟨a,0,none⟩ 1) 4) λY=>(bif (Y==17) then
     uf w5 ⟨a,0,none⟩ λZ aa ab ac ae af ag ah ai aj ak am an=>jO Z aa ab ac ae af ag ah ai aj ak am an v w5 λao aq=>u (ao==0) aq
    else u false w5))):=by
  intro v hv;intro J;refine ig (k:= .slice) (y:=d) (by rw[gJ,gJ,r5.cell];rfl) ?_;rw[Α];have hl:=hd.1;by_cases c1:v+2>(d.len:Int)
  ·rw[aeJ c1,aaU];exact⟨.inl rfl,x5⟩
  rw[adn c1,aaT];have hJ:∀q W,Ext w W->J q W:=by
   intro q W hx;simp only[J]
   cases q
   ·exact⟨.inr ⟨by omega,by omega⟩,hx⟩
   ·exact⟨.inl trivial,hx⟩
  clear_value J;refine ig (k:= .int .i64) (y:=x4) (by rw[gJ,gJ,r5.cell];rfl) ?_
  cases (x4==17)
  ·exact hJ _ _ x5
  ·rw[aaU];refine Qj r5 ?_;refine cmS1 (OU _ _ _ _ _ _ _ _ _ _ _ _ hd5 hm v) ?_;rintro n w6 ⟨_,f6⟩;exact hJ _ _ (x5.trans f6)
 refine Eu (k:= .int .i64) g5 WN.eqW x4 (WN.YP _) (λ_=>key 0 (by omega)) (λb hb=> ?_);have hb':b=6\/b=16\/b=2\/b=0:=by
  rw[BR] at hb;split at hb
  ·cases hb;omega
  rw[BR] at hb;split at hb
  ·cases hb;omega
  rw[BR] at hb;split at hb
  ·cases hb;omega
  ·cases hb
 exact key b hb'
theorem chs {pc:Nat} {cs:List Ch} (hr:Row w pc (cs.flatMap chV)):lK 3 chV w ⟨some ⟨pc,0,none⟩,cs.length,cs.length⟩ cs:=(iQ.row (n:=3) (f:=chV) hr).sl acv (by omega)
theorem acJ {s d:fU} {l m:List UInt8} (hs:iD w s l) (hl:l.length<=2^40) (hd:iD w d m) (x0 x1 x2 x3 x4 x5 x6:Int) (x7 x8:Bool) (x9:fU) {h:Int} (h20:20<=h) (hm8:8<=m.length) (hml:h+(m.length:Int)<=l.length)
  (aa pa an n:Int) (ha:aa=12\/aa=16) (hpa:pa=0\/pa=2):
  oQ s x0 x1 x2 x3 x4 x5 x6 x7 x8 x9 d h aa pa an n w λr w'=>(∃L:List UInt8,iD w' r L/\L.length<=2^40)/\Ext w w':=by
 apply Jg;refine gy λa w1 r1 e1 z1 f1=> ?_;intro J;have hJ:∀q,q=0\/q=2\/q=4->J q:=by
  intro q hq;simp only[J];refine Ld_s 0 s r1 ?_;refine cmS19 (TG (hs.ext f1) hl aa an 4 (by omega) (by omega) (by omega)) ?_;rintro c0 c1 c2 w2 ⟨⟨hc0,⟨m1,hm1,lm1⟩,m2,hm2,lm2⟩,f2⟩;have hc0:=hc0.symm;subst hc0;refine gy λb w3 r3 e3 z3 f3=> ?_;refine StN_f r3 λw4 r4 f4 z4=> ?_;have R:Ext w2 w4:=f3.nw f4;have g4:=f2.trans R;have U:=r1.ext g4;have x4':=f1.trans g4;refine Ld_s 0 s U (Ld_i 12 h U ?_);rw[Α (n:=h+q) (by omega) (by omega)];refine cmS19 (TG (hs.ext x4') hl (h+q) n 2 (by omega) (by omega) (by omega)) ?_;rintro d0 d1 d2 w5 ⟨⟨rfl,⟨m3,hm3,lm3⟩,m4,hm4,lm4⟩,f5⟩;refine gy λk w6 r6 e6 z6 f6=> ?_;refine StN_f r6 λw7 r7 f7 z7=> ?_;have I:Ext w5 w7:=f6.nw f7;have g7:=f5.trans I;have x7':=x4'.trans g7;have W:=U.ext g7;have N:=r4.ext g7;have C1:adf w7 l.length (aa,c1,c2):=⟨by show 0<=aa;omega,by show aa<l.length;omega,⟨m1,(hm1.ext R).ext g7,lm1⟩,m2,(hm2.ext R).ext g7,lm2⟩;have C2:adf w7 l.length (h+q,d1,d2):=⟨by show 0<=h+q;omega,by show h+q<l.length;omega,⟨m3,hm3.ext I,lm3⟩,m4,hm4.ext I,lm4⟩;refine Ld_s 0 s W ?_;refine Ld_i 0 aa N (Ld_s 1 c1 N (Ld_s 2 c2 N ?_));refine gy λpc w8 r8 e8 z8 f8=> ?_;have x8':=x7'.trans f8;refine cmS2 (ZT (cs:=[(aa,c1,c2)]) (hs.ext x8') hl 10 (by omega) (by omega) (chs (cs:=[(aa,c1,c2)]) r8) (by simp) (by
   intro c hc;simp only[akU] at hc;subst hc;exact C1.ext f8)) ?_
  rintro o1 w9 ⟨⟨L1,B1,hL1⟩,f9,n9⟩;have Y:=f8.trans f9;have x9':=x7'.trans Y;have aj:=W.ext Y;refine Qj aj ?_;refine cmS1 (agG _ _ _ _ _ _ _ _ _ _ _ _ (hd.ext x9') (by omega)) ?_;rintro r O ⟨hr,f10⟩;have x710:=Y.trans f10;have u:=x7'.trans x710;have r110:=W.ext x710;have r410:=N.ext x710;have r710:=r7.ext x710;have Z:Buf O o1 (bytesV L1):=B1.fr (f10 λ_=>False) (by simp);rcases hr with rfl|⟨hr0,hr1⟩
  ·
   rw[show ((-1:Int)== -1)=true from rfl,aaU];have ab:=Ext.drew O;refine Ld_i 0 (h+q) r710.drew ?_;have Bd:Buf O.drew o1 (bytesV L1):=Z.fr (ab λ_=>False) (by simp);refine acy (src:=d2) Bd (by omega) (by omega) λs17 ak=> ?_;refine Ld_s 2 d2 r710.drew ?_;refine ak O.drew m4 _ Bd (((hm4.ext I).ext x710).ext ab) λnn ag L' hL' am f11=> ?_;have hn9:=x8'.size;exact⟨⟨L',iD.iG am,by omega⟩,(u.trans ab).new f11 λy hy hb=>by have:=n9 y hb;omega⟩
  have ao:(r== -1)=false:=by rw[ama];omega
  rw[ao,aaT];refine Ld_i 12 h r110 ?_;refine ig (k:= .int .i64) (y:=x4) (by rw[gJ,gJ,r110.cell];rfl) ?_;have aq:ο.wrap (r+h)=r+h:=Α;rw[aq];by_cases h1:(x4==1)=true
  ·rw[h1,aaU];refine Ld_i 0 (h+q) r710 (Ld_s 1 d1 r710 (Ld_s 2 d2 r710 ?_));refine gy λpc2 ag ac ar au f11=> ?_;refine cmS2 (ZT (cs:=[(h+q,d1,d2)]) ((iD.iG Z).ext f11) (by omega) (r+h) (by omega) (by omega) (chs (cs:=[(h+q,d1,d2)]) ac) (by simp) (by
    intro c hc;simp only[akU] at hc;subst hc;rw[hL1];exact(C2.ext x710).ext f11)) ?_
   rintro o2 av ⟨⟨L2,B2,hL2⟩,f12,n12⟩;exact⟨⟨L2,iD.iG B2,by omega⟩,(u.trans f11).trans f12⟩
  ·have h1:(x4==1)=false:=by simpa using h1
   rw[h1,aaT];refine Ld_i 0 aa r410 (Ld_s 1 c1 r410 (Ld_s 2 c2 r410 ?_));refine Ld_i 0 (h+q) r710 (Ld_s 1 d1 r710 (Ld_s 2 d2 r710 ?_));refine gy λpc2 ag ac ar au f11=> ?_;refine cmS2 (ZT (cs:=[(aa,c1,c2),(h+q,d1,d2)]) ((iD.iG Z).ext f11) (by omega) (r+h) (by omega) (by omega) (chs (cs:=[(aa,c1,c2),(h+q,d1,d2)]) ac) (by simp) (by
    intro c hc;rw[hL1];simp only[agN,ajH,akL] at hc;rcases hc with rfl|rfl
    ·exact(C1.ext x710).ext f11
    ·exact(C2.ext x710).ext f11)) ?_
   rintro o2 av ⟨⟨L2,B2,hL2⟩,f12,n12⟩;have ah:=(u.trans f11).trans f12;have r112:=(r110.ext f11).ext f12;refine cmS8 (Pz (iD.iG B2) (by omega) (r+h) 2) ?_;rintro g e ae ⟨hw,_⟩;subst hw;have hf:(∃L:List UInt8,iD ae o2 L/\L.length<=2^40)/\Ext w ae:=⟨⟨L2,iD.iG B2,by omega⟩,ah⟩;have ht:zi o2 (r+h) 65535 2 ae λaw _ ai=>(∃L:List UInt8,iD ai aw L/\L.length<=2^40)/\Ext w ai:=by
    refine cmS7 (Vr (iD.iG B2) (by omega) (r+h) 65535 2) ?_;rintro o3 e3 w14 ⟨af,f14,_⟩;have ax:=(SC (l:=L2) (by unfold jc kV;refine⟨by omega,by omega,?_⟩;have:(2:Int).toNat=2:=rfl;rw[this];omega) (by omega) (by omega) af).2;refine⟨⟨_,iD.iG ax,?_⟩,ah.trans f14⟩;have h2:(2:Int).toNat=2:=rfl;rw[h2];simp only[ahY,ajT,alx,iT];omega
   cases (g==0)
   ·exact hf
   ·rw[aaU];refine ig (k:= .int .i64) (y:=x4) (by rw[gJ,gJ,r112.cell];rfl) ?_
    cases (x4==17)
    ·exact hf
    ·exact ht
 clear_value J;refine ig (k:= .int .i64) (y:=x4) (by rw[gJ,gJ,r1.cell];rfl) ?_
 cases (x4==1)
 ·exact hJ _ (by omega)
 ·exact hJ _ (by omega)
end
end Go.Proofs.AN
end
section
namespace Go.Proofs.AN
open Gp Gp.V4 Go.Proofs Go.Proofs.VN
open Gp.Bind (In64)
section
variable {w0 w w':θ}
theorem acX {s:fU} {l:List UInt8} (hs:iD w s l) (hl:l.length<=2^40) (an n:Int) {K:fU->Int->Int->Int->Int->Int->Int->Int->Bool->Bool->fU->fU->Int->Int->b_}
  (hK:∀s0 t i o l' p s' d' df mf op da hd e w' (m:List UInt8),Ext w w'->iD w' da m->m.length<=2^40->(e=0->s0=s/\20<=hd/\hd+(m.length:Int)<=(l.length:Int)/\8<=m.length)->K s0 t i o l' p s' d' df mf op da hd e w'):Df s an n w K:=by
 apply Zg;refine gy λa w1 r1 e1 z1 f1=> ?_;refine Qi (hs.ext f1) hl λt i o l' p s' d' df mf op da x y z e w2 f2 _ _ _ _ _=> ?_;refine gy λb w3 r3 e3 z3 f3=> ?_;refine gy λk w4 r4 e4 z4 f4=> ?_;refine StN_f (r3.ext f4) λw5 r5 f5 z5=> ?_;have z1f:=f1.size;have z2f:=f2.size;have z3f:=f3.size;refine StN_f (r4.fr f5 (by omega)) λw6 r6 f6 z6=> ?_;have x6:Ext w w6:=((((f1.trans f2).trans f3).trans f4).nw f5).nw f6;have u:Ext w1 w6:=((((f2).trans f3).trans f4).nw f5).nw f6;have zr:∀(W:θ) (e:Int),Ext w1 W->e≠0->h_ (nV ⟨none,0,0⟩ 0 0 0 0 0 0 0 false false ⟨none,0,0⟩ ⟨none,0,0⟩ 0) W ⟨a,0,none⟩ 0 λI=>uf I ⟨a,0,none⟩ λy0 y1 y2 y3 y4 y5 y6 y7 y8 y9 U Y Z=>K y0 y1 y2 y3 y4 y5 y6 y7 y8 y9 U Y Z e I:=by
  intro W e hW he;refine StN_f (r1.ext hW) λw2 r2 f2 z2=> ?_;refine Qj r2 ?_;exact hK _ _ _ _ _ _ _ _ _ _ _ _ _ e w2 [] ((f1.trans hW).nw f2) iD.nil (by simp) (λh=>absurd h he)
 by_cases he:e=0;rotate_left
 ·have:(e !=0)=true:=by rw[alM];exact he
  rw[this,aaU];exact zr w6 e u he
 subst he;rw[show ((0:Int) !=0)=false from rfl,aaT];have hT:∀W,Ext w1 W->h_ (nV ⟨none,0,0⟩ 0 0 0 0 0 0 0 false false ⟨none,0,0⟩ ⟨none,0,0⟩ 0) W ⟨a,0,none⟩ 0 λJ=>uf J ⟨a,0,none⟩ λaa ab ac ae af ag ah ai aj ak am ao aq=>K aa ab ac ae af ag ah ai aj ak am ao aq 1 J:=λW hW=>zr W 1 hW (by omega);have hF:∀W,Ext w1 W->wK s W λar au av aw ax ay az aA aB aC aD aE aF aG aH=>h_ (nV ar au av aw ax ay az aA aB aC aD aE aF) aH ⟨a,0,none⟩ 0 λN=>uf N ⟨a,0,none⟩ λaI aJ aK aL aM aN aO aP aQ aR aS aT aU=>K aI aJ aK aL aM aN aO aP aQ aR aS aT aU aG N:=by
  intro W hW;refine aan (hs.ext (f1.trans hW)) hl λt i o l' p s' d' df mf op da hd e w7 m f7 O hm hm8 _ _ _ s0 h0=> ?_;have R:=r1.ext (hW.trans f7);refine StN_f R λw8 r8 f8 z8=> ?_;refine Qj r8 ?_;refine hK _ _ _ _ _ _ _ _ _ _ _ _ _ e w8 m (((f1.trans hW).trans f7).nw f8) (O.fr f8 λad ha h0 e=>jX R (by simp) O ha h0 e) hm λhe=> ?_;obtain⟨g1,g2,g3⟩:=h0 he;exact⟨g1,g2,g3,hm8 he⟩
 refine cmS0 (BM an w6) ?_;rintro r w7 ⟨_,hw⟩;subst hw
 cases r
 ·exact hT w7 u
 rw[adp,aaT];refine cmS0 (rQ n 2 w7) ?_;rintro r w8 ⟨_,hw⟩;subst hw
 cases r
 ·exact hT w8 u
 ·exact hF w8 u
theorem ajD {s:fU} {l:List UInt8} (hs:iD w s l) (hl:l.length<=2^40) (an n:Int):TF s an n w λr _ w'=>(∃L:List UInt8,iD w' r L/\L.length<=2^40)/\Ext w w':=by
 apply Ϸ;refine acX hs hl an n λs0 t i o l' p s' d' df mf op da hd e w1 m f1 u hm h0=> ?_;refine gy λa w2 r2 e2 z2 f2=> ?_;refine StN_f r2 λw3 r3 f3 z3=> ?_;have h:Ext w1 w3:=f2.nw f3;by_cases he:e=0;rotate_left
 ·have:(e !=0)=true:=by rw[alM];exact he
  rw[this,aaU];exact⟨⟨[],iD.nil,by simp⟩,f1.trans h⟩
 subst he;rw[show ((0:Int) !=0)=false from rfl,aaT];obtain⟨rfl,I,J,hm8⟩:=h0 rfl;refine Qj r3 ?_;have x3:=f1.trans h;refine cmS2 (acJ (hs.ext x3) hl (u.ext h) _ _ _ _ _ _ _ _ _ _ I hm8 J 16 2 an n (by omega) (by omega)) ?_;rintro r w4 ⟨hr,f4⟩;exact⟨hr,x3.trans f4⟩
theorem ags {s:fU} {l:List UInt8} (hs:iD w s l) (hl:l.length<=2^40) (an n:Int):NP s an n w λr _ w'=>(∃L:List UInt8,iD w' r L/\L.length<=2^40)/\Ext w w':=by
 apply WH;refine acX hs hl an n λs0 t i o l' p s' d' df mf op da hd e w1 m f1 u hm h0=> ?_;refine gy λa w2 r2 e2 z2 f2=> ?_;refine StN_f r2 λw3 r3 f3 z3=> ?_;have h:Ext w1 w3:=f2.nw f3;by_cases he:e=0;rotate_left
 ·have:(e !=0)=true:=by rw[alM];exact he
  rw[this,aaU];exact⟨⟨[],iD.nil,by simp⟩,f1.trans h⟩
 subst he;rw[show ((0:Int) !=0)=false from rfl,aaT];obtain⟨rfl,I,J,hm8⟩:=h0 rfl;refine Qj r3 ?_;have x3:=f1.trans h;refine cmS2 (acJ (hs.ext x3) hl (u.ext h) _ _ _ _ _ _ _ _ _ _ I hm8 J 12 0 an n (by omega) (by omega)) ?_;rintro r w4 ⟨hr,f4⟩;exact⟨hr,x3.trans f4⟩
theorem abM (k c r:Int) {s:fU} {l:List UInt8} (hs:iD w s l) (hl:l.length<=2^40) (q:Bool) (an n:Int) {K:Int->Int->Int->fU->Int->b_}
  (hK:∀k c r s' e w' (L:List UInt8),Ext w w'->iD w' s' L->L.length<=2^40->K k c r s' e w'):zM k c r s q an n w K:=by
 apply P_;refine gy λa w1 r1 e1 z1 f1=> ?_;refine gy λb w2 r2 e2 z2 f2=> ?_;have R:=r1.ext f2;have x2:=f1.trans f2;have za:=f1.size;have zb:=f2.size;have fin:∀(o:fU) (e:Int) (W:θ) (L:List UInt8),Ext w2 W->iD W o L->L.length<=2^40->
   (bif (e !=0) then h_ amU W ⟨b,0,none⟩ 0 λh=>Ld ν h (Addr.add ⟨b,0,none⟩ 0) λaa=>Ld ν h (Addr.add ⟨b,0,none⟩ 1) λab=>Ld ν h (Addr.add ⟨b,0,none⟩ 2) λac=>Ld .slice h (Addr.add ⟨b,0,none⟩ 3) λae=>K aa ab ac ae e h
    else St W (Addr.add ⟨a,0,none⟩ 3) (Δ o) λu=>Ld ν u (Addr.add ⟨a,0,none⟩ 0) λU=>Ld ν u (Addr.add ⟨a,0,none⟩ 1) λY=>Ld ν u (Addr.add ⟨a,0,none⟩ 2) λZ=>Ld .slice u (Addr.add ⟨a,0,none⟩ 3) λN=>h_ [Β U,Β Y,Β Z,Δ N] u ⟨b,0,none⟩ 0 λI=>Ld ν I (Addr.add ⟨b,0,none⟩ 0) λaf=>Ld ν I (Addr.add ⟨b,0,none⟩ 1) λag=>Ld ν I (Addr.add ⟨b,0,none⟩ 2) λah=>Ld .slice I (Addr.add ⟨b,0,none⟩ 3) λai=>K af ag ah ai 0 I):=by
  intro o e W L hW ho hL
  cases (e !=0)
  rotate_left
  ·rw[aaU];refine StN_f (r2.ext hW) λw3 r3 f3 z3=> ?_;refine X5 (x3:=⟨none,0,0⟩) (K:=λy0 y1 y2 y3 W=>K y0 y1 y2 y3 e W) r3 ?_;exact hK _ _ _ _ _ w3 [] ((x2.trans hW).nw f3) iD.nil (by simp)
  rw[aaT];have r1W:=R.ext hW;refine gY (i:=3) r1W rfl (by simp) λw3 r3 f3' z3=> ?_;have f3:gV W w3 (·=a):=f3' _ rfl;simp only[agO,af7] at r3;have ho3:=ho.fr f3 λad ha h0 e=>jX r1W (by simp) ho ha h0 e;refine X5 (K:=λU Y Z N W=>_) r3 ?_;have r2W:=(r2.ext hW).fr f3 (by omega);refine StN_f r2W λw4 r4 f4 z4=> ?_;refine X5 (K:=λy0 y1 y2 y3 W=>K y0 y1 y2 y3 0 W) r4 ?_;exact hK _ _ _ _ _ w4 L (((x2.trans hW).nw f3).nw f4) (ho3.fr f4 λad ha h0 e=>jX r2W (by simp) ho3 ha h0 e) hL
 intro J;have hJ:∀v,(∀Q:Value->b_,(∀(o:fU) (e:Int) W (L:List UInt8),Ext w2 W->iD W o L->L.length<=2^40->Q (.tuple ⟨[Δ o,Β e]⟩) W)->jy υ [.one .slice,.one ν] v [Δ s,Β an,Β n] w2 Q)->J v:=by
  intro v hv;simp only[J];refine Ld_s 3 s R ?_;refine hv _ λo e W L hW ho hL=> ?_;exact⟨o,e,rfl,fin o e W L hW ho hL⟩
 clear_value J;have hs2:=hs.ext x2
 cases q
 ·refine hJ _ λQ hQ=> ?_;refine CN.j_ (by kernel_rfl) ?_;refine Calls.mono (ajD hs2 hl an n) ?_;rintro e W' ⟨o,e',he,⟨L,hL,O⟩,hx⟩;exact⟨o,e',he,hQ o e' W' L hx hL O⟩
 ·refine hJ _ λQ hQ=> ?_;refine CN.j_ (by kernel_rfl) ?_;refine Calls.mono (ags hs2 hl an n) ?_;rintro e W' ⟨o,e',he,⟨L,hL,O⟩,hx⟩;exact⟨o,e',he,hQ o e' W' L hx hL O⟩
end
end Go.Proofs.AN
end
section
namespace Go.Proofs.EN
open Gp Gp.V4 Go.Proofs Go.Proofs.AN Go.Proofs.VN
open Gp.Bind (Bnd Slots live GoodB freeN getS In64)
open Gp.Ses (Ses)
variable {w w':θ} {a:EA} {c:Cf} {e:ES}
abbrev KV:=Int->Int->Int->Int->Int->Int->Int->Bool->Bool->fU->fU->b_
theorem SE (p:lV) {o d:fU} (ho:iD w o p.opts) (h1:p.opts.length<=2^40) (k1 k2 k3:Int) {s:fU} {m:List UInt8} (hs:iD w s m) (hm:m.length<=2^40) (q:Bool) (an n:Int) {K:KV}
  (hK:∀x0 x1 x2 x3 x4 x5 x6 x7 x8 x9 N w',Ext w w'->K x0 x1 x2 x3 x4 x5 x6 x7 x8 x9 N w'):
  Dc p.tos p.id p.off p.ttl p.proto p.src p.dst p.df p.mf o d k1 k2 k3 s q an n w K:=by
 apply Zd;refine gy λa w1 r1 e1 z1 f1=> ?_;refine gy λb w2 r2 e2 z2 f2=> ?_;refine gy λg w3 r3 e3 z3 f3=> ?_;have x3:=(f1.trans f2).trans f3;have za:=f1.size;have zb:=f2.size;have zc:=f3.size;have O:=(r1.ext f2).ext f3;have h:=r2.ext f3;refine X5 (K:=λx0 x1 x2 x3 W=>_) h ?_;refine abM k1 k2 k3 (hs.ext x3) hm q an n λu0 u1 u2 s' e' w4 L f4 hL hll=> ?_;refine StN_f (h.ext f4) λw5 r5 f5 z5=> ?_;have x5:=(x3.trans f4).nw f5;have hL5:=hL.fr f5 λad ha h0 e=>jX (h.ext f4) (by simp) hL ha h0 e;have I:=(O.ext f4).fr f5 (by omega);have R:=(r3.ext f4).fr f5 (by omega);refine gZ I rfl ?_;refine cmS2 (nR (ho.ext x5) (by omega)) ?_;rintro oc w6 ⟨_,_,f6,_⟩;have J:=I.ext f6;refine gY J rfl (by simp) λw7 r7 f7' z7=> ?_;have f7:gV w6 w7 (·=a):=f7' _ rfl;have x7:=(x5.trans f6).nw f7;have U:=(r5.ext f6).fr f7 (by omega);have Y:=(R.ext f6).fr f7 (by omega);have hL7:=(hL5.ext f6).fr f7 λad ha h0 e=>jX J (by simp) (hL5.ext f6) ha h0 e;refine X5 (K:=λx0 x1 x2 x3 W=>_) U ?_;refine cmS7 (XQ ⟨u0,u1,u2,L⟩ hL7) ?_;rintro r e8 w8 ⟨_,_,f8,_,_⟩;have Z:=r7.ext f8;refine gY Z rfl (by simp) λw9 r9 f9' z9=> ?_;have f9:gV w8 w9 (·=a):=f9' _ rfl;simp only[agO,af7] at r9;have x9:=(x7.trans f8).nw f9;refine kJ r9 ?_;have aa:=(Y.ext f8).fr f9 (by omega);refine gU aa rfl rfl λab ac u z10=> ?_;have f10:=u _ rfl;refine kJ ac ?_;exact hK _ _ _ _ _ _ _ _ _ _ _ ab (x9.new f10 λy hy e=>by omega)
theorem ϖ (h:lH w a c e) (i:Int) (hi:In64 i) (p:lV) {o d:fU} (ho:iD w o p.opts) (h1:p.opts.length<=2^40) (k1 k2 k3:Int) {s:fU} {m:List UInt8} (hs:iD w s m) (hm:m.length<=2^40)
  {K:Int->Int->Int->Int->Int->Int->Int->Bool->Bool->fU->fU->Int->b_}
  (hK:∀x0 x1 x2 x3 x4 x5 x6 x7 x8 x9 ae why w',Ext w w'->K x0 x1 x2 x3 x4 x5 x6 x7 x8 x9 ae why w'):
  qh (some ⟨a.x,0,none⟩) i p.tos p.id p.off p.ttl p.proto p.src p.dst p.df p.mf o d k1 k2 k3 s w K:=by
 apply EI;refine gy λg1 w1 r1 e1 z1 f1=> ?_;refine gy λg2 w2 r2 e2 z2 f2=> ?_;refine gy λg3 w3 r3 e3 z3 f3=> ?_;have x3:=(f1.trans f2).trans f3;have za:=f1.size;have zb:=f2.size;have zc:=f3.size;have U:=(r1.ext f2).ext f3;have Y:=r2.ext f3;have fin:∀(W:θ) (why:Int),Ext w3 W->h_ ξ W ⟨g3,0,none⟩ 0 λZ=>iq Z ⟨g3,0,none⟩ λy0 y1 y2 y3 y4 y5 y6 y7 y8 y9 aa=>K y0 y1 y2 y3 y4 y5 y6 y7 y8 y9 aa why Z:=by
  intro W why hW;refine gU (r3.ext hW) rfl rfl λw4 r4 f4' z4=> ?_;have f4:=f4' _ rfl;refine kJ r4 ?_;exact hK _ _ _ _ _ _ _ _ _ _ _ why w4 ((x3.trans hW).new f4 λy hy e=>by omega)
 refine gZ Y rfl ?_;refine Qi (hs.ext x3) hm λt i' o' l' p' s' dd df mf op da x y z ee w4 f4 is ix iy idd iz=> ?_;refine gy λb1 w5 r5 e5 z5 f5=> ?_;refine gy λb2 w6 r6 e6 z6 f6=> ?_;refine gU (r5.ext f6) rfl rfl λw7 r7 f7' z7=> ?_;have f7:=f7' _ rfl;have zd:=f5.size;have ze:=f6.size;have zf:=f4.size;refine gU (r6.fr f7 (by omega)) rfl rfl λw8 r8 f8' z8=> ?_;have f8:=f8' _ rfl;have x8:=((f4.trans (f5.trans f6)).new f7 λy hy e=>by omega).new f8 λy hy e=>by omega
 cases (ee !=0)
 rotate_left
 ·exact fin w8 1 x8
 rw[aaT];have xd:=x8.trans (Ext.drew w8);have hE8:=h.ext (x3.trans xd);refine jM.2 (ig (by rw[gJ];exact hE8.c2) ?_);refine gZ r8.drew rfl (gZ (r7.fr f8 (by omega)).drew rfl (gZ r8.drew rfl ?_));refine cmS3 (Ir hE8.db i x dd z (by
  intro n hn;simp only[agN,ajH,akL] at hn;rcases hn with rfl|rfl|rfl|rfl
  ·exact hi
  ·exact ix
  ·exact idd
  ·exact iz)) ?_
 rintro n9 t9 w9 ⟨rfl,rfl,f9⟩;have x9:=xd.trans f9;generalize e.Mi (Bind.keyS [i,x,dd,z])=mo
 cases mo with
 |none=>
  rw[ald,afa,aaU];exact fin w9 9 x9
 |some v=>
  rw[ajX,adp,aaT];have hE9:=h.ext (x3.trans x9);refine jM.2 (ig (by rw[gJ];exact hE9.c2) ?_);refine cmS14 (Dq hE9.db _) ?_;rintro a1 a2 a3 a4 a5 a6 a7 a8 r w10 ⟨_,_,f10⟩;refine gy λb3 w11 af e11 z11 f11=> ?_;refine gU af rfl rfl λab I J z12=> ?_;have f12:=J _ rfl;have zg:=x9.size;have zh:=f10.size;have u:=((x9.trans f10).trans f11).new f12 λy hy e=>by omega
  have r112:=U.ext u;have r212:=Y.ext u;refine kJ r112 ?_;refine X5 (K:=λx0 x1 x2 x3 W=>_) r212 ?_;have g5:ab.cell? (Addr.add (Addr.add ⟨b3,0,none⟩ 4) 1)=some (Β a6):=by rw[gJ,gJ,I.cell];rfl
  have g6:ab.cell? (Addr.add (Addr.add ⟨b3,0,none⟩ 4) 2)=some (Β a7):=by rw[gJ,gJ,I.cell];rfl
  refine ig (k:= .int .i64) g5 (ig g6 ?_);refine SE p (ho.ext (x3.trans u)) h1 _ _ _ (hs.ext (x3.trans u)) hm false a6 a7 λy0 y1 y2 y3 y4 y5 y6 y7 y8 y9 aa w13 f13=> ?_;refine gU (r112.ext f13) rfl rfl λag ah N z14=> ?_;have f14:=N _ rfl;have hb3:=I.lt;have hg1:=U.lt;have hb3':w3.heap.size<=b3:=by omega
  refine ig (by rw[gJ,gJ,((I.ext f13).fr f14 (by omega)).cell];rfl) ?_;refine gY ah rfl (by simp) λai ac O z15=> ?_;have f15:gV ag ai (·=g1):=O _ rfl;simp only[agO,af7] at ac;refine kJ ac ?_;have r315:=(((r3.ext u).ext f13).fr f14 (by omega)).fr f15 (by omega);refine gU r315 rfl rfl λaj ak R z16=> ?_;have f16:=R _ rfl;refine kJ ak ?_;exact hK _ _ _ _ _ _ _ _ _ _ _ 0 aj (((((x3.trans u).trans f13).new f14 λy hy e=>by omega).nw f15).new f16 λy hy e=>by omega)
end Go.Proofs.EN
end
section
namespace Go.Proofs.EN
open Gp Gp.V4 Go.Proofs Go.Proofs.AN Go.Proofs.VN
open Gp.Bind (Bnd Slots live GoodB freeN getS In64)
open Gp.Ses (Ses)
variable {w w':θ} {a:EA} {c:Cf} {e:ES}
theorem abr (h:lH w a c e) (p:lV) {o d:fU} (ho:iD w o p.opts) (h1:p.opts.length<=2^40) (k1 k2 k3:Int) {s:fU} {m:List UInt8} (hs:iD w s m) (hm:m.length<=2^40)
  {K:Int->Int->Int->Int->Int->Int->Int->Int->Bool->Bool->fU->fU->Int->b_}
  (hK:∀i x0 x1 x2 x3 x4 x5 x6 x7 x8 x9 ae why w',Ext w w'->K i x0 x1 x2 x3 x4 x5 x6 x7 x8 x9 ae why w'):
  qZ (some ⟨a.x,0,none⟩) p.tos p.id p.off p.ttl p.proto p.src p.dst p.df p.mf o d k1 k2 k3 s w K:=by
 apply Gn;refine gy λg1 w1 r1 e1 z1 f1=> ?_;refine gy λg2 w2 r2 e2 z2 f2=> ?_;refine gy λg3 w3 r3 e3 z3 f3=> ?_;have x3:=(f1.trans f2).trans f3;have za:=f1.size;have zb:=f2.size;have zc:=f3.size;have U:=(r1.ext f2).ext f3;have Y:=r2.ext f3;have fin:∀(W:θ) (why:Int),Ext w3 W->h_ ξ W ⟨g3,0,none⟩ 0 λZ=>iq Z ⟨g3,0,none⟩ λy0 y1 y2 y3 y4 y5 y6 y7 y8 y9 aa=>K 0 y0 y1 y2 y3 y4 y5 y6 y7 y8 y9 aa why Z:=by
  intro W why hW;refine gU (r3.ext hW) rfl rfl λw4 r4 f4' z4=> ?_;have f4:=f4' _ rfl;refine kJ r4 ?_;exact hK _ _ _ _ _ _ _ _ _ _ _ _ why w4 ((x3.trans hW).new f4 λy hy e=>by omega)
 refine gZ Y rfl ?_;refine Qi (hs.ext x3) hm λt i' o' l' p' s' dd df mf op da x y z ee w4 f4 is ix iy idd iz=> ?_;refine gy λb1 w5 r5 e5 z5 f5=> ?_;refine gy λb2 w6 r6 e6 z6 f6=> ?_;refine gU (r5.ext f6) rfl rfl λw7 r7 f7' z7=> ?_;have f7:=f7' _ rfl;have zd:=f5.size;have ze:=f6.size;have zf:=f4.size;refine gU (r6.fr f7 (by omega)) rfl rfl λw8 r8 f8' z8=> ?_;have f8:=f8' _ rfl;have x8:=((f4.trans (f5.trans f6)).new f7 λy hy e=>by omega).new f8 λy hy e=>by omega
 cases (ee !=0)
 rotate_left
 ·exact fin w8 1 x8
 rw[aaT];have xd:=x8.trans (Ext.drew w8);have hE8:=h.ext (x3.trans xd);refine jM.2 (ig (by rw[gJ];exact hE8.c2) ?_);refine gZ r8.drew rfl (gZ (r7.fr f8 (by omega)).drew rfl (gZ r8.drew rfl ?_));refine cmS3 (NW hE8.db x s' y (by
  intro n hn;simp only[agN,ajH,akL] at hn;rcases hn with rfl|rfl|rfl
  ·exact ix
  ·exact is
  ·exact iy)) ?_
 rintro n9 t9 w9 ⟨rfl,rfl,f9⟩;have x9:=xd.trans f9;generalize e.Mo (Bind.keyS [x,s',y])=mo
 cases mo with
 |none=>
  rw[ald,afa,aaU];exact fin w9 9 x9
 |some v=>
  rw[ajX,adp,aaT];have hE9:=h.ext (x3.trans x9);refine jM.2 (ig (by rw[gJ];exact hE9.c2) ?_);refine cmS14 (Dq hE9.db _) ?_;rintro a1 a2 a3 a4 a5 a6 a7 a8 r w10 ⟨_,_,f10⟩;refine gy λb3 w11 af e11 z11 f11=> ?_;refine gU af rfl rfl λab I J z12=> ?_;have f12:=J _ rfl;have zg:=x9.size;have zh:=f10.size;have u:=((x9.trans f10).trans f11).new f12 λy hy e=>by omega
  have r112:=U.ext u;have r212:=Y.ext u;refine kJ r112 ?_;refine X5 (K:=λx0 x1 x2 x3 W=>_) r212 ?_;have g5:ab.cell? (Addr.add ⟨b3,0,none⟩ 2)=some (Β a3):=by rw[gJ,I.cell];rfl
  have g6:ab.cell? (Addr.add ⟨b3,0,none⟩ 3)=some (Β a4):=by rw[gJ,I.cell];rfl
  refine ig (k:= .int .i64) g5 (ig (k:= .int .i64) g6 ?_);refine SE p (ho.ext (x3.trans u)) h1 _ _ _ (hs.ext (x3.trans u)) hm true a3 a4 λy0 y1 y2 y3 y4 y5 y6 y7 y8 y9 aa w13 f13=> ?_;refine gU (r112.ext f13) rfl rfl λag ah N z14=> ?_;have f14:=N _ rfl;have hb3:=I.lt;have hg1:=U.lt;have hb3':w3.heap.size<=b3:=by omega
  refine ig (by rw[gJ,((I.ext f13).fr f14 (by omega)).cell];rfl) ?_;refine gY ah rfl (by simp) λai ac O z15=> ?_;have f15:gV ag ai (·=g1):=O _ rfl;simp only[agO,af7] at ac;have r12f:=((I.ext f13).fr f14 (by omega)).fr f15 (by omega);refine gZ r12f.drew rfl ?_;refine kJ ac.drew ?_;have r315:=((((r3.ext u).ext f13).fr f14 (by omega)).fr f15 (by omega)).drew;refine gU r315 rfl rfl λaj ak R z16=> ?_;have f16:=R _ rfl;refine kJ ak ?_;exact hK _ _ _ _ _ _ _ _ _ _ _ _ 0 aj (((((x3.trans u).trans f13).new f14 λy hy e=>by omega).nw f15).trans (Ext.drew _)|>.new f16 λy hy e=>by omega)
end Go.Proofs.EN
end
section
namespace Go.Proofs
open Gp Gp.Bind
theorem Xx (most:Nat) (S:Slots) (hs:S.length=most) (A:QS) (f0:Nat):
  RJ υ [.one ν,.agg [ν,ν,ν,ν,ν,ν,ν,.bool]] (Value.func (.func GR) #[] #[(Value.pointer (some ⟨f0,0,none⟩))])
   (λi W=>Row W f0 [.pointer (some ⟨A.d,0,none⟩)]/\∃S' Mi Mo,DB W A most S' Mi Mo/\∀j o,S[j]? =some o->i<=(live 0 (S.take j)).length->S'[j]? =some o) (yD (live 0 S)):=by
 refine⟨by kernel_rfl,λn Q D hC hQ hD hy w h0=> ?_⟩;refine Calls.mono (PX (a0:= .func (.yield n) #[] #[]) (f0:=⟨f0,0,none⟩) (K:=λw'=>Q (yD (live 0 S)).length w'\/D w') ?_) (λe w' h=>h);obtain⟨r0,_,_,_,h,_⟩:=hC _ _ h0;have hl:=h.len;have hm:=h.mx;simp only[sx,r0.cell];refine cmS0 (AB h) ?_;rintro _ w2 ⟨rfl,hw⟩;subst hw;simp only[sx,adp,r0.cell,h.hd.cell];have J:(yD (live 0 S)).length=(live 0 S).length:=by simp[yD]
 rw[J];refine gI (λst W=>∃i:Nat,i<=most/\st.1=(i:Int)/\Q (live 0 (S.take i)).length W) (λst _=>most - st.1.toNat) ⟨0,by omega,rfl,by simpa [live] using h0⟩ ?_;rintro⟨x,⟨⟩⟩ W ⟨i,hi,rfl,hq⟩ next I
 obtain⟨r0,_,_,_,h,hk⟩:=hC _ _ hq;by_cases hlt:i<most
 ·have u:((i:Int)<(most:Int)):=by omega
  have hS:S[i]? =some S[i]:=ade (by omega);generalize S[i]=o at hS;have c:∀j,j<9->_:=h.slot (hk _ _ hS (ai8 _));have c0:=c 0 (by omega);have c1:=c 1 (by omega);have c2:=c 2 (by omega);have c3:=c 3 (by omega);have c4:=c 4 (by omega);have c5:=c 5 (by omega);have c6:=c 6 (by omega);have c7:=c 7 (by omega);have c8:=c 8 (by omega);simp only[aki] at c0
  cases o with
  |none=>
   simp only[u,ace,aaU,d_,f_,gq,jf,ab3,c0,c1,c2,c3,c4,c5,c6,c7,c8,iM];refine⟨by omega,by trivial,DJ rfl rfl λp w3 r3 e3 z3 f3=> ?_⟩;simp only[sx,r3.cell];rw[Α];refine I _ _ ⟨i+1,by omega,by simp,?_⟩ (by simp only;omega);rw[PK hS];exact hQ _ _ _ hq f3
  |some b=>
   simp only[u,ace,aaU,d_,f_,gq,jf,ab3,c0,c1,c2,c3,c4,c5,c6,c7,c8,iM];refine⟨by omega,by trivial,DJ rfl rfl λp w3 r3 e3 z3 f3=> ?_⟩;simp only[sx,r3.cell];obtain⟨g1,g2⟩:=YS hS;refine jW (hy (live 0 (S.take i)).length ((i:Int),(b.sw,b.pr,b.ad,b.po,b.opr,b.oad,b.opo,b.st,()),()) w3 _ ?_ (hQ _ _ _ hq f3) ?_ ?_)
   ·simp only[yD,aiN,g1,ag4]
   ·intro W' hq';refine⟨true,rfl,?_⟩;simp only[adp,aaT];rw[Α];exact I _ _ ⟨i+1,by omega,by simp,by rw[g2];exact hq'⟩ (by simp only;omega)
   ·intro W' hd;refine⟨false,rfl,?_⟩;simp only[afa,aaU];exact .inr hd
 ·have u:¬((i:Int)<(most:Int)):=by omega
  simp only[u,acQ,aaT];rw[akM (by omega)] at hq;exact .inl hq
end Go.Proofs
namespace Go.Proofs.EN
open Gp Go.Proofs
open Gp.Bind (Bnd Slots live GoodB freeN getS In64)
open Gp.Ses (Ses)
variable {w w':θ} {a:EA} {c:Cf} {e:ES}
theorem acC (d:Nat) (w:θ) {K:Value->b_} (h:∀f w',Row w' f [.pointer (some ⟨d,0,none⟩)]->f=w.heap.size->w'.heap.size=f+1->Ext w w'->K (Value.func (.func GR) #[] #[(Value.pointer (some ⟨f,0,none⟩))]) w'):yC (some ⟨d,0,none⟩) w K:=by
 apply UC;exact⟨rfl,gy λf w1 r1 e1 z1 f1=>h f w1 r1 e1 z1 f1⟩
theorem take_succ {α:Type} {l:List α} {i:Nat} {x:α} (h:l[i]? =some x):l.take (i+1)=l.take i++[x]:=by
 obtain⟨hi,hx⟩:=aeK.1 h;rw[aj3 hi,hx]
def Y5 (S:Slots) (k:Int):List (Int×Bnd):=(live 0 S).filter λx=>x.2.sw==k
theorem XC {α:Type} {p:α->Bool}:∀{l:List α} {i:Nat} {x:α},l[i]? =some x->p x=true->(l.filter p)[((l.take i).filter p).length]? =some x
 |[],_,_,h,_=>by simp at h
 |y::l,0,x,h,hp=>by simp at h;subst h;simp[hp]
 |y::l,i+1,x,h,hp=>by
  have:=XC (l:=l) (i:=i) (by simpa using h) hp;rw[amI];by_cases hy:p y=true
  ·simp only[amx,hy,aiS,aiQ,aeR];exact this
  ·simp only[amx,hy];exact this
theorem ϙ {α:Type} (p:α->Bool) (l:List α) (i:Nat):(l.filter p).take ((l.take i).filter p).length=(l.take i).filter p:=by
 conv=>lhs;rw[<- ajS i l]
 rw[alZ,List.take_left' (by rw[ajS])]
def Rest (S S':Slots) (L:List (Int×Bnd)) (i:Nat):Prop:=∀(j:Nat) (o:Option Bnd),S[j]? =some o->(∀b,o=some b->((j:Int),b)∉L.take i)->S'[j]? =some o
theorem Ϧ {S:Slots} {i j:Nat} {b:Bnd} (hj:j<S.length) (hi:i<=(live 0 (S.take j)).length):((j:Int),b)∉(live 0 S).take i:=by
 have e:live 0 S=live 0 (S.take j)++live j (S.drop j):=by
  conv=>lhs;rw[<- ajS j S]
  rw[lG,ajT,alH (by omega),ahO]
 rw[e,List.take_append_of_le_length hi];intro hm;obtain⟨q,hq,he⟩:=Gp.Bind.jL.1 (ams hm);have:=(aeK.1 hq).1;rw[ajT] at this;omega
theorem adH (c:Cf) (e:ES) (a:EA) (O:e.S.length=c.nb.toNat) (f0 f1:Nat) (k:Int):
  RI υ [.one ν,.agg [ν,ν,ν,ν,ν,ν,ν,.bool]] (Value.func (.func BU) #[] #[(Value.pointer (some ⟨f0,0,none⟩)),(Value.pointer (some ⟨f1,0,none⟩))])
   (λi W=>Row W f0 [.pointer (some ⟨a.x,0,none⟩)]/\Row W f1 [Β k]/\∃a' e',lH W a' c e'/\(a'.x=a.x/\a'.B=a.B)/\Rest e.S e'.S (Y5 e.S k) i) (yD (Y5 e.S k)):=by
 refine⟨by kernel_rfl,λn w Q D hC hQ hD hy h0=> ?_⟩;refine Calls.mono (KX (a0:= .func (.yield n) #[] #[]) (f0:=⟨f0,0,none⟩) (f1:=⟨f1,0,none⟩) (K:=λw'=>(∃N,Q N (yD (Y5 e.S k)).length w')\/D w') ?_) (λe w' h=>h);refine⟨rfl,?_⟩;refine gy λt w2 r2 e2 z2 f2=> ?_;obtain⟨g0,g1,a0,e0,hE,⟨hx,hB⟩,_⟩:=hC _ _ _ (h0 w2 f2);have c2:=hE.c2;rw[hx,hB] at c2;simp only[sx,g0.cell,c2];refine acC a.B.d w2 λf w5 r5 e5 z5 f5=> ?_;have hla:kT none w5=w5.heap.size+1:=rfl;have t5:=r2.ext f5;have I:∀l,(yD l).length=l.length:=λl=>by simp[yD]
 rw[I];generalize hN:w5.heap.size+2=N;have up:∀{i W W'},Q N i W->Ext W W'->Q N i W':=λhq hx=>hQ _ _ _ _ hq (hx _);refine vC (Go.Proofs.Xx c.nb.toNat e.S O a.B f) (λi X=>Q N (((live 0 e.S).take i).filter λx=>x.2.sw==k).length X/\(Row X f [.pointer (some ⟨a.B.d,0,none⟩)]/\Row X t [.func (.yield n) #[] #[]])/\N<=X.heap.size)
  (λx X=>x= .ret/\D X) (by simp) ?_ ?_ ?_ ?_ (λx W h=> .inl h.1) ?_ ?_ ?_ (by intro id W h;exact absurd h.1 (by simp))
 ·intro X hX hz;have h0:=h0 X ((f2.trans f5).trans hX);rw[show X.heap.size=N by omega] at h0;exact⟨by simpa using h0,⟨r5.ext hX,t5.ext hX⟩,by omega⟩
 ·rintro i X ⟨hq,⟨hf,_⟩,_⟩;obtain⟨_,_,a1,e1,hE,⟨_,hB⟩,hR⟩:=hC _ _ _ hq;refine⟨hf,e1.S,e1.Mi,e1.Mo,hB ▸ hE.db,λj o hj hi=>hR j o hj ?_⟩;rintro b rfl;rw[show (Y5 e.S k).take _=_ from ϙ _ _ _];exact λhm=>Ϧ (aeK.1 hj).1 hi (alv.1 hm).1
 ·rintro i X X' ⟨hq,⟨hf,ht⟩,hz⟩ hx;exact⟨hQ _ _ _ _ hq (hx.mono λb hb=>⟨by omega,by omega⟩),⟨hf.fr hx (by omega),ht.fr hx (by omega)⟩,by have:=hx.size;omega⟩
 ·rintro x X X' ⟨hx,hd⟩ hf;exact⟨hx,hD _ _ hd (hf.mono λb hb=>by omega)⟩
 ·rintro i x X Kb hx ⟨hq,⟨hf,ht⟩,hz⟩ R hk hk2;rw[show yD (live 0 e.S)=(live 0 e.S).map _ from rfl,aiN] at hx
  cases hb:(live 0 e.S)[i]? with
  |none=>rw[hb] at hx;simp at hx
  |some p=>
  rw[hb] at hx;simp only[ag4,agP] at hx;subst hx;refine gy λu w6 r6 e6 z6 f6=> ?_;refine gU r6 rfl rfl λw7 r7 f7' z7=> ?_;have x7:Ext X w7:=f6.new (f7' (·=u) rfl) λy hy e=>by omega
  refine⟨(x7 λ_=>False).same _ R (by simp),?_⟩;have fb:=gV.gu w7 (kT none w5);have hX7:=x7.size;have zb:(gu w7 (kT none w5)).heap.size=w7.heap.size:=by simp[gu]
  have q8:Q N _ (gu w7 (kT none w5)):=hQ _ _ _ _ (up hq x7) (fb.mono λb hb=>⟨by omega,by omega⟩);have u8:=r7.fr fb (by omega);have t8:=(ht.ext x7).fr fb (by omega);have k8:=(hf.ext x7).fr fb (by omega);obtain⟨_,g1,_⟩:=hC _ _ _ q8;have base:∀S,gV (gu X (kT none w5)) (gu w7 (kT none w5)) S:=λS=>CN.CW (x7 _) _;simp only[sx,u8.cell,g1.cell];have J:=take_succ hb;by_cases hs:(p.2.sw==k)=true
  ·rw[hs,aaU];have hf1:((live 0 e.S).take (i+1)).filter (λx=>x.2.sw==k)=((live 0 e.S).take i).filter (λx=>x.2.sw==k)++[p]:=by
    rw[J,alZ,amx,hs];rfl
   simp only[sx,t8.cell,u8.cell];refine jW (hy N _ (p.1,(p.2.sw,p.2.pr,p.2.ad,p.2.po,p.2.opr,p.2.oad,p.2.opo,p.2.st,()),()) _ _ ?_ q8 (by omega) (by omega) ?_ ?_)
   ·rw[show yD (Y5 e.S k)=(Y5 e.S k).map _ from rfl,aiN,show (Y5 e.S k)[_]? =_ from XC hb hs];rfl
   ·intro W' S hq' hf' hS;refine⟨true,rfl,?_⟩;simp only[adp,aaT];refine hk W' S ((base S).trans hf' λy _ hy=>hy) (λb h1 h2=>hS b (by omega) (by omega)) ⟨?_,⟨k8.fr hf' (hS _ (by omega) (by omega)),t8.fr hf' (hS _ (by omega) (by omega))⟩,by have:=hf'.size;omega⟩;rw[hf1,ahY];exact hq'
   ·intro W' S hd hf' hS;refine⟨false,rfl,?_⟩;simp only[afa,aaU];exact hk2 _ W' S ((base S).trans hf' λy _ hy=>hy) (λb h1 h2=>hS b (by omega) (by omega)) ⟨rfl,hd⟩
  ·rw[Bool.not_eq_true] at hs;rw[hs,aaT];have hf1:((live 0 e.S).take (i+1)).filter (λx=>x.2.sw==k)=((live 0 e.S).take i).filter (λx=>x.2.sw==k):=by
    rw[J,alZ,amx,hs];simp
   exact hk _ (λ_=>False) (base _) (λb h1 h2 h3=>h3) ⟨by rw[hf1];exact q8,⟨k8,t8⟩,by omega⟩
 ·rintro W ⟨hq,_,hz⟩ hm;rw[I,akY] at hq;exact⟨hm rfl,.inl ⟨N,hQ _ _ _ _ hq ((gV.mF W _ _).mono λb hb=>⟨by omega,by omega⟩)⟩⟩
 ·rintro W ⟨_,hd⟩ hm;exact⟨hm rfl,.inr (hD _ _ hd ((gV.mF W _ _).mono λb hb=>by omega))⟩
theorem ai7 (w:θ) (x:Nat) (k:Int):xJ (some ⟨x,0,none⟩) k w λv w'=>Ext w w'/\∃f0 f1,v=Value.func (.func BU) #[] #[(Value.pointer (some ⟨f0,0,none⟩)),(Value.pointer (some ⟨f1,0,none⟩))]/\Row w' f0 [.pointer (some ⟨x,0,none⟩)]/\Row w' f1 [Β k]/\w.heap.size<=f0/\w.heap.size<=f1:=by
 apply OC;refine⟨rfl,?_⟩;refine gy λf0 w1 r1 e1 z1 g1=>⟨rfl,?_⟩;refine gy λf1 w2 r2 e2 z2 g2=> ?_;exact⟨g1.trans g2,f0,f1,rfl,r1.ext g2,r2,by omega,by omega⟩
end Go.Proofs.EN
end
section
namespace Go.Proofs.EN
open Gp Go.Proofs
open Gp.Bind (Bnd Slots live GoodB freeN getS In64)
open Gp.Ses (Ses)
variable {w w':θ} {a:EA} {c:Cf} {e:ES}
def Pk (c:Cf) (e:ES):Prop:=∀(j:Nat) (b:Bnd),e.S[j]? =some (some b)->b.st=true\/(c.lo<=b.opo/\b.opo<=c.hi)
structure Nx (c:Cf) (w w':θ) (a a':EA) (e e':ES):Prop where
 fr:gV w w' (iZ a)
 eng:lH w' a' c e'
 gd:Gd c e'
 gr:Grow a a' w.heap.size
 x:a'.x=a.x
 pk:Pk c e->Pk c e'
 tn:e'.tn<=e.tn+1
theorem Nx.ext (h:lH w a c e) (hg:Gd c e) (hx:Ext w w'):Nx c w w' a a e e:=⟨hx _,h.ext hx,hg,Grow.refl a _,rfl,λh=>h,by omega⟩
theorem Gd.gone (hg:Gd c e) {SS M l F L} (h:Gone e SS l L):Gd c {e with SS:=SS,M:=M,l:=l,F:=F}:=by
 refine⟨⟨hg.inv.ql,hg.inv.cn,hg.inv.gv,hg.inv.mp⟩,λk s hs=>hg.sb k s ((h.ss k s).1 hs).1,λid t ht=> ?_,λk s hs=> ?_,?_,hg.wn,hg.le⟩
 ·obtain⟨h1,h2⟩:=(h.ts id t).1 ht;obtain⟨k,s,rfl,g2,g3⟩:=hg.ts id t h1;exact⟨k,s,rfl,(h.ss k s).2 ⟨g2,h2⟩,g3⟩
 ·obtain⟨h1,h2⟩:=(h.ss k s).1 hs;obtain⟨t,ht⟩:=hg.st k s h1;exact⟨t,(h.ts _ t).2 ⟨ht,h2⟩⟩
 ·have:=h.n1;have:=h.n2;have:=hg.lc
  grind
theorem Gd.tim (hg:Gd c e) (id:Int):∀x∈SN.zH e.SS id,∃t,lC e.l x.1=some t:=λx hx=>by
 obtain⟨j,q1,q2,_⟩:=Y6 hx;rw[q1];exact hg.st j x.2 q2
theorem Gd.rel (hg:Gd c e) {i:Nat} {Mi Mo Q G SS M l F} (hi:Inv c {e with S:=e.S.set i none,Mi:=Mi,Mo:=Mo,Q:=Q,G:=G,SS:=SS,M:=M,l:=l,F:=F}) (h:Gone e SS l ((SN.zH e.SS (i:Int)).map (·.1))):
  Gd c {e with S:=e.S.set i none,Mi:=Mi,Mo:=Mo,Q:=Q,G:=G,SS:=SS,M:=M,l:=l,F:=F}:=by
 have g:=hg.gone (M:=M) (F:=F) h;refine⟨hi,λk s hs=> ?_,g.ts,g.st,g.lc,g.wn,g.le⟩;obtain⟨j,b,q1,q2⟩:=g.sb k s hs;obtain⟨h1,h2⟩:=(h.ss k s).1 hs;refine⟨j,b,q1,?_⟩;show (e.S.set i none)[j]? =_;rw[akJ,ada]
 ·exact q2
 rintro rfl;exact h2 (akR.2 ⟨((k:Int),s),alv.2 ⟨Gp.Ses.jL.2 ⟨k,h1,by omega⟩,by simp_all⟩,rfl⟩)
theorem aaw {S:Slots} {i j:Nat} {b:Bnd} (h:(S.set i none)[j]? =some (some b)):S[j]? =some (some b):=by
 grind
theorem aeY (h:lH w a c e) (hg:Gd c e) {id:Int} {K:b_} (hK:∀w' a' e',Nx c w w' a a' e e'->e'.S=e.S/\e'.tn=e.tn->a'.B=a.B->K w'):
  mM (some ⟨a.x,0,none⟩) id w K:=
 Κ h (hg.tim id) λw' a' SS M l F f hE hG u hx _=>hK w' a' _ ⟨f,hE,hg.gone hG,u,hx.1,λh=>h,by grind⟩ ⟨rfl,rfl⟩ hx.2
theorem Vm (h:lH w a c e) (hg:Gd c e) {i:Nat} {b:Bnd} (hb:e.S[i]? =some (some b)) {K:b_} (hK:∀w' a' e',Nx c w w' a a' e e'->e'.S=e.S.set i none/\e'.tn=e.tn->a'.B=a.B->K w'):
  jZ (some ⟨a.x,0,none⟩) (i:Int) w K:=
 Vo h hg.inv (hg.tim _) hb λw' a' Mi Mo Q G SS M l F f hE hI hG u hx _=>hK w' a' _ ⟨f,hE,hg.rel hI hG,u,hx.1,λhp j b hj=>hp j b (aaw hj),by grind⟩ ⟨rfl,rfl⟩ hx.2
theorem agJ (h:lH w a c e) (hg:Gd c e) (sw pr ad po:Int) (h4:∀n∈[sw,pr,ad,po],In64 n) {K:Int->b_} (hK:∀r w' a' e',Nx c w w' a a' e e'->K r w'):
  uz (some ⟨a.x,0,none⟩) sw pr ad po w K:=by
 apply I8;refine gy λt w1 r1 e1 z1 f1=> ?_;have h1:=h.ext f1;refine cmS0 (xQ h1) ?_;rintro r w1 ⟨rfl,hw⟩;subst hw;have h1d:=h1.ext (Ext.drew w1);simp -zeta only[adp,aaT,sx,h1d.c2,r1.drew.cell];refine cmS3 (Ir h1d.db sw pr ad po h4) ?_;rintro n t1 w2 ⟨rfl,rfl,f2⟩;have h2:=h1d.ext f2;have x2:=(f1.trans (Ext.drew w1)).trans f2;simp -zeta only[sx,h2.c2];refine cmS14 (Dq h2.db _) ?_;rintro a1 a2 a3 a4 a5 a6 a7 a8 r w3 ⟨_,hr,f3⟩;refine gy λu w4 r4 e4 z4 f4=> ?_;refine gU r4 (by rfl) (by rfl) λw5 r5 f5 z5=> ?_;have x5:=((x2.trans f3).trans f4).new (f5 (·=u) rfl) λy hy he=>by have:=(x2.trans f3).size;omega
 have h5:=h.ext x5;intro J;have I:J true:=by
  simp only[J,aaU];exact hK 8 w5 a e (Nx.ext h hg x5)
 have N:(∃(i:Nat) (b:Bnd),(e.Mi (Bind.keyS [sw,pr,ad,po])).getD 0=(i:Int)/\e.S[i]? =some (some b))->J false:=by
  rintro⟨i,b,hi,hb⟩;simp only[J,aaT];rw[hi];refine Vm h5 hg hb λw6 a' e' hn _ _=>hK 0 w6 a' e' ⟨(x5 _).trans hn.fr λ_ _ q=>q,hn.eng,hn.gd,λb hb=>(hn.gr b hb).imp (λh=>h) λh=>by have:=x5.size;omega,hn.x,hn.pk,hn.tn⟩
 clear_value J
 cases hm:e.Mi (Bind.keyS [sw,pr,ad,po]) with
 |none=>
  simp only[ald,afa,aaU];exact I
 |some v=>
  rw[hm] at N;obtain⟨i,b,hi,hb,_⟩:=afW h h4 hm;simp only[ajX,adp,aaT,sx,r5.cell]
  cases a8
  ·exact I
  ·exact N ⟨i,b,hi,hb⟩
theorem ajq (h:lH w a c e) (hg:Gd c e) (b:Bnd) (u:b.st=true) {K:Int->b_} (hK:∀r w' a' e',Nx c w w' a a' e e'->K r w'):
  oz (some ⟨a.x,0,none⟩) b.sw b.pr b.ad b.po b.opr b.oad b.opo w K:=by
 refine cmS1 (map_ok h hg.inv b u) ?_;rintro r w' ⟨_,⟨_,hx⟩|⟨_,hm,f,A,i,Mi,Mo,Q,G,I,hA,hE,hI⟩⟩
 ·exact hK r w' a e (Nx.ext h hg hx)
 have hin:=(Gp.Bind.jm 0 I).2.1;have hset:∀(j:Nat) (x:Bnd),e.S[j]? =some (some x)->(e.S.set i (some b))[j]? =some (some x):=λj x hx=>by
  rw[akJ,ada]
  ·exact hx
  grind
 refine hK r w' _ _ ⟨f,hE,⟨hI,λk s hs=> ?_,hg.ts,hg.st,hg.lc,hg.wn,hg.le⟩,XY hA,rfl,λhp j x hx=> ?_,by grind⟩
 ·obtain⟨j,x,q1,q2⟩:=hg.sb k s hs
  grind
 ·have hx:=hx;rw[akJ] at hx;split at hx
  ·simp_all
  ·exact hp j x hx
theorem ajx {S:Slots} {k:Int} {x:Int×Bnd} (hx:x∈Y5 S k):∃j:Nat,x.1=(j:Int)/\S[j]? =some (some x.2):=by
 obtain⟨v,b⟩:=x;obtain⟨j,hj,hv⟩:=Gp.Bind.jL.1 (alv.1 hx).1
 grind
theorem Sm:∀(S:Slots) (k:Nat),(live k S).Nodup
 |[],_=>by simp[live]
 |none::r,k=>by rw[live];exact Sm r (k+1)
 |some b::r,k=>by
  rw[live,alT];refine⟨λh=> ?_,Sm r (k+1)⟩;obtain⟨i,_,hv⟩:=Gp.Bind.jL.1 h;omega
theorem ajy {S:Slots} {k:Int} {i:Nat} {x:Int×Bnd} (hi:(Y5 S k)[i]? =some x):x∉(Y5 S k).take i:=by
 intro hm;have hn:(Y5 S k).Nodup:=(Sm S 0).filter _;rw[<- ajS i (Y5 S k),al4] at hn;exact hn.2.2 x hm x (by rw[List.mem_iff_getElem?];exact⟨0,by simp_all⟩) rfl
theorem afA (h:lH w a c e) (hg:Gd c e) (k:Int) {K:Int->b_} (hK:∀r w' a' e',Nx c w w' a a' e e'->K r w'):
  uy (some ⟨a.x,0,none⟩) k w K:=by
 apply I7;refine⟨rfl,?_⟩;refine gy λp w1 r1 e1 z1 f1=> ?_;have h1:=h.ext f1;simp only[sx,r1.cell];refine cmS0 (xQ h1) ?_;rintro r w1 ⟨rfl,hw⟩;subst hw;simp only[adp,aaT];refine gy λq w2 r2 e2 z2 f2=> ?_;refine gY r2 rfl (by simp) λw3 r3 f3' z3=> ?_;have f3:=f3' _ rfl;simp only[af7] at r3;have x3:=(f1.trans f2).new f3 λy hy e=>by omega
 have p3:=(r1.ext f2).fr f3 (by omega);simp only[sx,p3.cell];refine cmS4 (ai7 w3 a.x k) ?_;rintro v w4 ⟨f4,g0,g1,rfl,t0,t1,s0,s1⟩;have h4:=h.ext (x3.trans f4);have p4:=p3.ext f4;have q4:=r3.ext f4;have x4:=x3.trans f4;have z4:=f4.size;have lp:=q4.lt;have l0:=t0.lt;have l1:=t1.lt;have hol:∀b,iZ a b->b<w.heap.size:=λb ⟨k,hk⟩=>h.lt k b hk;have hyl:(yD (Y5 e.S k)).length=(Y5 e.S k).length:=by simp[yD]
 refine Qn (adH c e a h.db.len g0 g1 k) (λN i W=>w4.heap.size+1<N/\(Row W p [.pointer (some ⟨a.x,0,none⟩)]/\Row W g0 [.pointer (some ⟨a.x,0,none⟩)]/\Row W g1 [Β k])/\(∃z:Int,Row W q [Β z])/\
  ∃a' e',gV w4 W (λb=>iZ a b\/b=q)/\lH W a' c e'/\Gd c e'/\(∀b,iZ a' b->iZ a b\/N<=b)/\(a'.x=a.x/\a'.B=a.B)/\(Pk c e->Pk c e')/\e'.tn=e.tn/\Rest e.S e'.S (Y5 e.S k) i) ?_ ?_ ?_ ?_ ?_
 ·intro W hx hs;exact⟨by omega,⟨p4.ext hx,t0.ext hx,t1.ext hx⟩,⟨0,q4.ext hx⟩,a,e,hx _,h4.ext hx,hg,λb hb=> .inl hb,⟨rfl,rfl⟩,λh=>h,rfl,λj o hj _=>hj⟩
 ·grind
 ·rintro N i W W' ⟨hN,⟨k0,k1,k2⟩,⟨z,kz⟩,a1,e1,kf,kE,kG,kg,kr⟩ hf;refine⟨hN,⟨k0.fr hf (by omega),k1.fr hf (by omega),k2.fr hf (by omega)⟩,⟨z,kz.fr hf (by omega)⟩,a1,e1,kf.trans hf λb hb e=>by omega,kE.fr hf λk b hb e=> ?_,kG,kg,kr⟩;rcases kg b ⟨k,hb⟩ with hh|hh
  ·grind
  ·omega
 ·rintro N i x W Kb hx ⟨hN,⟨k0,k1,k2⟩,⟨z,kz⟩,a1,e1,kf,kE,kG,kg,kx,kp,kt,kR⟩ _ hNW hk;rw[show yD (Y5 e.S k)=(Y5 e.S k).map _ from rfl,aiN] at hx
  cases hb:(Y5 e.S k)[i]? with
  |none=>rw[hb] at hx;simp at hx
  |some y=>
  rw[hb] at hx;simp only[ag4,agP] at hx;subst hx;obtain⟨j,hj,O⟩:=ajx (akK hb);have hnd:=ajy hb;have hyy:y=((j:Int),y.2):=by rw[<- hj]
  have hj1:=kR j _ O λb hb'=>by
   grind
  refine gy λu w6 r6 e6 z6 f6=> ?_;refine gU r6 rfl rfl λw7 r7 f7' z7=> ?_;have x7:=f6.new (f7' (·=u) rfl) λy hy e=>by omega
  refine⟨(x7 λ_=>False).same _ (by omega) (by simp),?_⟩;have fb:=gV.gu w7 (w4.heap.size+1);have hX7:=x7.size;have zb:(gu w7 (w4.heap.size+1)).heap.size=w7.heap.size:=by simp[gu]
  have u8:=r7.fr fb (by omega);have off:∀b,iZ a1 b->b≠w4.heap.size+1:=λb hb=>by
   grind
  have hE:=(kE.ext x7).fr fb λk b hb=>off b ⟨k,hb⟩;have k0:=(k0.ext x7).fr fb (by omega);have k1:=(k1.ext x7).fr fb (by omega);have k2:=(k2.ext x7).fr fb (by omega);have kz:=(kz.ext x7).fr fb (by omega);have base:∀S,gV (gu W (w4.heap.size+1)) (gu w7 (w4.heap.size+1)) S:=λS=>CN.CW (x7 _) _;have n2:∀b,w.heap.size<=b->b<N->¬iZ a1 b:=λb h1 h2 hh=>(kg b hh).elim (λh=>by grind) λh=>by omega
  have kf8:gV w4 (gu w7 (w4.heap.size+1)) (λb=>iZ a b\/b=q):=((kf.ext x7).trans fb λb hb e=>by omega);have rest:∀S',(∀j' o,e1.S[j']? =some o->(∀b,o=some b->j'≠j)->S'[j']? =some o)->Rest e.S S' (Y5 e.S k) (i+1):=λS' hS j' o ho hn=>by
   rw[take_succ hb] at hn;refine hS j' o (kR j' o ho λb hb' hm=>hn b hb' (amE _ hm)) λb hb' he=> ?_
   grind
  simp only[sx,u8.cell,k0.cell];rw[<- kx.1]
  cases hst:y.2.st
  rotate_left
  ·simp only[aaU];refine aeY hE kG λw9 a2 e2 hn he hB=> ?_;refine hk _ (iZ a1) ((base _).trans hn.fr λy _ hy=>hy) (λb h1 h2=>n2 b (by omega) h2) ⟨hN,⟨k0.fr hn.fr (n2 _ (by omega) (by omega)),k1.fr hn.fr (n2 _ (by omega) (by omega)),k2.fr hn.fr (n2 _ (by omega) (by omega))⟩,⟨z,kz.fr hn.fr (n2 _ (by omega) (by omega))⟩,a2,e2,kf8.trans hn.fr λb hb hh=> .inl ((kg b hh).elim (λh=>h) λh=>by omega),hn.eng,hn.gd,λb hb=>(hn.gr b hb).elim (kg b) λh=> .inr (by omega),⟨hn.x.trans kx.1,hB.trans kx.2⟩,λh=>hn.pk (kp h),he.2.trans kt,rest _ λj' o ho _=>by grind⟩
  ·simp only[aaT];rw[hj];refine Vm hE kG hj1 λw9 a2 e2 hn he hB=> ?_;have kz9:=kz.fr hn.fr (n2 _ (by omega) (by omega));simp only[sx,kz9.cell];refine gY kz9 rfl (by simp) λI R J z10=> ?_;have f10:gV w9 I (·=q):=J _ rfl;have U:∀b,iZ a2 b->b≠q:=λb hb e=>by
    subst e;exact(hn.gr b hb).elim (n2 b (by omega) (by omega)) λh=>by omega
   have fs:=hn.fr.size;have nn:∀b,w.heap.size<=b->b<N->b≠q->¬(iZ a1 b\/b=q):=λb h1 h2 h3 hh=>hh.elim (n2 b h1 h2) h3;have fS:gV (gu w7 (w4.heap.size+1)) I (λb=>iZ a1 b\/b=q):=(hn.fr.mono λb h=> .inl h).trans f10 λb _ h=> .inr h;refine hk I _ ((base _).trans fS λy _ hy=>hy) (λb h1 h2=>nn b (by omega) h2 (by omega)) ⟨hN,⟨k0.fr fS (nn _ (by omega) (by omega) (by omega)),k1.fr fS (nn _ (by omega) (by omega) (by omega)),k2.fr fS (nn _ (by omega) (by omega) (by omega))⟩,⟨_,R⟩,a2,e2,kf8.trans fS λb hb hh=>hh.imp (λhh=>(kg b hh).elim (λh=>h) λh=>by omega) λh=>h,
    hn.eng.fr f10 λk b hb e=>U b ⟨k,hb⟩ e,hn.gd,λb hb=>(hn.gr b hb).elim (kg b) λh=> .inr (by omega),⟨hn.x.trans kx.1,hB.trans kx.2⟩,λh=>hn.pk (kp h),he.2.trans kt,rest _ λj' o ho hne=> ?_⟩
   rw[he.1,akJ,ada]
   ·exact ho
   grind
 ·rintro N W ⟨hN,_,⟨z,kz⟩,a1,e1,kf,kE,kG,kg,kx,kp,kt,_⟩ hm;simp only[sx,kz.cell];have fp:=gV.mF W w4.heap.size (.deferred none);refine⟨hm rfl,hK z _ a1 e1 ⟨(((x4 _).trans kf λb hb hh=>hh.elim (λh=>h) λh=>by omega).trans fp λb hb e=>by omega),kE.fr fp λk b hb e=> ?_,kG,λb hb=>(kg b hb).imp (λh=>h) λh=>by omega,kx.1,kp,by omega⟩⟩;rcases kg b ⟨k,hb⟩ with hh|hh
  ·grind
  ·omega
end Go.Proofs.EN
end
section
namespace Go.Proofs.EN
open Gp Go.Proofs
open Gp.Bind (Bnd Slots live GoodB freeN getS In64)
variable {w w':θ} {a:EA} {c:Cf} {e:ES}
def eB (b:Bnd):List Value:=[Β b.sw,Β b.pr,Β b.ad,Β b.po,Β b.opr,Β b.oad,Β b.opo,.bool b.st]
theorem BL (b:Bnd):(eB b).length=8:=rfl
theorem ai5 (b:Bnd):∀v∈eB b,iI v=true:=by
 intro v hv;simp only[eB,agN,ajH,akL] at hv;rcases hv with rfl|rfl|rfl|rfl|rfl|rfl|rfl|rfl<;>rfl
def eS (b:Gp.Ses.Ses):List Value:=[Β b.bd,Β b.st,Β b.un,Β b.ra,Β b.rp]
theorem TT (b:Gp.Ses.Ses):(eS b).length=5:=rfl
theorem ai6 (b:Gp.Ses.Ses):∀v∈eS b,iI v=true:=by
 intro v hv;simp only[eS,agN,ajH,akL] at hv;rcases hv with rfl|rfl|rfl|rfl|rfl<;>rfl
def QY (x:Int):Value:= Β x
theorem eqN (a b:Int):EZ υ 16 3 (QY a) (QY b)=some (decide (a=b)):=WN.eqW a b
theorem akr (a:Int):nX υ 3 (QY a)=true:=WN.YP a
def plk (l:List (Int×Bnd)) (k:Int):Option Int:=(l.zipIdx.reverse.find? λx=>x.1.1==k).map λx=>(x.2:Int)
theorem agl (l:List (Int×Bnd)) (x:Int×Bnd) (k:Int):plk (l++[x]) k=if k=x.1 then some (l.length:Int) else plk l k:=by
 unfold plk
 grind
def EX (e:ES):List Gp.Ses.Ses:=(Gp.Ses.live 0 e.SS).map λx=>{x.2 with bd:=(plk (live 0 e.S) x.2.bd).getD 0}
theorem aia (d:Nat) (w:θ) {K:Value->b_} (h:∀f w',Row w' f [.pointer (some ⟨d,0,none⟩)]->f=w.heap.size->w'.heap.size=f+1->Ext w w'->K (Value.func (.func xB) #[] #[(Value.pointer (some ⟨f,0,none⟩))]) w'):uG (some ⟨d,0,none⟩) w K:=by
 apply Ji;exact⟨rfl,gy λf w1 r1 e1 z1 f1=>h f w1 r1 e1 z1 f1⟩
theorem aaO (h:lH w a c e):oG (some ⟨a.d,0,none⟩) w λn w'=>n=(e.l.length:Int)/\w'=w:=WN.air h.wh.wm
def vwC (now:Nat) (bs ss:fU) (t:Nat):List Value:=[Β (now:Int),Δ bs,Δ ss,Β 0,Β 0,Β (t:Int),.slice none 0 0]
def Ur:fU:=⟨none,0,0⟩
theorem ain (h:lH w a c e) (hsz:e.S.length<=4096/\e.SS.length<=4096) {K:Int->fU->fU->Int->Int->Int->fU->b_}
  (hK:∀bs ss w',Ext w w'->iQ 8 eB w' bs ((live 0 e.S).map (·.2))->iQ 5 eS w' ss (EX e)->(∀b,fU.at bs b->w.heap.size<=b)->(∀b,fU.at ss b->w.heap.size<=b)->K (e.now:Int) bs ss 0 0 (e.l.length:Int) Ur w'):
  vJ (some ⟨a.x,0,none⟩) w K:=by
 apply KQ;refine gy λr w1 r1 e1 z1 f1=> ?_;have h1:=h.ext f1;refine cmS0 (xQ h1) ?_;rintro _ w1 ⟨rfl,hw⟩;subst hw;rw[adp,aaT];intro J;have hJ:∀vb W,Ext w1 W->Row W vb (vwC e.now Ur Ur e.l.length)->w1.heap.size<=vb->J ⟨vb,0,none⟩ W:=by
  intro vb W hW hv hvb;simp only[J];refine SN.JD (enc:=QY) (ev:=QY) λw2 m2 z2 f2=> ?_;refine gy λq w3 r3 e3 z3 f3=> ?_;refine gY r3 rfl (by simp) λw4 r4 f4' z4=> ?_;have f4:=f4' _ rfl;simp only[af7] at r4;have hvl:=hv.lt;have x4:=(f2.trans f3).new f4 λy hy e=>by omega
  have m4:=(m2.ext f3).fr f4 (by omega);have h4:=h1.ext (hW.trans x4);have v4:=hv.ext x4;refine jM.2 (gZ (k:= .ptr) (i:=2) (x:=some ⟨a.B.d,0,none⟩) h4.hd rfl ?_);refine acC a.B.d w4 λf w5 r5 e5 z5 f5=> ?_;have h5:=h4.ext f5;have m5:=m4.ext f5;have v5:=v4.ext f5;have q5:=r4.ext f5;have zW:=hW.size;have z14:W.heap.size+2<=w4.heap.size/\q<w4.heap.size/\W.heap.size<q:=by omega
  have I:=λk b hb=>alc (h.lt k b hb) f1.size;have hla:kT none w5=w5.heap.size+1:=rfl;have hmp:W.heap.size≠q/\W.heap.size≠vb/\q≠vb:=by omega
  refine vC (Go.Proofs.Xx c.nb.toNat e.S h.db.len a.B f) (λi X=>∃bs M,Row X vb (vwC e.now bs Ur e.l.length)/\iQ 8 eB X bs (((live 0 e.S).map (·.2)).take i)/\qX QY QY X W.heap.size M/\(∀k,lC M k=plk ((live 0 e.S).take i) k)/\
    gV w5 X (λb=>b=vb\/b=W.heap.size)/\(∀b,fU.at bs b->kT none w5<b)/\w5.heap.size+2<=X.heap.size)
   (λ_ _=>False) (by simp) ?_ ?_ ?_ (by simp) (by simp) ?_ ?_ (by simp) (by intro id W h;exact h.elim)
  ·intro X hX hz;refine⟨Ur,[],v5.ext hX,by simpa [Ur] using iQ.nil,m5.ext hX,λk=>rfl,hX _,(λb ⟨o,hb⟩=>by cases hb),by omega⟩
  ·rintro i X ⟨bs,M,h1,h2,h3,h4',h5',h6,h7⟩;have hn:∀b,b<w1.heap.size->¬(b=vb\/b=W.heap.size):=λb hb e=>by omega
   exact⟨r5.fr h5' (by omega),e.S,e.Mi,e.Mo,(h5.db).fr h5' λb hb=>hn b (I 3 b hb),λj o h _=>h⟩
  ·rintro i X X' ⟨bs,M,h1,h2,h3,h4',h5',h6,h7⟩ hf;exact⟨bs,M,h1.fr hf (by omega),h2.fr hf λb hb e=>by grind,h3.fr hf (by omega),h4',h5'.trans hf λb hb e=>by omega,h6,by have:=hf.size;omega⟩
  ·rintro i x X Kb hx ⟨bs,M,h1,h2,h3,h4',h5',h6,h7⟩ Z hk _;rw[show yD (live 0 e.S)=(live 0 e.S).map _ from rfl,aiN] at hx
   cases hb:(live 0 e.S)[i]? with
   |none=>rw[hb] at hx;simp at hx
   |some p=>
   rw[hb] at hx;simp only[ag4,agP] at hx;subst hx;have am:i<(live 0 e.S).length:=(aeK.1 hb).1;have an:=Gp.Bind.ji e.S 0;have aj:bs.len=i:=by rw[(h2.sl BL (by omega)).len,ajT,ahc];omega
   refine gy λu w6 r6 e6 z6 f6=> ?_;refine gU r6 rfl rfl λw7 r7 f7' z7=> ?_;have x7:Ext X w7:=f6.new (f7' (·=u) rfl) λy hy e=>by omega
   refine⟨(x7 λ_=>False).same _ Z (by simp),?_⟩;have fb:=gV.gu w7 (kT none w5);have zb:(gu w7 (kT none w5)).heap.size=w7.heap.size:=by simp[gu]
   have hX7:=x7.size;have v8:=(h1.ext x7).fr fb (by omega);have b8:=(h2.ext x7).fr fb λb hb e=>by grind
   have m8:=(h3.ext x7).fr fb (by omega);have q8:=((q5.fr h5' (by omega)).ext x7).fr fb (by omega);have u8:=r7.fr fb (by omega);refine gZ (k:= .map) (i:=0) (x:=some W.heap.size) q8 rfl (Ld_s 1 bs v8 ?_);refine yX (enc:=QY) (ev:=QY) m8 eqN p.1 (bs.len:Int) (akr _) λw9 m9 f9 z9=> ?_;have v9:=v8.fr f9 (by omega);have b9:=b8.fr f9 λb hb e=>by grind
   have u9:=u8.fr f9 (by omega);refine Ld_s 1 bs v9 ?_;simp only[sx,Ci,Cs,u9.cell];refine gy λy R U e10 ao f10=> ?_;have sl:lK 8 eB R ⟨some ⟨y,0,none⟩,1,1⟩ [p.2]:=(iQ.row (xs:=[p.2]) (by simpa [eB] using U)).sl BL (by omega);refine lJ BL (b9.ext f10) sl rfl (by omega) ai5 (by simp;omega) (by simp;omega) λs' aa aq f11 p11=> ?_;have ab:¬fU.at bs vb:=λhb=>by grind
   have ar:¬fU.at bs W.heap.size:=λhb=>by grind
   have au:=(v9.ext f10).fr f11 ab;have m11:=(m9.ext f10).fr f11 ar;refine gY au rfl (by simp[vwC]) λO av ac z12=> ?_;have f12:gV aa O (·=vb):=ac _ rfl;have hs':∀b,fU.at s' b->kT none w5<b:=λb hb=>by
    grind
   have fr:gV (gu X (kT none w5)) O (λb=>b=vb\/b=W.heap.size\/fU.at bs b):=by
    have g1:gV (gu X (kT none w5)) w9 (λb=>b=vb\/b=W.heap.size\/fU.at bs b):=(CN.CW (x7 _) _).trans f9 λb _ hb=> .inr (.inl hb);exact((g1.ext f10).trans f11 λb _ hb=> .inr (.inr hb)).trans f12 λb _ hb=> .inl hb
   refine hk O _ fr ?_ ⟨s',_,?_,?_,m11.fr f12 (by omega),?_,?_,hs',?_⟩
   ·grind
   ·exact av
   ·have ae:((live 0 e.S).map (·.2)).take (i+1)=((live 0 e.S).map (·.2)).take i++[p.2]:=take_succ (by simp_all);rw[ae];exact aq.fr f12 λb hb e=>by grind
   ·intro k;rw[BR,take_succ hb,agl,h4',ajT,aj,alH (by omega)]
   ·refine(h5'.trans (gV.gu X _) λb hb e=>by omega).trans fr ?_
    grind
   ·have:=fr.size;have aw:(gu X (kT none w5)).heap.size=X.heap.size:=by simp[gu]
    omega
  ·rintro X ⟨bs,M,b1,b2,b3,b4,b5,b6,b7⟩ hm;have af:(yD (live 0 e.S)).length=(live 0 e.S).length:=by simp[yD]
   rw[af] at b2 b4;rw[akM (by simp)] at b2;rw[akY] at b4;have hn:∀b,b<w1.heap.size->¬(b=vb\/b=W.heap.size):=λb hb e=>by omega
   have hX:=h5.fr b5 λk b hb=>hn b (I k b hb);refine jM.2 (gZ (k:= .ptr) (i:=3) (x:=some ⟨a.T.d,0,none⟩) hX.hd rfl ?_);refine aia a.T.d X λf' w6 r6 e6 z6 f6=> ?_;have hla':kT none w6=w6.heap.size+1:=rfl;have h6:=hX.ext f6;have m6:=b3.ext f6;have v6:=b1.ext f6;have q6:=(q5.fr b5 (by omega)).ext f6;have hm6:w6.heap[w5.heap.size]? =some (.deferred (some [])):=by
    rw[(f6 λ_=>False).same _ (by omega) (by simp)];exact hm rfl
   have hviewl:(EX e).length=(Gp.Ses.live 0 e.SS).length:=by simp[EX]
   have hlen6:X.heap.size<=w6.heap.size:=f6.size;refine vC (SN.aeW c.ns.toNat e.SS e.M a.T f') (λi Y=>∃ss,Row Y vb (vwC e.now bs ss e.l.length)/\iQ 5 eS Y ss ((EX e).take i)/\gV w6 Y (λb=>b=vb)/\(∀b,fU.at ss b->kT none w6<b)/\w6.heap.size+2<=Y.heap.size)
    (λ_ _=>False) (by simp) ?_ ?_ ?_ (by simp) (by simp) ?_ ?_ (by simp) (by intro id W h;exact h.elim)
   ·intro Y hY hz;exact⟨Ur,v6.ext hY,by simpa [Ur] using iQ.nil,hY _,(λb ⟨o,hb⟩=>by cases hb),by omega⟩
   ·rintro i Y ⟨ss,g1,g2,g3,g4,g5⟩;exact⟨r6.fr g3 (by omega),(h6.se).fr g3 λb hb e=>by have:=I 4 b hb;omega⟩
   ·rintro i Y Y' ⟨ss,g1,g2,g3,g4,g5⟩ hf;exact⟨ss,g1.fr hf (by omega),g2.fr hf λb hb e=>by grind,g3.trans hf λb hb e=>by omega,g4,by have:=hf.size;omega⟩
   ·rintro i x Y Kb hx ⟨ss,g1,g2,g3,g4,g5⟩ Z hk _;rw[show SN.yS (Gp.Ses.live 0 e.SS)=(Gp.Ses.live 0 e.SS).map _ from rfl,aiN] at hx
    cases hb:(Gp.Ses.live 0 e.SS)[i]? with
    |none=>rw[hb] at hx;simp at hx
    |some p=>
    rw[hb] at hx;simp only[ag4,agP] at hx;subst hx;have am:i<(Gp.Ses.live 0 e.SS).length:=(aeK.1 hb).1;have an:=Gp.Ses.ji e.SS 0;have aj:ss.len=i:=by rw[(g2.sl TT (by omega)).len,ajT];omega
    refine gy λu w7 r7 e7 z7 f7=> ?_;refine gU r7 rfl rfl λw8 r8 f8' z8=> ?_;have x8:Ext Y w8:=f7.new (f8' (·=u) rfl) λy hy e=>by omega
    refine⟨(x8 λ_=>False).same _ Z (by simp),?_⟩;have fb:=gV.gu w8 (kT none w6);have zb:(gu w8 (kT none w6)).heap.size=w8.heap.size:=by simp[gu]
    have hY8:=x8.size;have v9:=(g1.ext x8).fr fb (by omega);have b9:=(g2.ext x8).fr fb λb hb e=>by grind
    have m9:=((m6.fr g3 (by omega)).ext x8).fr fb (by omega);have q9:=((q6.fr g3 (by omega)).ext x8).fr fb (by omega);have u9:=r8.fr fb (by omega);refine gZ (k:= .map) (i:=0) (x:=some W.heap.size) q9 rfl (Ld_i 0 p.2.bd u9 ?_);have N:∀Q:Int->Prop,Q ((plk (live 0 e.S) p.2.bd).getD 0)->pY υ 3 ν (some W.heap.size) (Β p.2.bd) (Β 0) (gu w8 (kT none w6)) Q:=by
     intro Q hQ;refine Eu (k:= .int .i64) (enc:=QY) (ev:=QY) m9 eqN p.2.bd (akr _) (λhn=> ?_) (λb hb=> ?_)
     ·rw[b4] at hn;rw[hn] at hQ;simp only[gq];exact hQ
     ·rw[b4] at hb;rw[hb] at hQ;simp only[QY,gq];exact hQ
    refine N _ ?_;refine gY u9 rfl (by simp) λR U ag ao=> ?_;have f10:gV (gu w8 (kT none w6)) R (·=u):=ag _ rfl;simp only[af7] at U;have ak:=v9.fr f10 (by omega);have ax:=b9.fr f10 λb hb e=>by have:=g2.lt hb;omega
    refine Ld_s 2 ss ak ?_;simp only[sx,Ci,Cs,U.cell];refine gy λy aa ay e11 z11 f11=> ?_;have sl:lK 5 eS aa ⟨some ⟨y,0,none⟩,1,1⟩ [({p.2 with bd:=(plk (live 0 e.S) p.2.bd).getD 0}:Gp.Ses.Ses)]:=(iQ.row (xs:=[({p.2 with bd:=(plk (live 0 e.S) p.2.bd).getD 0}:Gp.Ses.Ses)]) (by simpa [eS] using ay)).sl TT (by omega);refine lJ TT (ax.ext f11) sl rfl (by omega) ai6 (by simp;omega) (by simp;omega) λs' O az f12 p12=> ?_;have ab:¬fU.at ss vb:=λhb=>by grind
    have v12:=(ak.ext f11).fr f12 ab;refine gY v12 rfl (by simp[vwC]) λah aA ai z13=> ?_;have f13:gV O ah (·=vb):=ai _ rfl;have hs':∀b,fU.at s' b->kT none w6<b:=λb hb=>by
     grind
    have fr:gV (gu Y (kT none w6)) ah (λb=>b=vb\/fU.at ss b):=by
     have g1:gV (gu Y (kT none w6)) R (λb=>b=vb\/fU.at ss b):=(CN.CW (x8 _) _).trans f10 λb hb e=>by(have:(gu Y (kT none w6)).heap.size=Y.heap.size:=by simp[gu]);omega
     exact((g1.ext f11).trans f12 λb _ hb=> .inr hb).trans f13 λb _ hb=> .inl hb
    refine hk ah _ fr ?_ ⟨s',aA,?_,?_,hs',?_⟩
    ·grind
    ·have ae:(EX e).take (i+1)=(EX e).take i++[({p.2 with bd:=(plk (live 0 e.S) p.2.bd).getD 0}:Gp.Ses.Ses)]:=take_succ (by unfold EX;simp_all);rw[ae];exact az.fr f13 λb hb e=>by grind
    ·refine(g3.trans (gV.gu Y _) λb hb e=>by omega).trans fr ?_
     grind
    ·have:=fr.size;have aw:(gu Y (kT none w6)).heap.size=Y.heap.size:=by simp[gu]
     omega
   ·rintro Y ⟨ss,g1,g2,g3,g4,g5⟩ hm';have af:(SN.yS (Gp.Ses.live 0 e.SS)).length=(Gp.Ses.live 0 e.SS).length:=by simp[SN.yS]
    rw[af,akM (by omega)] at g2;simp only[sx,Ci,Cs,g1.cell,vwC];have zz:=x4.size;have rr:Row Y r _:=((((r1.ext hW).ext (x4.trans f5)).fr b5 (by omega)).ext f6).fr g3 (by omega);refine StN_f rr λw7 r7 f7 z7=> ?_;have hm7:w7.heap[w6.heap.size]? =some (.deferred (some [])):=by
     rw[f7.same _ (by omega) (by omega)];exact hm' rfl
    have fp1:=gV.mF w7 w6.heap.size (.deferred none);have fp2:=gV.mF (w7.putObj w6.heap.size (.deferred none)) w5.heap.size (.deferred none);refine⟨hm7,?_,?_⟩
    ·have e1:(w7.putObj w6.heap.size (.deferred none)).heap[w5.heap.size]? =w7.heap[w5.heap.size]? :=fp1.same _ (by omega) (by omega);exact e1.trans ((f7.same _ (by omega) (by omega)).trans ((g3.same _ (by omega) (by omega)).trans hm6))
    have r9:=(r7.fr fp1 (by omega)).fr fp2 (by omega);simp only[sx,Ci,Cs,r9.cell];refine hK bs ss _ ?_ ?_ ?_ ?_ ?_
    ·have q1:Ext w w5:=(f1.trans hW).trans (x4.trans f5);have q2:Ext w X:=q1.new b5 λb hb e=>by omega
     have q3:Ext w Y:=(q2.trans f6).new g3 λb hb e=>by omega
     have q4:Ext w w7:=q3.nw f7;exact(q4.new fp1 λb hb e=>by omega).new fp2 λb hb e=>by omega
    ·have t1:=(b2.ext f6).fr g3 λb hb e=>by grind
     exact((t1.fr f7 λb hb e=>by grind).fr fp1 λb hb e=>by have:=b2.lt hb;omega).fr fp2 λb hb e=>by grind
    ·exact((g2.fr f7 λb hb e=>by grind).fr fp1 λb hb e=>by grind).fr fp2 λb hb e=>by grind
    ·grind
    grind
 clear_value J;have hd:=h1.ext (Ext.drew w1);have c41:=hd.c41;have c4:=hd.c4;simp only[sx,Ci,Cs,c41,c4];refine⟨?_,?_⟩
 ·refine cmS1 (aaO hd) ?_;rintro n w2 ⟨rfl,hw2⟩;subst hw2;refine⟨c41,gy λvb w3 r3 e3 z3 f3=> ?_⟩;refine⟨kQ c4 f3,kQ c41 f3,?_⟩;refine gU r3 rfl rfl λw4 r4 f4' z4=> ?_;have aB:w1.drew.heap.size=w1.heap.size:=rfl;exact hJ vb w4 (((Ext.drew w1).trans f3).new (f4' (·=vb) rfl) λy hy e=>by omega) r4 (by omega)
 ·refine gy λvb w3 r3 e3 z3 f3=> ?_;refine⟨kQ c4 f3,kQ c41 f3,?_⟩;refine cmS1 (aaO (hd.ext f3)) ?_;rintro n w2 ⟨rfl,hw2⟩;subst hw2;refine⟨kQ c41 f3,?_⟩;refine gU r3 rfl rfl λw4 r4 f4' z4=> ?_;have aB:w1.drew.heap.size=w1.heap.size:=rfl;exact hJ vb w4 (((Ext.drew w1).trans f3).new (f4' (·=vb) rfl) λy hy e=>by omega) r4 (by omega)
end Go.Proofs.EN
end
section
namespace Go.Proofs.EN
open Gp Go.Proofs Go.Proofs.AN
open Gp.Bind (Bnd Slots live GoodB freeN getS In64)
open Gp.Ses (Ses)
open Go.Proofs.SN (SlN_ix)
variable {w w':θ}
theorem aeb {A0 A1 A2 A3 A4 A5 A6 A7 A8 A9 U Y Z aa ab ac:Int} {ae N:fU} {O R af ag ah ai aj ak am an ao aq ar au av aw ax:Int} {ay:fU} (b:Bnd) {pl:List Int} (hp:lK 1 WN.eI w N pl) (hl:N.len<=2^40) (hm:b.oad∈pl) (hr:b.st=true\/(O<=b.opo/\b.opo<=R)):
  BG A0 A1 A2 A3 A4 A5 A6 A7 A8 A9 U Y Z aa ab ac ae N O R af ag ah ai aj ak am an ao aq ar au av aw ax ay b.sw b.pr b.ad b.po b.opr b.oad b.opo b.st w λr w'=>r=true/\Ext w w':=by
 apply RF;refine gy λp w1 r1 e1 z1 f1=> ?_;refine gy λq w2 r2 e2 z2 f2=> ?_;have r1:=r1.ext f2;have x2:=f1.trans f2;have hlen:=hp.len;obtain⟨m,hm⟩:=alV hm;have hml:=(aeK.1 hm).1;refine gI (λst W=>∃i:Nat,i<=m/\st.1=(i:Int)/\Ext w2 W) (λst _=>(m+1) - st.1.toNat) ⟨0,by omega,rfl,Ext.refl _⟩ ?_;rintro⟨i,⟨⟩⟩ W ⟨j,hj,hi,hx⟩ next I
 simp only at hi;subst hi;have u:=hx.trans (Ext.drew W);refine gZ (r1.ext hx) rfl ?_;rw[show decide ((j:Int)<(N.len:Int))=true by rw[aeJ];omega,aaU];refine gZ (r1.ext u) rfl ?_;obtain⟨v,hv⟩:∃v,pl[j]? =some v:=⟨_,ade (by omega)⟩;refine SlN_ix (n:=1) (λ_=>rfl) (by omega) (hp.ext (x2.trans u)) (by omega) (by rw[ab3];exact hv) λa hc=> ?_;refine ig (hc 0 _ rfl) ?_;have r2:=r2.ext u;refine ig (by rw[gJ,gJ,r2.cell];rfl) ?_;by_cases he:v=b.oad
 ·rw[show (v==b.oad)=true by simp_all,aaU];intro J;have hJ:J true:=⟨rfl,x2.trans u⟩;refine gZ r2 rfl ?_
  cases hs:b.st
  rotate_left
  ·exact hJ
  rw[aaT];rw[hs] at hr;obtain⟨h1,h2⟩:=hr.resolve_left (by simp);have c6:W.drew.cell? (Addr.add (Addr.add ⟨q,0,none⟩ 4) 2)=some (Β b.opo):=by rw[gJ,gJ,r2.cell];rfl
  refine ig c6 (gZ (r1.ext u) rfl ?_);rw[show decide (b.opo>=O)=true by rw[aeJ];exact h1,aaU];refine ig c6 (gZ (r1.ext u) rfl ?_);rw[show decide (b.opo<=R)=true by rw[aeJ];exact h2];exact hJ
 ·rw[show (v==b.oad)=false by simp_all,aaT,Α];have:j≠m:=λh=>he (by simp_all);exact I _ _ ⟨j+1,by omega,rfl,u⟩ (by omega)
theorem ahA {n n3 n4 n5:Int} {bs ss s6:fU} {L:List Bnd} (hb:lK 8 eB w bs L) (hl:bs.len<=2^40) (k:Int):
  Aj n bs ss n3 n4 n5 s6 k w λr w'=>r=(L.countP (λb=>b.sw==k):Int)/\Ext w w':=by
 apply Xa;refine gy λp w1 r1 e1 z1 f1=> ?_;have hlen:=hb.len;refine gI (λst W=>∃i:Nat,i<=L.length/\st.2.1=(i:Int)/\st.1=((L.take i).countP (λb=>b.sw==k):Int)/\W=w1) (λst _=>L.length - st.2.1.toNat) ⟨0,by omega,rfl,rfl,rfl⟩ ?_;rintro⟨c,i,⟨⟩⟩ W ⟨j,hj,hi,hc,rfl⟩ next h
 simp only at hi hc;subst hi hc;refine gZ r1 rfl ?_;by_cases u:j<L.length
 ·dsimp -zeta only;rw[show decide ((j:Int)<(bs.len:Int))=true by rw[aeJ];omega,aaU];intro J;refine gZ r1 rfl ?_;obtain⟨b,hv⟩:∃b,L[j]? =some b:=⟨_,ade u⟩;have I:=take_succ hv;have hcl:(L.take j).countP (λb=>b.sw==k)<=j:=aj0 (List.countP_le_length) (by simp;omega);have hJ:J (((L.take (j+1)).countP (λb=>b.sw==k):Nat):Int):=by
   simp only[J];rw[Α];exact h _ _ ⟨j+1,by omega,rfl,rfl,rfl⟩ (by grind)
  rw[I,amN,List.countP_singleton] at hJ;refine SlN_ix BL (by omega) (hb.ext f1) (by omega) (by rw[ab3];exact hv) λa hc=> ?_;refine ig (hc 0 _ rfl) ?_
  cases hs:(b.sw==k)
  ·rw[hs] at hJ;exact hJ
  ·rw[hs] at hJ;rw[aaU,Α];exact hJ
 ·dsimp only;rw[show decide ((j:Int)<(bs.len:Int))=false by rw[adn];omega,aaT,akM (by omega)];trivial
def Inj (L:List Bnd):Prop:=∀(i k:Nat) (b x:Bnd),k<i->L[i]? =some b->L[k]? =some x->¬(x.sw=b.sw/\x.pr=b.pr/\x.ad=b.ad/\x.po=b.po)/\¬(x.opr=b.opr/\x.oad=b.oad/\x.opo=b.opo)
theorem YM {n n3 n4 n5:Int} {bs ss s6:fU} {L:List Bnd} (hb:lK 8 eB w bs L) (hl:bs.len<=2^40) (hi:Inj L):
  rJ n bs ss n3 n4 n5 s6 w λr w'=>r=true/\Ext w w':=by
 apply Nl;refine gy λp w1 r1 e1 z1 f1=> ?_;have hlen:=hb.len;refine gI (λst W=>∃i:Nat,i<=L.length/\st.1=(i:Int)/\Ext w1 W) (λst _=>L.length - st.1.toNat) ⟨0,by omega,rfl,Ext.refl _⟩ ?_;rintro⟨i,⟨⟩⟩ W ⟨j,hj,hi',hx⟩ next u
 simp only at hi';subst hi';refine gZ (r1.ext hx) rfl ?_;by_cases O:j<L.length
 ·rw[show decide ((j:Int)<(bs.len:Int))=true by rw[aeJ];omega,aaU];obtain⟨b,hv⟩:∃b,L[j]? =some b:=⟨_,ade O⟩;refine gI (λst W=>∃i:Nat,i<=j/\st.1=(i:Int)/\Ext w1 W) (λst _=>j - st.1.toNat) ⟨0,by omega,rfl,hx⟩ ?_;rintro⟨i,⟨⟩⟩ W ⟨k,hk,hi',hx⟩ next2 h;simp only at hi';subst hi';dsimp -zeta only;by_cases R:k<j
  ·rw[show decide ((k:Int)<(j:Int))=true by rw[aeJ];omega,aaU];intro J;have I:=hx.trans (Ext.drew W);have hJ:J false W.drew:=by
    simp only[J];rw[aaT,Α];exact h _ _ ⟨k+1,by omega,rfl,I⟩ (by omega)
   obtain⟨x,N⟩:∃x,L[k]? =some x:=⟨_,ade (by omega)⟩;obtain⟨n1,n2⟩:=hi j k b x R hv N;have r1:=r1.ext I;have hb:=hb.ext (f1.trans I);refine gZ r1 rfl (SlN_ix BL (by omega) hb (by omega) (by rw[ab3];exact N) λa1 c1=> ?_);refine ig (c1 0 _ rfl) (ig (c1 1 _ rfl) (ig (c1 2 _ rfl) (ig (c1 3 _ rfl) ?_)));refine gZ r1 rfl (SlN_ix BL (by omega) hb (by omega) (by rw[ab3];exact hv) λa2 c2=> ?_);refine ig (c2 0 _ rfl) (ig (c2 1 _ rfl) (ig (c2 2 _ rfl) (ig (c2 3 _ rfl) ?_)));rw[show ((x.sw==b.sw) && ((x.pr==b.pr) && ((x.ad==b.ad) && ((x.po==b.po) && true))))=false by
    simp_all,aaT]
   refine gZ r1 rfl (SlN_ix BL (by omega) hb (by omega) (by rw[ab3];exact N) λa3 c3=> ?_);refine ig (c3 4 _ rfl) (ig (c3 5 _ rfl) (ig (c3 6 _ rfl) ?_));refine gZ r1 rfl (SlN_ix BL (by omega) hb (by omega) (by rw[ab3];exact hv) λa4 c4=> ?_);refine ig (c4 4 _ rfl) (ig (c4 5 _ rfl) (ig (c4 6 _ rfl) ?_));rw[show ((x.opr==b.opr) && ((x.oad==b.oad) && ((x.opo==b.opo) && true)))=false by
    simp_all]
   exact hJ
  ·rw[show decide ((k:Int)<(j:Int))=false by rw[adn];omega,aaT,Α];exact u _ _ ⟨j+1,by omega,rfl,hx⟩ (by omega)
 ·rw[show decide ((j:Int)<(bs.len:Int))=false by rw[adn];omega,aaT];exact⟨rfl,f1.trans hx⟩
end Go.Proofs.EN
end
section
namespace Go.Proofs.AN
open Gp Gp.V4 Go.Proofs Go.Proofs.VN
open Gp.Bind (In64)
theorem ahk {n:Nat} (hn:n<=2^46) (w:θ):pF ⟨none,0,0⟩ (n:Int) w λr w'=>Buf w' r (bytesV [])/\Ext w w'/\∀b,fU.at r b->w.heap.size<=b:=by
 apply Eh;rw[adn (by omega),aaT];have e0:ο.wrap (((0:Nat):Int) - ((0:Nat):Int))=0:=rfl;simp -zeta only[e0];rw[show ((n:Int) - 0)=(n:Int) by omega,Α];intro J;by_cases hz:(n:Int)>0
 ·rw[aeJ hz,aaU];refine⟨by omega,by omega,by simp,?_⟩;show Xk 5 1 1 [.int .u8 0] (⟨none,0,0⟩:fU) (n:Int) w _;refine SK (by simp_all) (by simp_all) (by simp_all) rfl λc w1 hc r1 f1 z1=> ?_;have hc:=hc;refine⟨by omega,by omega,by simp,?_⟩;have h:qU (some (⟨w.heap.size,0,none⟩:Addr)) c (0:Int).toNat 1=some ⟨w.heap.size,0,none⟩:=by
   unfold qU;split<;>simp[Addr.add]
  show J ⟨qU (some (⟨w.heap.size,0,none⟩:Addr)) c (0:Int).toNat 1,0,c - 0⟩ w1;rw[h];refine⟨⟨rfl,.inr ⟨w.heap.size,gX [.int .u8 0] n++gX [.int .u8 0] (c - (0+n)),rfl,?_,by simpa [bytesV] using r1⟩⟩,f1,λb ⟨o,hb⟩=>by simp_all⟩;simp only[ahY,nG,aiQ,alU,bytesV,List.map_nil];omega
 ·rw[adn hz,aaT];exact⟨Buf.nil,Ext.refl _,λb ⟨o,hb⟩=>by cases hb⟩
def L_ (ps:List (fU×List UInt8)):List UInt8:=ps.flatMap (·.2)
theorem agV {ps:List (fU×List UInt8)} {n:Nat} (h:∀p∈ps,p.2.length<=n):(L_ ps).length<=ps.length * n:=by
 induction ps with
 |nil=>simp[L_]
 |cons p ps ih=>
  have h1:=h p (by simp);have h2:=ih λq hq=>h q (by simp[hq]);unfold L_ at h2 ⊢;rw[ak0,ahY,aiQ,ale];omega
theorem Xt {ps:List (fU×List UInt8)} {i:Nat} {p:fU×List UInt8} (h:ps[i]? =some p):L_ (ps.take (i+1))=L_ (ps.take i)++p.2:=by
 unfold L_;rw[aly,h,alh];simp
theorem acU {w:θ} {s:fU} {ps:List (fU×List UInt8)} (hs:Parts w s ps) {i:Nat} {p:fU×List UInt8} (hp:ps[i]? =some p) {K:Addr->Prop} (hK:∀a,w.cell? a=some (.slice p.1.a p.1.len p.1.cap)->iD w p.1 p.2->K a):iE s 1 (i:Int) K:=by
 have hlt:=(aeK.1 hp).1;have hl:=hs.1;obtain⟨b,o,ha,hc,hb⟩:=hs.2 i p hp;refine⟨_,ha,by omega,by omega,?_⟩;rw[ab3,aiG,gJ];exact hK _ hc hb
theorem adz {w:θ} {s:fU} {ps:List (fU×List UInt8)} (hs:Parts w s ps) (hn:ps.length<=8) (hl:∀p∈ps,p.2.length<=2^40):
  n_ s w λr w'=>Buf w' r (bytesV (L_ ps))/\Ext w w'/\∀b,fU.at r b->w.heap.size<=b:=by
 apply B_;have hsl:=hs.1;have bnd:∀i,(L_ (ps.take i)).length<=2^43:=λi=>by
  have h1:=agV (ps:=ps.take i) λp hp=>hl p (ams hp)
  grind
 refine gI (λst W=>W=w/\∃i:Nat,i<=ps.length/\st.2.1=(i:Int)/\st.1=((L_ (ps.take i)).length:Int)) (λst _=>ps.length - st.2.1.toNat) ⟨rfl,0,by omega,rfl,by simp[L_]⟩ ?_;rintro⟨t,x,⟨⟩⟩ W ⟨rfl,i,hi,hx,ht⟩ next I
 simp only at hx ht;subst hx ht;by_cases N:(i:Int)<(s.len:Int)
 ·rw[aeJ N,aaU];have hp:=ade (show i<ps.length by omega);generalize ps[i]'(by omega)=p at hp;refine acU hs hp λa hc hb=> ?_;simp only[Xm,hc,f_,gK];have b1:=bnd (i+1);have e1:=Xt hp;have hpl:=hb.1;rw[e1,ahY] at b1;rw[Α,adn (by omega),aaT,Α];exact I _ _ ⟨rfl,i+1,by omega,by simp,by simp_all⟩ (by grind)
 ·rw[adn N,aaT];have b1:=bnd i;refine cmS2 (ahk (by omega) W) ?_;rintro r w1 ⟨g1,g2,g3⟩;refine gI (λst W'=>∃j:Nat,j<=ps.length/\st.2.1=(j:Int)/\Buf W' st.1 (bytesV (L_ (ps.take j)))/\(∀b,fU.at st.1 b->W.heap.size<=b)/\Ext W W') (λst _=>ps.length - st.2.1.toNat) ⟨0,by omega,rfl,by simpa [L_] using g1,g3,g2⟩ ?_;rintro⟨u,x,⟨⟩⟩ W' ⟨j,hj,hx,hb,R,J⟩ next' h
  simp only at hx hb R;subst hx;by_cases O:(j:Int)<(s.len:Int)
  ·rw[aeJ O,aaU];have hp:=ade (show j<ps.length by omega);generalize ps[j]'(by omega)=p at hp;refine acU (hs.fr J) hp λa hc U=> ?_;simp only[Xm,hc,f_,gK];have b2:=bnd (j+1);have e1:=Xt hp;rw[e1,ahY] at b2;refine jv hb U (by omega) λs' w' h1 h2 h3 _=> ?_;rw[Α];have z1:=J.size;refine h _ _ ⟨j+1,by omega,by simp,by rw[e1];exact h1,λb hb'=> ?_,J.new h2 λy hy hb'=>by grind⟩ (by grind)
   grind
  ·rw[adn O,aaT]
   grind
section
variable {w0 w w':θ}
theorem OO (t o:Int) (w:θ):qw t o w λr w'=>r=(if t= -1 then o else t)/\w'=w:=by
 apply WG;by_cases h:t= -1
 ·subst h;exact⟨rfl,rfl⟩
 ·have:(t== -1)=false:=by simp_all
  rw[this,aaT,ada h];trivial
def Xi (a b:Int) (L:List UInt8):List UInt8:=lU (lU (lU (lU [] a 2) b 2) (8+(L.length:Int)) 2) 0 2++L
def aex (sa da:Int) (m:List UInt8):Int:=if (65535 - fold (rY [(⟨none,0,0⟩,yV sa da 17 (m.length:Int)),(⟨none,0,0⟩,m)]):Nat)=0 then 65535 else ((65535 - fold (rY [(⟨none,0,0⟩,yV sa da 17 (m.length:Int)),(⟨none,0,0⟩,m)]):Nat):Int)
def aew (sa da a b:Int) (ns:Bool) (L:List UInt8):List UInt8:=if ns then Xi a b L else (Xi a b L).take 6++jY 2 (aex sa da (Xi a b L)).toNat++(Xi a b L).drop 8
theorem aaF (s s':fU) (l m:List UInt8):rY [(s,l),(s',m)]=tot l+tot m:=by simp[rY]
theorem aev (a b:Int) (ns:Bool) {d:fU} {L:List UInt8} (hd:iD w d L):Il a b ns d w λr w'=>(mg a->mg b->L.length<=60000->r=0)/\(r=0->L.length<=65527)/\Ext w w':=by
 apply Zu;refine gy λp w1 r1 e1 z1 f1=> ?_;have hl:=hd.1;intro J;have u:∀W,Ext w W->¬(mg a/\mg b)->J true W:=λW hx hn=>by
  simp only[J,aaU]
  grind
 have I:∀W,Ext w1 W->J false W:=λW hx=>by
  simp only[J,aaT];refine gZ (r1.ext hx) rfl ?_;by_cases c:(d.len:Int)>65527
  ·rw[aeJ c,aaU];exact⟨λ_ _ h=>by omega,(λh=>by cases h),f1.trans hx⟩
  ·rw[adn c,aaT];exact⟨λ_ _ _=>trivial,λ_=>by omega,f1.trans hx⟩
 clear_value J;have fit:∀n:Int,jc n 2↔mg n:=λn=>by
  unfold jc kV
  grind
 refine gZ r1 rfl ?_;refine cmS0 (rQ a 2 w1) ?_;rintro r w2 ⟨hr,hw⟩;subst hw
 cases r
 ·rw[afa,aaU];exact u _ f1 λh=>al7 hr.symm ((fit a).2 h.1)
 rw[adp,aaT];refine gZ r1 rfl ?_;refine cmS0 (rQ b 2 w2) ?_;rintro r w3 ⟨hr,hw⟩;subst hw
 cases r
 ·exact u _ f1 λh=>al7 hr.symm ((fit b).2 h.2)
 ·exact I _ (Ext.refl _)
theorem aep (sa da:Int) {s:fU} {m:List UInt8} (hs:iD w s m) (hl:m.length<=2^40):FZ sa da s w λr w'=>r=aex sa da m/\Ext w w':=by
 apply Xf;refine cmS2 (JY sa da 17 _ w) ?_;rintro ps w1 ⟨h,f1⟩;have hpl:=Dx sa da 17 (s.len:Int);refine gy λp w2 r2 e2 z2 f2=> ?_;have u:=hs.1;refine cmS1 (Uy (JX r2 (h.ext f2) ((hs.ext f1).ext f2)) (by simp) (by simp;omega)) ?_;rintro r w3 ⟨hr,f3⟩;have x3:=(f1.trans f2).trans f3;have e:r=((65535 - fold (rY [(⟨none,0,0⟩,yV sa da 17 (m.length:Int)),(⟨none,0,0⟩,m)]):Nat):Int):=by
  rw[hr,aaF,aaF,u]
 unfold aex;rw[e];generalize (65535 - fold (rY [(⟨none,0,0⟩,yV sa da 17 (m.length:Int)),(⟨none,0,0⟩,m)]):Nat)=q;by_cases h0:q=0
 ·subst h0;exact⟨rfl,x3⟩
 ·have:(((q:Nat):Int)==0)=false:=by simp_all
  rw[this,aaT,ada h0]
  grind
theorem aik (sa da:Int) (m:List UInt8):1<=aex sa da m/\aex sa da m<=65535:=by
 unfold aex;omega
theorem aeu (sa da a b:Int) (ns:Bool) {d:fU} {L:List UInt8} (hd:iD w d L) (hl:L.length<=2^40):
  Ik sa da a b ns d w λr e w'=>Ext w w'/\(mg a->mg b->L.length<=60000->e=0/\iD w' r (aew sa da a b ns L)/\∀x,fU.at r x->w.heap.size<=x):=by
 apply Zt;refine gy λp w1 r1 e1 z1 f1=> ?_;refine Ld_i 0 a r1 (Ld_i 1 b r1 (Ld_b 2 ns r1 (Ld_s 3 d r1 ?_)));refine cmS1 (aev a b ns (hd.ext f1)) ?_;rintro ce w2 ⟨hce,ae,f2⟩;have x2:=f1.trans f2;by_cases hc:ce=0;rotate_left
 ·have:(ce !=0)=true:=by simp_all
  rw[this,aaU]
  grind
 have hL:=ae hc;subst hc;rw[show ((0:Int) !=0)=false from rfl,aaT];have R:=r1.ext f2;have hdl:=hd.1;refine Ld_i 0 a R (Ld_i 1 b R (Ld_s 3 d R ?_));rw[Α];refine gy λg w3 r3 e3 z3 f3=> ?_;have x3:=x2.trans f3;have f13:=f2.trans f3
 let ns4:List Int:=[a,b,8+(d.len:Int),0]
 let acc:Nat->List UInt8:=λi=>(ns4.take i).foldl (λl n=>lU l n 2) []
 have u:∀i n,ns4[i]? =some n->acc (i+1)=lU (acc i) n 2:=by
  intro i n hi;simp only[acc];rw[aly,hi,List.foldl_append];rfl
 have Y:∀i,(acc i).length<=2 * i:=by
  intro i
  induction i with
  |zero=>simp[acc]
  |succ i ih=>
   cases hi:ns4[i]? with
   |none=>
    simp only[acc] at ih ⊢;rw[aly,hi]
    grind
   |some n=>
    rw[u i n hi];have:(lU (acc i) n 2).length<=(acc i).length+2:=Aw _ _ 2;omega
 refine gI (λst W=>∃i:Nat,i<=4/\st.2.1=(i:Int)/\Buf W st.1 (bytesV (acc i))/\Ext w1 W/\(∀x,fU.at st.1 x->w1.heap.size<=x)/\Ext w3 W) (λst _=>(4 - st.2.1).toNat) ⟨0,by omega,rfl,Buf.nil,f13,(λx h=>by obtain⟨o,h⟩:=h;cases h),Ext.refl _⟩ ?_;rintro⟨s,ii,⟨⟩⟩ W ⟨i,hi,Z,hb,hx,hn,hx3⟩ next I
 simp only at Z hb hn;subst Z;by_cases aa:(i:Int)<4
 ·rw[aeJ aa,aaU];have J:ns4[i]? =some (ns4[i]'(by grind)):=ade _;generalize ns4[i]'(by grind)=n at J;have N:W.cell? ⟨g,i,none⟩=some (Β n):=by
   rw[(r3.ext hx3).cell]
   grind
  show iE ⟨some ⟨g,0,none⟩,4,4⟩ 1 (i:Int) _;refine⟨⟨g,0,none⟩,rfl,by omega,by trivial,?_⟩;have ha9:(⟨g,0,none⟩:Addr).add ((i:Int).toNat * 1)=⟨g,i,none⟩:=by rw[ab3,aiG,gJ,ahO]
  rw[ha9];refine ig (k:= .int .i64) (y:=n) N ?_;have hai:=Y i;refine cmS2 (zT (iD.iG hb) (by omega) n 2) ?_;rintro s2 w5 ⟨b5,f5,n5⟩;have af:ο.wrap ((i:Int)+1)=(i:Int)+1:=Α;show next (s2,ο.wrap ((i:Int)+1),()) w5
  rw[af];refine I _ _ ⟨i+1,by omega,by rfl,by rw[u i n J];exact b5,hx.trans f5,λx ag=>by have:=n5 x ag;have:=hx.size;omega,hx3.trans f5⟩ (by grind)
 ·rw[adn aa,aaT];have hi4:i=4:=by omega
  subst hi4;have r1W:=r1.ext hx;refine Ld_s 3 d r1W ?_;have ha4:=Y 4;have O:acc 4++L=Xi a b L:=by
   unfold Xi
   grind
  refine jv hb ((hd.ext f1).ext hx) (by omega) λs5 w5 b5 f5 n5 _=> ?_;rw[O] at b5;have x5:=(f1.trans hx).new f5 λy hy hb=>by grind
  have hp1:¬fU.at s p:=λhb=>by grind
  have ah:=r1W.fr f5 hp1;refine Ld_b 2 ns ah ?_
  cases ns
  rotate_left
  ·rw[aaU];exact⟨x5,λ_ _ _=>⟨rfl,by unfold aew;exact iD.iG b5,λx hx5=>by
    have:=f1.size;have:=hx.size
    grind⟩⟩
  rw[aaT];have hul:(Xi a b L).length<=8+L.length:=by grind
  refine cmS1 (aep sa da (iD.iG b5) (by omega)) ?_;rintro sm w6 ⟨ab,f6⟩;have b6:=b5.fr (f6 λ_=>False) (by simp);obtain⟨u1,u2⟩:=aik sa da (Xi a b L);rw[<- ab] at u1 u2;refine cmS7 (Vr (iD.iG b6) (by omega) 6 sm 2) ?_;rintro r7 e7 w7 ⟨U,f7,n7⟩;refine⟨(x5.trans f6).trans f7,λh1 h2 h3=> ?_⟩;have hlen:8<=(Xi a b L).length:=by
   have q:∀(l:List UInt8) (n:Int),mg n->(lU l n 2).length=l.length+2:=λl n hn=>by
    unfold lU;rw[aeH ⟨⟨by omega,by omega⟩,by omega,by grind⟩,ahY];rfl
   grind
  have ac:=SC (l:=Xi a b L) (by unfold jc kV;grind) (by omega) (by omega) U;refine⟨ac.1,?_,λx hx7=>by have:=n7 x hx7;have:=(x5.trans f6).size;omega⟩;unfold aew;rw[<- ab];exact iD.iG ac.2
end
end Go.Proofs.AN
end
section
namespace Go.Proofs.AN
open Gp Gp.V4 Go.Proofs Go.Proofs.VN
open Gp.Bind (In64)
section
variable {w0 w w':θ}
def prV (c:Int×Int):List Value:=[Β c.1,Β c.2]
theorem ZC (c:Int×Int):(prV c).length=2:=rfl
theorem ajC (l:List UInt8) (n k:Int):(lU l n k).length<=l.length+4:=by
 unfold lU;split
 ·rename_i h;have:=h.1;unfold kV at this;rw[ahY,iT];omega
 ·omega
theorem aak {b:Nat} {s s' s'':fU} {l l' l'':List UInt8} (h:Row w b [Δ s,.slice s'.a s'.len s'.cap,.slice s''.a s''.len s''.cap]) (hs:iD w s l) (hs':iD w s' l') (hs'':iD w s'' l''):Parts w ⟨some ⟨b,0,none⟩,3,3⟩ [(s,l),(s',l'),(s'',l'')]:=by
 refine⟨rfl,λi p hi=> ?_⟩
 match i,hi with
 |0,hi=>simp at hi;subst hi;exact⟨b,0,rfl,by rw[h.cell];rfl,hs⟩
 |1,hi=>simp at hi;subst hi;exact⟨b,0,rfl,by rw[h.cell];rfl,hs'⟩
 |2,hi=>simp at hi;subst hi;exact⟨b,0,rfl,by rw[h.cell];rfl,hs''⟩
 |(n+3),hi=>simp at hi
theorem Vy (x0 x1 x2 x3 x4 x5 x6 x7:Int) (x8 x9:fU) (w:θ):Ak x0 x1 x2 x3 x4 x5 x6 x7 x8 x9 w λr w'=>(∃l:List (Int×Int),lK 2 prV w' r l/\l.length=9)/\Ext w w':=by
 apply Xd;refine gy λa w1 r1 e1 z1 f1=> ?_;refine Ld_s 8 x8 r1 ⟨by omega,?_⟩;refine Ld_i 0 x0 r1 (Ld_i 1 x1 r1 (Ld_i 2 x2 r1 (Ld_i 3 x3 r1 ⟨by omega,?_⟩)));refine Ld_i 4 x4 r1 (Ld_i 5 x5 r1 (Ld_i 6 x6 r1 (Ld_i 7 x7 r1 ?_)));refine gy λg w2 r2 e2 z2 f2=> ?_;have hb:=iQ.row (n:=2) (f:=prV) (xs:=[(x0,2),(x1,2),(x2,4),(x3,4),(orI .i64 (Lu .i64 (ο.wrap (Int.tdiv (ο.wrap (20+(x8.len:Int))) 4)) 4) x4,1),(x5,1),(x6,2),(0,2),(x7,2)]) r2;exact⟨⟨_,hb.sl ZC (by omega),rfl⟩,f1.trans f2⟩
theorem aes (x0 x1 x2 x3 x4 x5 x6 x7:Int) (x8 x9:fU) (w:θ) (h8:x8.len<=2^40) (h9:x9.len<=2^40):Ii x0 x1 x2 x3 x4 x5 x6 x7 x8 x9 w λe w'=>(e=0->x8.len<=65535/\x9.len<=65535)/\Ext w w':=by
 apply Zq;refine gy λa w1 r1 e1 z1 f1=> ?_;intro J;have hJ:∀q,J q:=by
  intro q;simp only[J]
  cases q
  rotate_left
  ·exact⟨(λh=>by cases h),f1⟩
  rw[aaT];refine aaq r1 ?_;refine cmS2 (Vy _ _ _ _ _ _ _ _ _ _ w1) ?_;rintro r w2 ⟨⟨l,hl,R⟩,f2⟩;have U:r.len=9:=by rw[hl.len,R]
  rw[U];refine gI (λst W=>∃i:Nat,i<=9/\st.1=(i:Int)/\Ext w2 W) (λst _=>(9 - st.1).toNat) ⟨0,by omega,rfl,Ext.refl _⟩ ?_;rintro⟨ii,⟨⟩⟩ W ⟨i,hi,N,hx⟩ next u
  simp only at N;subst N;by_cases O:(i:Int)<((9:Nat):Int)
  ·rw[aeJ O,aaU];have I:=ade (show i<l.length by omega);generalize l[i]'(by omega)=c at I;show iE r 2 (i:Int) _;refine SN.SlN_ix (i:=(i:Int)) ZC (by omega) (hl.ext hx) (by omega) (by rw[ab3];exact I) λa9 h9'=> ?_;refine ig (k:= .int .i64) (y:=c.1) (h9' 0 _ rfl) (ig (k:= .int .i64) (y:=c.2) (h9' 1 _ rfl) ?_);refine gy λk w3 r3 e3 z3 f3=> ?_;refine StN_f r3 λw4 r4 f4 z4=> ?_;have x4':Ext W w4:=f3.nw f4;refine Ld_i 0 c.1 r4 (Ld_i 1 c.2 r4 ?_);refine cmS0 (rQ _ _ w4) ?_;rintro q w5 ⟨_,hw⟩;subst hw
   cases q
   ·exact⟨(λh=>by cases h),((f1.trans f2).trans hx).trans x4'⟩
   ·rw[adp,aaT];have Y:ο.wrap ((i:Int)+1)=(i:Int)+1:=Α;show next (ο.wrap ((i:Int)+1),()) w5
    rw[Y];exact u _ _ ⟨i+1,by omega,by push_cast;rfl,hx.trans x4'⟩ (by simp only;omega)
  ·rw[adn O,aaT];have rW:=r1.ext (f2.trans hx);refine Ld_s 8 x8 rW (Ld_s 9 x9 rW ?_);have xW:=(f1.trans f2).trans hx;rw[Α (n:=20+(x8.len:Int)) (by omega) (by omega),Α];by_cases hb:20+(x8.len:Int)+(x9.len:Int)>65535
   ·rw[aeJ hb,aaU];exact⟨(λh=>by cases h),xW⟩
   ·rw[adn hb,aaT];exact⟨λ_=>⟨by omega,by omega⟩,xW⟩
 clear_value J;refine Ld_s 8 x8 r1 ?_
 cases (decide ((x8.len:Int)>40))
 rotate_left
 ·exact hJ _
 rw[aaT];refine Ld_s 8 x8 r1 ⟨by omega,?_⟩
 cases ((Int.tmod (x8.len:Int) 4) !=0)
 rotate_left
 ·exact hJ _
 rw[aaT];refine Ld_i 4 x4 r1 ?_
 cases (decide (x4<0))
 rotate_left
 ·exact hJ _
 rw[aaT];exact Ld_i 4 x4 r1 (hJ _)
theorem aer (sa da x0 x1 x2 x3 x4 x5 x6 x7:Int) {x8 x9:fU} (h8:VL w x8) (h9:VL w x9):Ih sa da x0 x1 x2 x3 x4 x5 x6 x7 x8 x9 w λ_ _ w'=>Ext w w':=by
 obtain⟨L8,g8,l8⟩:=h8;obtain⟨L9,g9,l9⟩:=h9;have k8:=g8.1;have k9:=g9.1;apply Zp;refine gy λa w1 r1 e1 z1 f1=> ?_;refine aaq r1 ?_;refine cmS1 (aes _ _ _ _ _ _ _ _ _ _ w1 (by omega) (by omega)) ?_;rintro ce w2 ⟨N,f2⟩;have x2:=f1.trans f2;by_cases hc:ce=0;rotate_left
 ·have:(ce !=0)=true:=by rw[alM];exact hc
  rw[this,aaU];exact x2
 obtain⟨q8,q9⟩:=N hc;subst hc;rw[show ((0:Int) !=0)=false from rfl,aaT];refine aaq (r1.ext f2) ?_;refine cmS2 (Vy _ _ _ _ _ _ _ _ _ _ w2) ?_;rintro r w3 ⟨⟨l,hl,O⟩,f3⟩;have R:r.len=9:=by rw[hl.len,O]
 rw[R];have x3:=x2.trans f3;refine gI (λst W=>∃(i:Nat) (m:List UInt8),i<=9/\st.2.1=(i:Int)/\Buf W st.1 (bytesV m)/\m.length<=4 * i/\Ext w3 W) (λst _=>(9 - st.2.1).toNat) ⟨0,[],by omega,rfl,Buf.nil,by simp,Ext.refl _⟩ ?_;rintro⟨s,ii,⟨⟩⟩ W ⟨i,m,hi,I,hb,hm,hx⟩ next h
 simp only at I hb;subst I;by_cases J:(i:Int)<((9:Nat):Int)
 ·rw[aeJ J,aaU];have u:=ade (show i<l.length by omega);generalize l[i]'(by omega)=c at u;show iE r 2 (i:Int) _;refine SN.SlN_ix (i:=(i:Int)) ZC (by omega) (hl.ext hx) (by omega) (by rw[ab3];exact u) λa9 h9'=> ?_;refine ig (k:= .int .i64) (y:=c.1) (h9' 0 _ rfl) (ig (k:= .int .i64) (y:=c.2) (h9' 1 _ rfl) ?_);refine gy λk w4 r4 e4 z4 f4=> ?_;refine StN_f r4 λw5 r5 f5 z5=> ?_;have x5':Ext W w5:=f4.nw f5;refine Ld_i 0 c.1 r5 (Ld_i 1 c.2 r5 ?_);refine cmS2 (zT ((iD.iG hb).ext x5') (by omega) c.1 c.2) ?_;rintro s2 w6 ⟨b6,f6,_⟩;have hp4:=ajC m c.1 c.2;have U:ο.wrap ((i:Int)+1)=(i:Int)+1:=Α;show next (s2,ο.wrap ((i:Int)+1),()) w6
  rw[U];exact h _ _ ⟨i+1,_,by omega,by push_cast;rfl,b6,by omega,(hx.trans x5').trans f6⟩ (by simp only;omega)
 ·rw[adn J,aaT];have rW:=r1.ext ((f2.trans f3).trans hx);have xW:=x3.trans hx;refine Ld_s 8 x8 rW (Ld_s 9 x9 rW ?_);refine gy λg w4 r4 e4 z4 f4=> ?_;have x4':=xW.trans f4;refine cmS2 (adz (aak r4 ((iD.iG hb).ext f4) (g8.ext x4') (g9.ext x4')) (by simp) (by
   intro p hp;simp only[agN,ajH,akL] at hp;rcases hp with rfl|rfl|rfl<;>simp only<;>omega)) ?_
  rintro o w5 ⟨b5,f5,_⟩;have Y:(L_ [(s,m),(x8,L8),(x9,L9)]).length<=2^20:=by
   simp only[L_,ak0,List.flatMap_nil,List.append_nil,ahY];omega
  generalize L_ [(s,m),(x8,L8),(x9,L9)]=M at b5 Y;have hol:o.len=M.length:=by rw[b5.1,jI]
  refine cmS2 (JY sa da 6 _ w5) ?_;rintro ps w6 ⟨Z,f6⟩;have hpl:=Dx sa da 6 (o.len:Int);refine gy λq w7 r7 e7 z7 f7=> ?_;have b7:=(b5.fr (f6 λ_=>False) (by simp)).fr (f7 λ_=>False) (by simp);refine cmS1 (Uy (JX r7 (Z.ext f7) (iD.iG b7)) (by simp) (by simp;omega)) ?_;rintro sm w8 ⟨_,f8⟩;refine cmS7 (Vr ((iD.iG b7).ext f8) (by omega) 16 sm 2) ?_;rintro r9 e9 w9 ⟨_,f9,_⟩;exact((((x4'.trans f5).trans f6).trans f7).trans f8).trans f9
theorem aeB (x0 x1 x2:Int) {x3:fU} (h3:VL w x3) (n:Int) {K:Int->Int->Int->fU->b_} (hK:∀y0 y1 y2 y3 w',Ext w w'->VL w' y3->K y0 y1 y2 y3 w'):DT x0 x1 x2 x3 n w K:=by
 obtain⟨L,g3,l3⟩:=h3;apply UJ;refine gy λa w1 r1 e1 z1 f1=> ?_;refine gy λb w2 r2 e2 z2 f2=>⟨by omega,?_⟩;have h:=r1.ext f2;have za:=f1.size;have zb:=f2.size;refine Ld_i 2 x2 h ?_;refine gY (i:=2) h rfl (by simp) λw3 r3 f3' z3=> ?_;have f3:gV w2 w3 (·=a):=f3' _ rfl;simp only[agO,af7] at r3;have x3':Ext w w3:=(f1.trans f2).nw f3;refine Ld_s 3 x3 r3 ?_;refine cmS2 (nR (g3.ext x3') (by omega)) ?_;rintro o w4 ⟨bo,_,f4,no⟩;have r4:=r3.ext f4;refine gY (i:=3) r4 rfl (by simp) λw5 r5 f5' z5=> ?_;have f5:gV w4 w5 (·=a):=f5' _ rfl;simp only[agO,af7] at r5;refine X5 (K:=λx0 x1 x2 x3 W=>_) r5 ?_;have u:=(((r2.fr f3 (by omega)).ext f4).fr f5 (by omega));refine StN_f u λw6 r6 f6 z6=> ?_;have zo:=x3'.size;have ao:∀c,fU.at o c->c≠a/\c≠b:=λc hc=>by have:=no c hc;have:=r3.lt;have:=(r2.fr f3 (by omega)).lt;omega
 refine X5 (K:=K) r6 ?_;exact hK _ _ _ _ w6 (((x3'.trans f4).nw f5).nw f6) ⟨L,iD.iG ((bo.fr f5 λc hc=>(ao c hc).1).fr f6 λc hc=>(ao c hc).2),l3⟩
end
end Go.Proofs.AN
end
