import Derived.Test.YtlpncoeijhpddaaGreatDoorW13
set_option maxRecDepth 100000
set_option maxHeartbeats 2000000
section
namespace Go.Proofs.AN
open Gp Gp.V4 Go.Proofs Go.Proofs.VN
open Gp.Bind (In64)
section
variable {w0 w w':θ}
def evN (n:Int):Value:= Β n
theorem ahd (s0:gG) (x0 x1 x2 x3 x4 x5 x6:Int) (x7 x8:Bool) (x9:gG) (N:Int) {d:gG} {m:List UInt8} (hd:iH w d m) (hm:m.length<=2^40):
  tX s0 x0 x1 x2 x3 x4 x5 x6 x7 x8 x9 d N w λr w'=>(r= -1\/(0<=r/\r+2<=m.length))/\Ext w w':=by
 apply H_;refine gU λa w1 r1 e1 z1 f1=> ?_;refine WN.JW (enc:=WN.Ϯ) (ev:=evN) λw2 g2 z2 f2=> ?_;have O:a≠w1.heap.size:=by have:=r1.lt;omega
 refine zJ (ev:=evN) g2 WN.eqW 17 6 (WN.Zh _) λw3 g3 f3 z3=> ?_;refine zJ (ev:=evN) g3 WN.eqW 6 16 (WN.Zh _) λw4 g4 f4 z4=> ?_;refine zJ (ev:=evN) g4 WN.eqW 1 2 (WN.Zh _) λw5 g5 f5 z5=> ?_;have f35:ig w2 w5 (·=w1.heap.size):=(f3.trans f4 λ_ _ h=>h).trans f5 λ_ _ h=>h;have s1:=f1.size;have x5:Ext w w5:=(f1.trans f2).nw f35;have r5:=(r1.ext f2).fr f35 O;have hd5:=hd.ext x5;refine iO (k:= .int .i64) (y:=x4) (by rw[gY,gY,r5.cell];rfl) ?_;have key:∀(v:Int),(v=6\/v=16\/v=2\/v=0)->(let u:Bool->b_:=λR I=>(bif R then ((-1:Int)= -1\/(0<=(-1:Int)/\(-1:Int)+2<=(m.length:Int)))/\Ext w I else (v= -1\/(0<=v/\v+2<=(m.length:Int)))/\Ext w I)
   Ld .slice w5 (Addr.add (Addr.add ⟨a,0,none⟩ 1) 10) λU=>(bif (decide ((ο.wrap (v+2))>(U.len:Int))) then u true w5 else
    Ld ν w5 (Addr.add (Addr.add ⟨a,0,none⟩ 1) 4) λY=>(bif (Y==17) then
     uN w5 ⟨a,0,none⟩ λZ aa ab ac ae af ag ah ai aj ak am an=>jZ Z aa ab ac ae af ag ah ai aj ak am an v w5 λao aq=>u (ao==0) aq
    else u false w5))):=by
  intro v hv;intro J;refine iO (k:= .slice) (y:=d) (by rw[gY,gY,r5.cell];rfl) ?_;rw[Α];have hl:=hd.1;by_cases c1:v+2>(d.len:Int)
  ·rw[aff c1,abt];exact⟨.inl rfl,x5⟩
  rw[adX c1,aaf];have hJ:∀q W,Ext w W->J q W:=by
   intro q W hx;simp only[J]
   cases q
   ·exact⟨.inr ⟨by omega,by omega⟩,hx⟩
   ·exact⟨.inl trivial,hx⟩
  clear_value J;refine iO (k:= .int .i64) (y:=x4) (by rw[gY,gY,r5.cell];rfl) ?_
  cases (x4==17)
  ·exact hJ _ _ x5
  ·rw[abt];refine QC r5 ?_;refine cmS1 (Pn _ _ _ _ _ _ _ _ _ _ _ _ hd5 hm v) ?_;rintro n w6 ⟨_,f6⟩;exact hJ _ _ (x5.trans f6)
 refine EL (k:= .int .i64) g5 WN.eqW x4 (WN.Zh _) (λ_=>key 0 (by omega)) (λb hb=> ?_);have hb':b=6\/b=16\/b=2\/b=0:=by
  rw[Ce] at hb;split at hb
  ·cases hb;omega
  rw[Ce] at hb;split at hb
  ·cases hb;omega
  rw[Ce] at hb;split at hb
  ·cases hb;omega
  ·cases hb
 exact key b hb'
theorem chs {pc:Nat} {cs:List Ch} (hr:Row w pc (cs.flatMap chV)):ny 3 chV w ⟨some ⟨pc,0,none⟩,cs.length,cs.length⟩ cs:=(jc.row (n:=3) (f:=chV) hr).sl ac5 (by omega)
theorem adk {s d:gG} {l m:List UInt8} (hs:iH w s l) (hl:l.length<=2^40) (hd:iH w d m) (x0 x1 x2 x3 x4 x5 x6:Int) (x7 x8:Bool) (x9:gG) {h:Int} (h20:20<=h) (hm8:8<=m.length) (hml:h+(m.length:Int)<=l.length)
  (aa pa an n:Int) (ha:aa=12\/aa=16) (hpa:pa=0\/pa=2):
  pO s x0 x1 x2 x3 x4 x5 x6 x7 x8 x9 d h aa pa an n w λr w'=>(∃L:List UInt8,iH w' r L/\L.length<=2^40)/\Ext w w':=by
 apply Jw;refine gU λa w1 r1 e1 z1 f1=> ?_;intro J;have hJ:∀q,q=0\/q=2\/q=4->J q:=by
  intro q hq;simp only[J];refine Ld_s 0 s r1 ?_;refine cmS19 (T_ (hs.ext f1) hl aa an 4 (by omega) (by omega) (by omega)) ?_;rintro c0 c1 c2 w2 ⟨⟨hc0,⟨m1,hm1,lm1⟩,m2,hm2,lm2⟩,f2⟩;have hc0:=hc0.symm;subst hc0;refine gU λb w3 r3 e3 z3 f3=> ?_;refine StN_f r3 λw4 r4 f4 z4=> ?_;have R:Ext w2 w4:=f3.nw f4;have g4:=f2.trans R;have U:=r1.ext g4;have x4':=f1.trans g4;refine Ld_s 0 s U (Ld_i 12 h U ?_);rw[Α (n:=h+q) (by omega) (by omega)];refine cmS19 (T_ (hs.ext x4') hl (h+q) n 2 (by omega) (by omega) (by omega)) ?_;rintro d0 d1 d2 w5 ⟨⟨rfl,⟨m3,hm3,lm3⟩,m4,hm4,lm4⟩,f5⟩;refine gU λk w6 r6 e6 z6 f6=> ?_;refine StN_f r6 λw7 r7 f7 z7=> ?_;have I:Ext w5 w7:=f6.nw f7;have g7:=f5.trans I;have x7':=x4'.trans g7;have W:=U.ext g7;have N:=r4.ext g7;have C1:adR w7 l.length (aa,c1,c2):=⟨by show 0<=aa;omega,by show aa<l.length;omega,⟨m1,(hm1.ext R).ext g7,lm1⟩,m2,(hm2.ext R).ext g7,lm2⟩;have C2:adR w7 l.length (h+q,d1,d2):=⟨by show 0<=h+q;omega,by show h+q<l.length;omega,⟨m3,hm3.ext I,lm3⟩,m4,hm4.ext I,lm4⟩;refine Ld_s 0 s W ?_;refine Ld_i 0 aa N (Ld_s 1 c1 N (Ld_s 2 c2 N ?_));refine gU λpc w8 r8 e8 z8 f8=> ?_;have x8':=x7'.trans f8;refine cmS2 (ύ (cs:=[(aa,c1,c2)]) (hs.ext x8') hl 10 (by omega) (by omega) (chs (cs:=[(aa,c1,c2)]) r8) (by simp) (by
   intro c hc;simp only[alk] at hc;subst hc;exact C1.ext f8)) ?_
  rintro o1 w9 ⟨⟨L1,B1,hL1⟩,f9,n9⟩;have Y:=f8.trans f9;have x9':=x7'.trans Y;have aj:=W.ext Y;refine QC aj ?_;refine cmS1 (ahd _ _ _ _ _ _ _ _ _ _ _ _ (hd.ext x9') (by omega)) ?_;rintro r O ⟨hr,f10⟩;have x710:=Y.trans f10;have u:=x7'.trans x710;have r110:=W.ext x710;have r410:=N.ext x710;have r710:=r7.ext x710;have Z:Buf O o1 (bytesV L1):=B1.fr (f10 λ_=>False) (by simp);rcases hr with rfl|⟨hr0,hr1⟩
  ·
   rw[show ((-1:Int)== -1)=true from rfl,abt];have ab:=Ext.drew O;refine Ld_i 0 (h+q) r710.drew ?_;have Bd:Buf O.drew o1 (bytesV L1):=Z.fr (ab λ_=>False) (by simp);refine ac7 (src:=d2) Bd (by omega) (by omega) λs17 ak=> ?_;refine Ld_s 2 d2 r710.drew ?_;refine ak O.drew m4 _ Bd (((hm4.ext I).ext x710).ext ab) λnn ag L' hL' am f11=> ?_;have hn9:=x8'.size;exact⟨⟨L',iH.iM am,by omega⟩,(u.trans ab).new f11 λy hy hb=>by have:=n9 y hb;omega⟩
  have ao:(r== -1)=false:=by rw[amH];omega
  rw[ao,aaf];refine Ld_i 12 h r110 ?_;refine iO (k:= .int .i64) (y:=x4) (by rw[gY,gY,r110.cell];rfl) ?_;have aq:ο.wrap (r+h)=r+h:=Α;rw[aq];by_cases h1:(x4==1)=true
  ·rw[h1,abt];refine Ld_i 0 (h+q) r710 (Ld_s 1 d1 r710 (Ld_s 2 d2 r710 ?_));refine gU λpc2 ag ac ar au f11=> ?_;refine cmS2 (ύ (cs:=[(h+q,d1,d2)]) ((iH.iM Z).ext f11) (by omega) (r+h) (by omega) (by omega) (chs (cs:=[(h+q,d1,d2)]) ac) (by simp) (by
    intro c hc;simp only[alk] at hc;subst hc;rw[hL1];exact(C2.ext x710).ext f11)) ?_
   rintro o2 av ⟨⟨L2,B2,hL2⟩,f12,n12⟩;exact⟨⟨L2,iH.iM B2,by omega⟩,(u.trans f11).trans f12⟩
  ·have h1:(x4==1)=false:=by simpa using h1
   rw[h1,aaf];refine Ld_i 0 aa r410 (Ld_s 1 c1 r410 (Ld_s 2 c2 r410 ?_));refine Ld_i 0 (h+q) r710 (Ld_s 1 d1 r710 (Ld_s 2 d2 r710 ?_));refine gU λpc2 ag ac ar au f11=> ?_;refine cmS2 (ύ (cs:=[(aa,c1,c2),(h+q,d1,d2)]) ((iH.iM Z).ext f11) (by omega) (r+h) (by omega) (by omega) (chs (cs:=[(aa,c1,c2),(h+q,d1,d2)]) ac) (by simp) (by
    intro c hc;rw[hL1];simp only[agI,ajr,alf] at hc;rcases hc with rfl|rfl
    ·exact(C1.ext x710).ext f11
    ·exact(C2.ext x710).ext f11)) ?_
   rintro o2 av ⟨⟨L2,B2,hL2⟩,f12,n12⟩;have ah:=(u.trans f11).trans f12;have r112:=(r110.ext f11).ext f12;refine cmS8 (P_ (iH.iM B2) (by omega) (r+h) 2) ?_;rintro g e ae ⟨hw,_⟩;subst hw;have hf:(∃L:List UInt8,iH ae o2 L/\L.length<=2^40)/\Ext w ae:=⟨⟨L2,iH.iM B2,by omega⟩,ah⟩;have ht:zM o2 (r+h) 65535 2 ae λaw _ ai=>(∃L:List UInt8,iH ai aw L/\L.length<=2^40)/\Ext w ai:=by
    refine cmS5 (VT (iH.iM B2) (by omega) (r+h) 65535 2) ?_;rintro o3 e3 w14 ⟨af,f14,_⟩;have ax:=(Td (l:=L2) (by unfold jm lN;refine⟨by omega,by omega,?_⟩;have:(2:Int).toNat=2:=rfl;rw[this];omega) (by omega) (by omega) af).2;refine⟨⟨_,iH.iM ax,?_⟩,ah.trans f14⟩;have h2:(2:Int).toNat=2:=rfl;rw[h2];simp only[ahP,ajH,al2,jf];omega
   cases (g==0)
   ·exact hf
   ·rw[abt];refine iO (k:= .int .i64) (y:=x4) (by rw[gY,gY,r112.cell];rfl) ?_
    cases (x4==17)
    ·exact hf
    ·exact ht
 clear_value J;refine iO (k:= .int .i64) (y:=x4) (by rw[gY,gY,r1.cell];rfl) ?_
 cases (x4==1)
 ·exact hJ _ (by omega)
 ·exact hJ _ (by omega)
end
end Go.Proofs.AN
end
section
namespace Go.Proofs.AN
open Gp Gp.V4 Go.Proofs Go.Proofs.VN
open Gp.Bind (In64)
section
variable {w0 w w':θ}
theorem adB {s:gG} {l:List UInt8} (hs:iH w s l) (hl:l.length<=2^40) (an n:Int) {K:gG->Int->Int->Int->Int->Int->Int->Int->Bool->Bool->gG->gG->Int->Int->b_}
  (hK:∀s0 t i o l' p s' d' df mf op da hd e w' (m:List UInt8),Ext w w'->iH w' da m->m.length<=2^40->(e=0->s0=s/\20<=hd/\hd+(m.length:Int)<=(l.length:Int)/\8<=m.length)->K s0 t i o l' p s' d' df mf op da hd e w'):Dq s an n w K:=by
 apply ZK;refine gU λa w1 r1 e1 z1 f1=> ?_;refine QB (hs.ext f1) hl λt i o l' p s' d' df mf op da x y z e w2 f2 _ _ _ _ _=> ?_;refine gU λb w3 r3 e3 z3 f3=> ?_;refine gU λk w4 r4 e4 z4 f4=> ?_;refine StN_f (r3.ext f4) λw5 r5 f5 z5=> ?_;have z1f:=f1.size;have z2f:=f2.size;have z3f:=f3.size;refine StN_f (r4.fr f5 (by omega)) λw6 r6 f6 z6=> ?_;have x6:Ext w w6:=((((f1.trans f2).trans f3).trans f4).nw f5).nw f6;have u:Ext w1 w6:=((((f2).trans f3).trans f4).nw f5).nw f6;have zr:∀(W:θ) (e:Int),Ext w1 W->e≠0->iE (oI ⟨none,0,0⟩ 0 0 0 0 0 0 0 false false ⟨none,0,0⟩ ⟨none,0,0⟩ 0) W ⟨a,0,none⟩ 0 λI=>uN I ⟨a,0,none⟩ λy0 y1 y2 y3 y4 y5 y6 y7 y8 y9 U Y Z=>K y0 y1 y2 y3 y4 y5 y6 y7 y8 y9 U Y Z e I:=by
  intro W e hW he;refine StN_f (r1.ext hW) λw2 r2 f2 z2=> ?_;refine QC r2 ?_;exact hK _ _ _ _ _ _ _ _ _ _ _ _ _ e w2 [] ((f1.trans hW).nw f2) iH.nil (by simp) (λh=>absurd h he)
 by_cases he:e=0;rotate_left
 ·have:(e !=0)=true:=by rw[amj];exact he
  rw[this,abt];exact zr w6 e u he
 subst he;rw[show ((0:Int) !=0)=false from rfl,aaf];have hT:∀W,Ext w1 W->iE (oI ⟨none,0,0⟩ 0 0 0 0 0 0 0 false false ⟨none,0,0⟩ ⟨none,0,0⟩ 0) W ⟨a,0,none⟩ 0 λJ=>uN J ⟨a,0,none⟩ λaa ab ac ae af ag ah ai aj ak am ao aq=>K aa ab ac ae af ag ah ai aj ak am ao aq 1 J:=λW hW=>zr W 1 hW (by omega);have hF:∀W,Ext w1 W->wZ s W λar au av aw ax ay az aA aB aC aD aE aF aG aH=>iE (oI ar au av aw ax ay az aA aB aC aD aE aF) aH ⟨a,0,none⟩ 0 λN=>uN N ⟨a,0,none⟩ λaI aJ aK aL aM aN aO aP aQ aR aS aT aU=>K aI aJ aK aL aM aN aO aP aQ aR aS aT aU aG N:=by
  intro W hW;refine aaT (hs.ext (f1.trans hW)) hl λt i o l' p s' d' df mf op da hd e w7 m f7 O hm hm8 _ _ _ s0 h0=> ?_;have R:=r1.ext (hW.trans f7);refine StN_f R λw8 r8 f8 z8=> ?_;refine QC r8 ?_;refine hK _ _ _ _ _ _ _ _ _ _ _ _ _ e w8 m (((f1.trans hW).trans f7).nw f8) (O.fr f8 λad ha h0 e=>jo R (by simp) O ha h0 e) hm λhe=> ?_;obtain⟨g1,g2,g3⟩:=h0 he;exact⟨g1,g2,g3,hm8 he⟩
 refine cmS0 (BX an w6) ?_;rintro r w7 ⟨_,hw⟩;subst hw
 cases r
 ·exact hT w7 u
 rw[adt,aaf];refine cmS0 (sQ n 2 w7) ?_;rintro r w8 ⟨_,hw⟩;subst hw
 cases r
 ·exact hT w8 u
 ·exact hF w8 u
theorem akd {s:gG} {l:List UInt8} (hs:iH w s l) (hl:l.length<=2^40) (an n:Int):TY s an n w λr _ w'=>(∃L:List UInt8,iH w' r L/\L.length<=2^40)/\Ext w w':=by
 apply aaE;refine adB hs hl an n λs0 t i o l' p s' d' df mf op da hd e w1 m f1 u hm h0=> ?_;refine gU λa w2 r2 e2 z2 f2=> ?_;refine StN_f r2 λw3 r3 f3 z3=> ?_;have h:Ext w1 w3:=f2.nw f3;by_cases he:e=0;rotate_left
 ·have:(e !=0)=true:=by rw[amj];exact he
  rw[this,abt];exact⟨⟨[],iH.nil,by simp⟩,f1.trans h⟩
 subst he;rw[show ((0:Int) !=0)=false from rfl,aaf];obtain⟨rfl,I,J,hm8⟩:=h0 rfl;refine QC r3 ?_;have x3:=f1.trans h;refine cmS2 (adk (hs.ext x3) hl (u.ext h) _ _ _ _ _ _ _ _ _ _ I hm8 J 16 2 an n (by omega) (by omega)) ?_;rintro r w4 ⟨hr,f4⟩;exact⟨hr,x3.trans f4⟩
theorem ag1 {s:gG} {l:List UInt8} (hs:iH w s l) (hl:l.length<=2^40) (an n:Int):Oi s an n w λr _ w'=>(∃L:List UInt8,iH w' r L/\L.length<=2^40)/\Ext w w':=by
 apply Xq;refine adB hs hl an n λs0 t i o l' p s' d' df mf op da hd e w1 m f1 u hm h0=> ?_;refine gU λa w2 r2 e2 z2 f2=> ?_;refine StN_f r2 λw3 r3 f3 z3=> ?_;have h:Ext w1 w3:=f2.nw f3;by_cases he:e=0;rotate_left
 ·have:(e !=0)=true:=by rw[amj];exact he
  rw[this,abt];exact⟨⟨[],iH.nil,by simp⟩,f1.trans h⟩
 subst he;rw[show ((0:Int) !=0)=false from rfl,aaf];obtain⟨rfl,I,J,hm8⟩:=h0 rfl;refine QC r3 ?_;have x3:=f1.trans h;refine cmS2 (adk (hs.ext x3) hl (u.ext h) _ _ _ _ _ _ _ _ _ _ I hm8 J 12 0 an n (by omega) (by omega)) ?_;rintro r w4 ⟨hr,f4⟩;exact⟨hr,x3.trans f4⟩
theorem acp (k c r:Int) {s:gG} {l:List UInt8} (hs:iH w s l) (hl:l.length<=2^40) (q:Bool) (an n:Int) {K:Int->Int->Int->gG->Int->b_}
  (hK:∀k c r s' e w' (L:List UInt8),Ext w w'->iH w' s' L->L.length<=2^40->K k c r s' e w'):Ad k c r s q an n w K:=by
 apply Qs;refine gU λa w1 r1 e1 z1 f1=> ?_;refine gU λb w2 r2 e2 z2 f2=> ?_;have R:=r1.ext f2;have x2:=f1.trans f2;have za:=f1.size;have zb:=f2.size;have fin:∀(o:gG) (e:Int) (W:θ) (L:List UInt8),Ext w2 W->iH W o L->L.length<=2^40->
   (bif (e !=0) then iE ano W ⟨b,0,none⟩ 0 λh=>Ld ν h (Addr.add ⟨b,0,none⟩ 0) λaa=>Ld ν h (Addr.add ⟨b,0,none⟩ 1) λab=>Ld ν h (Addr.add ⟨b,0,none⟩ 2) λac=>Ld .slice h (Addr.add ⟨b,0,none⟩ 3) λae=>K aa ab ac ae e h
    else St W (Addr.add ⟨a,0,none⟩ 3) (Δ o) λu=>Ld ν u (Addr.add ⟨a,0,none⟩ 0) λU=>Ld ν u (Addr.add ⟨a,0,none⟩ 1) λY=>Ld ν u (Addr.add ⟨a,0,none⟩ 2) λZ=>Ld .slice u (Addr.add ⟨a,0,none⟩ 3) λN=>iE [Β U,Β Y,Β Z,Δ N] u ⟨b,0,none⟩ 0 λI=>Ld ν I (Addr.add ⟨b,0,none⟩ 0) λaf=>Ld ν I (Addr.add ⟨b,0,none⟩ 1) λag=>Ld ν I (Addr.add ⟨b,0,none⟩ 2) λah=>Ld .slice I (Addr.add ⟨b,0,none⟩ 3) λai=>K af ag ah ai 0 I):=by
  intro o e W L hW ho hL
  cases (e !=0)
  rotate_left
  ·rw[abt];refine StN_f (r2.ext hW) λw3 r3 f3 z3=> ?_;refine Yx (x3:=⟨none,0,0⟩) (K:=λy0 y1 y2 y3 W=>K y0 y1 y2 y3 e W) r3 ?_;exact hK _ _ _ _ _ w3 [] ((x2.trans hW).nw f3) iH.nil (by simp)
  rw[aaf];have r1W:=R.ext hW;refine iC (i:=3) r1W rfl (by simp) λw3 r3 f3' z3=> ?_;have f3:ig W w3 (·=a):=f3' _ rfl;simp only[ahm,af5] at r3;have ho3:=ho.fr f3 λad ha h0 e=>jo r1W (by simp) ho ha h0 e;refine Yx (K:=λU Y Z N W=>_) r3 ?_;have r2W:=(r2.ext hW).fr f3 (by omega);refine StN_f r2W λw4 r4 f4 z4=> ?_;refine Yx (K:=λy0 y1 y2 y3 W=>K y0 y1 y2 y3 0 W) r4 ?_;exact hK _ _ _ _ _ w4 L (((x2.trans hW).nw f3).nw f4) (ho3.fr f4 λad ha h0 e=>jo r2W (by simp) ho3 ha h0 e) hL
 intro J;have hJ:∀v,(∀Q:Value->b_,(∀(o:gG) (e:Int) W (L:List UInt8),Ext w2 W->iH W o L->L.length<=2^40->Q (.tuple ⟨[Δ o,Β e]⟩) W)->jF υ [.one .slice,.one ν] v [Δ s,Β an,Β n] w2 Q)->J v:=by
  intro v hv;simp only[J];refine Ld_s 3 s R ?_;refine hv _ λo e W L hW ho hL=> ?_;exact⟨o,e,rfl,fin o e W L hW ho hL⟩
 clear_value J;have hs2:=hs.ext x2
 cases q
 ·refine hJ _ λQ hQ=> ?_;refine CN.kJ (by kernel_rfl) ?_;refine Calls.mono (akd hs2 hl an n) ?_;rintro e W' ⟨o,e',he,⟨L,hL,O⟩,hx⟩;exact⟨o,e',he,hQ o e' W' L hx hL O⟩
 ·refine hJ _ λQ hQ=> ?_;refine CN.kJ (by kernel_rfl) ?_;refine Calls.mono (ag1 hs2 hl an n) ?_;rintro e W' ⟨o,e',he,⟨L,hL,O⟩,hx⟩;exact⟨o,e',he,hQ o e' W' L hx hL O⟩
end
end Go.Proofs.AN
end
section
namespace Go.Proofs.EN
open Gp Gp.V4 Go.Proofs Go.Proofs.AN Go.Proofs.VN
open Gp.Bind (Bnd Slots live GoodB freeN getS In64)
open Gp.Ses (Ses)
variable {w w':θ} {a:EA} {c:Cf} {e:ES}
abbrev KV:=Int->Int->Int->Int->Int->Int->Int->Bool->Bool->gG->gG->b_
theorem Ti (p:kZ) {o d:gG} (ho:iH w o p.opts) (h1:p.opts.length<=2^40) (k1 k2 k3:Int) {s:gG} {m:List UInt8} (hs:iH w s m) (hm:m.length<=2^40) (q:Bool) (an n:Int) {K:KV}
  (hK:∀x0 x1 x2 x3 x4 x5 x6 x7 x8 x9 N w',Ext w w'->K x0 x1 x2 x3 x4 x5 x6 x7 x8 x9 N w'):
  Dp p.tos p.id p.off p.ttl p.proto p.src p.dst p.df p.mf o d k1 k2 k3 s q an n w K:=by
 apply ZH;refine gU λa w1 r1 e1 z1 f1=> ?_;refine gU λb w2 r2 e2 z2 f2=> ?_;refine gU λg w3 r3 e3 z3 f3=> ?_;have x3:=(f1.trans f2).trans f3;have za:=f1.size;have zb:=f2.size;have zc:=f3.size;have O:=(r1.ext f2).ext f3;have h:=r2.ext f3;refine Yx (K:=λx0 x1 x2 x3 W=>_) h ?_;refine acp k1 k2 k3 (hs.ext x3) hm q an n λu0 u1 u2 s' e' w4 L f4 hL hll=> ?_;refine StN_f (h.ext f4) λw5 r5 f5 z5=> ?_;have x5:=(x3.trans f4).nw f5;have hL5:=hL.fr f5 λad ha h0 e=>jo (h.ext f4) (by simp) hL ha h0 e;have I:=(O.ext f4).fr f5 (by omega);have R:=(r3.ext f4).fr f5 (by omega);refine iF I rfl ?_;refine cmS2 (oG (ho.ext x5) (by omega)) ?_;rintro oc w6 ⟨_,_,f6,_⟩;have J:=I.ext f6;refine iC J rfl (by simp) λw7 r7 f7' z7=> ?_;have f7:ig w6 w7 (·=a):=f7' _ rfl;have x7:=(x5.trans f6).nw f7;have U:=(r5.ext f6).fr f7 (by omega);have Y:=(R.ext f6).fr f7 (by omega);have hL7:=(hL5.ext f6).fr f7 λad ha h0 e=>jo J (by simp) (hL5.ext f6) ha h0 e;refine Yx (K:=λx0 x1 x2 x3 W=>_) U ?_;refine cmS5 (Yk ⟨u0,u1,u2,L⟩ hL7) ?_;rintro r e8 w8 ⟨_,_,f8,_,_⟩;have Z:=r7.ext f8;refine iC Z rfl (by simp) λw9 r9 f9' z9=> ?_;have f9:ig w8 w9 (·=a):=f9' _ rfl;simp only[ahm,af5] at r9;have x9:=(x7.trans f8).nw f9;refine lu r9 ?_;have aa:=(Y.ext f8).fr f9 (by omega);refine gZ aa rfl rfl λab ac u z10=> ?_;have f10:=u _ rfl;refine lu ac ?_;exact hK _ _ _ _ _ _ _ _ _ _ _ ab (x9.new f10 λy hy e=>by omega)
theorem ϲ (h:lS w a c e) (i:Int) (hi:In64 i) (p:kZ) {o d:gG} (ho:iH w o p.opts) (h1:p.opts.length<=2^40) (k1 k2 k3:Int) {s:gG} {m:List UInt8} (hs:iH w s m) (hm:m.length<=2^40)
  {K:Int->Int->Int->Int->Int->Int->Int->Bool->Bool->gG->gG->Int->b_}
  (hK:∀x0 x1 x2 x3 x4 x5 x6 x7 x8 x9 ae why w',Ext w w'->K x0 x1 x2 x3 x4 x5 x6 x7 x8 x9 ae why w'):
  qI (some ⟨a.x,0,none⟩) i p.tos p.id p.off p.ttl p.proto p.src p.dst p.df p.mf o d k1 k2 k3 s w K:=by
 apply EZ;refine gU λg1 w1 r1 e1 z1 f1=> ?_;refine gU λg2 w2 r2 e2 z2 f2=> ?_;refine gU λg3 w3 r3 e3 z3 f3=> ?_;have x3:=(f1.trans f2).trans f3;have za:=f1.size;have zb:=f2.size;have zc:=f3.size;have U:=(r1.ext f2).ext f3;have Y:=r2.ext f3;have fin:∀(W:θ) (why:Int),Ext w3 W->iE ξ W ⟨g3,0,none⟩ 0 λZ=>iG Z ⟨g3,0,none⟩ λy0 y1 y2 y3 y4 y5 y6 y7 y8 y9 aa=>K y0 y1 y2 y3 y4 y5 y6 y7 y8 y9 aa why Z:=by
  intro W why hW;refine gZ (r3.ext hW) rfl rfl λw4 r4 f4' z4=> ?_;have f4:=f4' _ rfl;refine lu r4 ?_;exact hK _ _ _ _ _ _ _ _ _ _ _ why w4 ((x3.trans hW).new f4 λy hy e=>by omega)
 refine iF Y rfl ?_;refine QB (hs.ext x3) hm λt i' o' l' p' s' dd df mf op da x y z ee w4 f4 is ix iy idd iz=> ?_;refine gU λb1 w5 r5 e5 z5 f5=> ?_;refine gU λb2 w6 r6 e6 z6 f6=> ?_;refine gZ (r5.ext f6) rfl rfl λw7 r7 f7' z7=> ?_;have f7:=f7' _ rfl;have zd:=f5.size;have ze:=f6.size;have zf:=f4.size;refine gZ (r6.fr f7 (by omega)) rfl rfl λw8 r8 f8' z8=> ?_;have f8:=f8' _ rfl;have x8:=((f4.trans (f5.trans f6)).new f7 λy hy e=>by omega).new f8 λy hy e=>by omega
 cases (ee !=0)
 rotate_left
 ·exact fin w8 1 x8
 rw[aaf];have xd:=x8.trans (Ext.drew w8);have hE8:=h.ext (x3.trans xd);refine jS.2 (iO (by rw[gY];exact hE8.c2) ?_);refine iF r8.drew rfl (iF (r7.fr f8 (by omega)).drew rfl (iF r8.drew rfl ?_));refine cmS3 (IU hE8.db i x dd z (by
  intro n hn;simp only[agI,ajr,alf] at hn;rcases hn with rfl|rfl|rfl|rfl
  ·exact hi
  ·exact ix
  ·exact idd
  ·exact iz)) ?_
 rintro n9 t9 w9 ⟨rfl,rfl,f9⟩;have x9:=xd.trans f9;generalize e.Mi (Bind.keyS [i,x,dd,z])=mo
 cases mo with
 |none=>
  rw[alH,afk,abt];exact fin w9 9 x9
 |some v=>
  rw[akt,adt,aaf];have hE9:=h.ext (x3.trans x9);refine jS.2 (iO (by rw[gY];exact hE9.c2) ?_);refine cmS14 (Dz hE9.db _) ?_;rintro a1 a2 a3 a4 a5 a6 a7 a8 r w10 ⟨_,_,f10⟩;refine gU λb3 w11 af e11 z11 f11=> ?_;refine gZ af rfl rfl λab I J z12=> ?_;have f12:=J _ rfl;have zg:=x9.size;have zh:=f10.size;have u:=((x9.trans f10).trans f11).new f12 λy hy e=>by omega
  have r112:=U.ext u;have r212:=Y.ext u;refine lu r112 ?_;refine Yx (K:=λx0 x1 x2 x3 W=>_) r212 ?_;have g5:ab.cell? (Addr.add (Addr.add ⟨b3,0,none⟩ 4) 1)=some (Β a6):=by rw[gY,gY,I.cell];rfl
  have g6:ab.cell? (Addr.add (Addr.add ⟨b3,0,none⟩ 4) 2)=some (Β a7):=by rw[gY,gY,I.cell];rfl
  refine iO (k:= .int .i64) g5 (iO g6 ?_);refine Ti p (ho.ext (x3.trans u)) h1 _ _ _ (hs.ext (x3.trans u)) hm false a6 a7 λy0 y1 y2 y3 y4 y5 y6 y7 y8 y9 aa w13 f13=> ?_;refine gZ (r112.ext f13) rfl rfl λag ah N z14=> ?_;have f14:=N _ rfl;have hb3:=I.lt;have hg1:=U.lt;have hb3':w3.heap.size<=b3:=by omega
  refine iO (by rw[gY,gY,((I.ext f13).fr f14 (by omega)).cell];rfl) ?_;refine iC ah rfl (by simp) λai ac O z15=> ?_;have f15:ig ag ai (·=g1):=O _ rfl;simp only[ahm,af5] at ac;refine lu ac ?_;have r315:=(((r3.ext u).ext f13).fr f14 (by omega)).fr f15 (by omega);refine gZ r315 rfl rfl λaj ak R z16=> ?_;have f16:=R _ rfl;refine lu ak ?_;exact hK _ _ _ _ _ _ _ _ _ _ _ 0 aj (((((x3.trans u).trans f13).new f14 λy hy e=>by omega).nw f15).new f16 λy hy e=>by omega)
end Go.Proofs.EN
end
section
namespace Go.Proofs.EN
open Gp Gp.V4 Go.Proofs Go.Proofs.AN Go.Proofs.VN
open Gp.Bind (Bnd Slots live GoodB freeN getS In64)
open Gp.Ses (Ses)
variable {w w':θ} {a:EA} {c:Cf} {e:ES}
theorem abZ (h:lS w a c e) (p:kZ) {o d:gG} (ho:iH w o p.opts) (h1:p.opts.length<=2^40) (k1 k2 k3:Int) {s:gG} {m:List UInt8} (hs:iH w s m) (hm:m.length<=2^40)
  {K:Int->Int->Int->Int->Int->Int->Int->Int->Bool->Bool->gG->gG->Int->b_}
  (hK:∀i x0 x1 x2 x3 x4 x5 x6 x7 x8 x9 ae why w',Ext w w'->K i x0 x1 x2 x3 x4 x5 x6 x7 x8 x9 ae why w'):
  rY (some ⟨a.x,0,none⟩) p.tos p.id p.off p.ttl p.proto p.src p.dst p.df p.mf o d k1 k2 k3 s w K:=by
 apply GK;refine gU λg1 w1 r1 e1 z1 f1=> ?_;refine gU λg2 w2 r2 e2 z2 f2=> ?_;refine gU λg3 w3 r3 e3 z3 f3=> ?_;have x3:=(f1.trans f2).trans f3;have za:=f1.size;have zb:=f2.size;have zc:=f3.size;have U:=(r1.ext f2).ext f3;have Y:=r2.ext f3;have fin:∀(W:θ) (why:Int),Ext w3 W->iE ξ W ⟨g3,0,none⟩ 0 λZ=>iG Z ⟨g3,0,none⟩ λy0 y1 y2 y3 y4 y5 y6 y7 y8 y9 aa=>K 0 y0 y1 y2 y3 y4 y5 y6 y7 y8 y9 aa why Z:=by
  intro W why hW;refine gZ (r3.ext hW) rfl rfl λw4 r4 f4' z4=> ?_;have f4:=f4' _ rfl;refine lu r4 ?_;exact hK _ _ _ _ _ _ _ _ _ _ _ _ why w4 ((x3.trans hW).new f4 λy hy e=>by omega)
 refine iF Y rfl ?_;refine QB (hs.ext x3) hm λt i' o' l' p' s' dd df mf op da x y z ee w4 f4 is ix iy idd iz=> ?_;refine gU λb1 w5 r5 e5 z5 f5=> ?_;refine gU λb2 w6 r6 e6 z6 f6=> ?_;refine gZ (r5.ext f6) rfl rfl λw7 r7 f7' z7=> ?_;have f7:=f7' _ rfl;have zd:=f5.size;have ze:=f6.size;have zf:=f4.size;refine gZ (r6.fr f7 (by omega)) rfl rfl λw8 r8 f8' z8=> ?_;have f8:=f8' _ rfl;have x8:=((f4.trans (f5.trans f6)).new f7 λy hy e=>by omega).new f8 λy hy e=>by omega
 cases (ee !=0)
 rotate_left
 ·exact fin w8 1 x8
 rw[aaf];have xd:=x8.trans (Ext.drew w8);have hE8:=h.ext (x3.trans xd);refine jS.2 (iO (by rw[gY];exact hE8.c2) ?_);refine iF r8.drew rfl (iF (r7.fr f8 (by omega)).drew rfl (iF r8.drew rfl ?_));refine cmS3 (Ou hE8.db x s' y (by
  intro n hn;simp only[agI,ajr,alf] at hn;rcases hn with rfl|rfl|rfl
  ·exact ix
  ·exact is
  ·exact iy)) ?_
 rintro n9 t9 w9 ⟨rfl,rfl,f9⟩;have x9:=xd.trans f9;generalize e.Mo (Bind.keyS [x,s',y])=mo
 cases mo with
 |none=>
  rw[alH,afk,abt];exact fin w9 9 x9
 |some v=>
  rw[akt,adt,aaf];have hE9:=h.ext (x3.trans x9);refine jS.2 (iO (by rw[gY];exact hE9.c2) ?_);refine cmS14 (Dz hE9.db _) ?_;rintro a1 a2 a3 a4 a5 a6 a7 a8 r w10 ⟨_,_,f10⟩;refine gU λb3 w11 af e11 z11 f11=> ?_;refine gZ af rfl rfl λab I J z12=> ?_;have f12:=J _ rfl;have zg:=x9.size;have zh:=f10.size;have u:=((x9.trans f10).trans f11).new f12 λy hy e=>by omega
  have r112:=U.ext u;have r212:=Y.ext u;refine lu r112 ?_;refine Yx (K:=λx0 x1 x2 x3 W=>_) r212 ?_;have g5:ab.cell? (Addr.add ⟨b3,0,none⟩ 2)=some (Β a3):=by rw[gY,I.cell];rfl
  have g6:ab.cell? (Addr.add ⟨b3,0,none⟩ 3)=some (Β a4):=by rw[gY,I.cell];rfl
  refine iO (k:= .int .i64) g5 (iO (k:= .int .i64) g6 ?_);refine Ti p (ho.ext (x3.trans u)) h1 _ _ _ (hs.ext (x3.trans u)) hm true a3 a4 λy0 y1 y2 y3 y4 y5 y6 y7 y8 y9 aa w13 f13=> ?_;refine gZ (r112.ext f13) rfl rfl λag ah N z14=> ?_;have f14:=N _ rfl;have hb3:=I.lt;have hg1:=U.lt;have hb3':w3.heap.size<=b3:=by omega
  refine iO (by rw[gY,((I.ext f13).fr f14 (by omega)).cell];rfl) ?_;refine iC ah rfl (by simp) λai ac O z15=> ?_;have f15:ig ag ai (·=g1):=O _ rfl;simp only[ahm,af5] at ac;have r12f:=((I.ext f13).fr f14 (by omega)).fr f15 (by omega);refine iF r12f.drew rfl ?_;refine lu ac.drew ?_;have r315:=((((r3.ext u).ext f13).fr f14 (by omega)).fr f15 (by omega)).drew;refine gZ r315 rfl rfl λaj ak R z16=> ?_;have f16:=R _ rfl;refine lu ak ?_;exact hK _ _ _ _ _ _ _ _ _ _ _ _ 0 aj (((((x3.trans u).trans f13).new f14 λy hy e=>by omega).nw f15).trans (Ext.drew _)|>.new f16 λy hy e=>by omega)
end Go.Proofs.EN
end
section
namespace Go.Proofs
open Gp Gp.Bind
theorem X3 (most:Nat) (S:Slots) (hs:S.length=most) (A:Rn) (f0:Nat):
  Sv υ [.one ν,.agg [ν,ν,ν,ν,ν,ν,ν,.bool]] (Value.func (.func He) #[] #[(Value.pointer (some ⟨f0,0,none⟩))])
   (λi W=>Row W f0 [.pointer (some ⟨A.d,0,none⟩)]/\∃S' Mi Mo,DB W A most S' Mi Mo/\∀j o,S[j]? =some o->i<=(live 0 (S.take j)).length->S'[j]? =some o) (yD (live 0 S)):=by
 refine⟨by kernel_rfl,λn Q D hC hQ hD hy w h0=> ?_⟩;refine Calls.mono (Qk (a0:= .func (.yield n) #[] #[]) (f0:=⟨f0,0,none⟩) (K:=λw'=>Q (yD (live 0 S)).length w'\/D w') ?_) (λe w' h=>h);obtain⟨r0,_,_,_,h,_⟩:=hC _ _ h0;have hl:=h.len;have hm:=h.mx;simp only[sx,r0.cell];refine cmS0 (A_ h) ?_;rintro _ w2 ⟨rfl,hw⟩;subst hw;simp only[sx,adt,r0.cell,h.hd.cell];have J:(yD (live 0 S)).length=(live 0 S).length:=by simp[yD]
 rw[J];refine g_ (λst W=>∃i:Nat,i<=most/\st.1=(i:Int)/\Q (live 0 (S.take i)).length W) (λst _=>most - st.1.toNat) ⟨0,by omega,rfl,by simpa [live] using h0⟩ ?_;rintro⟨x,⟨⟩⟩ W ⟨i,hi,rfl,hq⟩ next I
 obtain⟨r0,_,_,_,h,hk⟩:=hC _ _ hq;by_cases hlt:i<most
 ·have u:((i:Int)<(most:Int)):=by omega
  have hS:S[i]? =some S[i]:=adP (by omega);generalize S[i]=o at hS;have c:∀j,j<9->_:=h.slot (hk _ _ hS (ajq _));have c0:=c 0 (by omega);have c1:=c 1 (by omega);have c2:=c 2 (by omega);have c3:=c 3 (by omega);have c4:=c 4 (by omega);have c5:=c 5 (by omega);have c6:=c 6 (by omega);have c7:=c 7 (by omega);have c8:=c 8 (by omega);simp only[akC] at c0
  cases o with
  |none=>
   simp only[u,acI,abt,d_,gJ,gK,jr,abu,c0,c1,c2,c3,c4,c5,c6,c7,c8,iV];refine⟨by omega,by trivial,D5 rfl rfl λp w3 r3 e3 z3 f3=> ?_⟩;simp only[sx,r3.cell];rw[Α];refine I _ _ ⟨i+1,by omega,by simp,?_⟩ (by simp only;omega);rw[Qe hS];exact hQ _ _ _ hq f3
  |some b=>
   simp only[u,acI,abt,d_,gJ,gK,jr,abu,c0,c1,c2,c3,c4,c5,c6,c7,c8,iV];refine⟨by omega,by trivial,D5 rfl rfl λp w3 r3 e3 z3 f3=> ?_⟩;simp only[sx,r3.cell];obtain⟨g1,g2⟩:=Zk hS;refine kP (hy (live 0 (S.take i)).length ((i:Int),(b.sw,b.pr,b.ad,b.po,b.opr,b.oad,b.opo,b.st,()),()) w3 _ ?_ (hQ _ _ _ hq f3) ?_ ?_)
   ·simp only[yD,aiK,g1,ahF]
   ·intro W' hq';refine⟨true,rfl,?_⟩;simp only[adt,aaf];rw[Α];exact I _ _ ⟨i+1,by omega,by simp,by rw[g2];exact hq'⟩ (by simp only;omega)
   ·intro W' hd;refine⟨false,rfl,?_⟩;simp only[afk,abt];exact .inr hd
 ·have u:¬((i:Int)<(most:Int)):=by omega
  simp only[u,acR,aaf];rw[ali (by omega)] at hq;exact .inl hq
end Go.Proofs
namespace Go.Proofs.EN
open Gp Go.Proofs
open Gp.Bind (Bnd Slots live GoodB freeN getS In64)
open Gp.Ses (Ses)
variable {w w':θ} {a:EA} {c:Cf} {e:ES}
theorem ada (d:Nat) (w:θ) {K:Value->b_} (h:∀f w',Row w' f [.pointer (some ⟨d,0,none⟩)]->f=w.heap.size->w'.heap.size=f+1->Ext w w'->K (Value.func (.func He) #[] #[(Value.pointer (some ⟨f,0,none⟩))]) w'):yU (some ⟨d,0,none⟩) w K:=by
 apply U0;exact⟨rfl,gU λf w1 r1 e1 z1 f1=>h f w1 r1 e1 z1 f1⟩
theorem take_succ {α:Type} {l:List α} {i:Nat} {x:α} (h:l[i]? =some x):l.take (i+1)=l.take i++[x]:=by
 obtain⟨hi,hx⟩:=afg.1 h;rw[akx hi,hx]
def Zy (S:Slots) (k:Int):List (Int×Bnd):=(live 0 S).filter λx=>x.2.sw==k
theorem X8 {α:Type} {p:α->Bool}:∀{l:List α} {i:Nat} {x:α},l[i]? =some x->p x=true->(l.filter p)[((l.take i).filter p).length]? =some x
 |[],_,_,h,_=>by simp at h
 |y::l,0,x,h,hp=>by simp at h;subst h;simp[hp]
 |y::l,i+1,x,h,hp=>by
  have:=X8 (l:=l) (i:=i) (by simpa using h) hp;rw[anb];by_cases hy:p y=true
  ·simp only[am3,hy,ajn,ajg,afh];exact this
  ·simp only[am3,hy];exact this
theorem ϵ {α:Type} (p:α->Bool) (l:List α) (i:Nat):(l.filter p).take ((l.take i).filter p).length=(l.take i).filter p:=by
 conv=>lhs;rw[<- aks i l]
 rw[amu,List.take_left' (by rw[aks])]
def Rest (S S':Slots) (L:List (Int×Bnd)) (i:Nat):Prop:=∀(j:Nat) (o:Option Bnd),S[j]? =some o->(∀b,o=some b->((j:Int),b)∉L.take i)->S'[j]? =some o
theorem aam {S:Slots} {i j:Nat} {b:Bnd} (hj:j<S.length) (hi:i<=(live 0 (S.take j)).length):((j:Int),b)∉(live 0 S).take i:=by
 have e:live 0 S=live 0 (S.take j)++live j (S.drop j):=by
  conv=>lhs;rw[<- aks j S]
  rw[mG,ajH,amb (by omega),ahn]
 rw[e,List.take_append_of_le_length hi];intro hm;obtain⟨q,hq,he⟩:=Gp.Bind.kY.1 (amZ hm);have:=(afg.1 hq).1;rw[ajH] at this;omega
theorem aei (c:Cf) (e:ES) (a:EA) (O:e.S.length=c.nb.toNat) (f0 f1:Nat) (k:Int):
  Sr υ [.one ν,.agg [ν,ν,ν,ν,ν,ν,ν,.bool]] (Value.func (.func Cm) #[] #[(Value.pointer (some ⟨f0,0,none⟩)),(Value.pointer (some ⟨f1,0,none⟩))])
   (λi W=>Row W f0 [.pointer (some ⟨a.x,0,none⟩)]/\Row W f1 [Β k]/\∃a' e',lS W a' c e'/\(a'.x=a.x/\a'.B=a.B)/\Rest e.S e'.S (Zy e.S k) i) (yD (Zy e.S k)):=by
 refine⟨by kernel_rfl,λn w Q D hC hQ hD hy h0=> ?_⟩;refine Calls.mono (Lu (a0:= .func (.yield n) #[] #[]) (f0:=⟨f0,0,none⟩) (f1:=⟨f1,0,none⟩) (K:=λw'=>(∃N,Q N (yD (Zy e.S k)).length w')\/D w') ?_) (λe w' h=>h);refine⟨rfl,?_⟩;refine gU λt w2 r2 e2 z2 f2=> ?_;obtain⟨g0,g1,a0,e0,hE,⟨hx,hB⟩,_⟩:=hC _ _ _ (h0 w2 f2);have c2:=hE.c2;rw[hx,hB] at c2;simp only[sx,g0.cell,c2];refine ada a.B.d w2 λf w5 r5 e5 z5 f5=> ?_;have hla:lM none w5=w5.heap.size+1:=rfl;have t5:=r2.ext f5;have I:∀l,(yD l).length=l.length:=λl=>by simp[yD]
 rw[I];generalize hN:w5.heap.size+2=N;have up:∀{i W W'},Q N i W->Ext W W'->Q N i W':=λhq hx=>hQ _ _ _ _ hq (hx _);refine vU (Go.Proofs.X3 c.nb.toNat e.S O a.B f) (λi X=>Q N (((live 0 e.S).take i).filter λx=>x.2.sw==k).length X/\(Row X f [.pointer (some ⟨a.B.d,0,none⟩)]/\Row X t [.func (.yield n) #[] #[]])/\N<=X.heap.size)
  (λx X=>x= .ret/\D X) (by simp) ?_ ?_ ?_ ?_ (λx W h=> .inl h.1) ?_ ?_ ?_ (by intro id W h;exact absurd h.1 (by simp))
 ·intro X hX hz;have h0:=h0 X ((f2.trans f5).trans hX);rw[show X.heap.size=N by omega] at h0;exact⟨by simpa using h0,⟨r5.ext hX,t5.ext hX⟩,by omega⟩
 ·rintro i X ⟨hq,⟨hf,_⟩,_⟩;obtain⟨_,_,a1,e1,hE,⟨_,hB⟩,hR⟩:=hC _ _ _ hq;refine⟨hf,e1.S,e1.Mi,e1.Mo,hB ▸ hE.db,λj o hj hi=>hR j o hj ?_⟩;rintro b rfl;rw[show (Zy e.S k).take _=_ from ϵ _ _ _];exact λhm=>aam (afg.1 hj).1 hi (al1.1 hm).1
 ·rintro i X X' ⟨hq,⟨hf,ht⟩,hz⟩ hx;exact⟨hQ _ _ _ _ hq (hx.mono λb hb=>⟨by omega,by omega⟩),⟨hf.fr hx (by omega),ht.fr hx (by omega)⟩,by have:=hx.size;omega⟩
 ·rintro x X X' ⟨hx,hd⟩ hf;exact⟨hx,hD _ _ hd (hf.mono λb hb=>by omega)⟩
 ·rintro i x X Kb hx ⟨hq,⟨hf,ht⟩,hz⟩ R hk hk2;rw[show yD (live 0 e.S)=(live 0 e.S).map _ from rfl,aiK] at hx
  cases hb:(live 0 e.S)[i]? with
  |none=>rw[hb] at hx;simp at hx
  |some p=>
  rw[hb] at hx;simp only[ahF,aho] at hx;subst hx;refine gU λu w6 r6 e6 z6 f6=> ?_;refine gZ r6 rfl rfl λw7 r7 f7' z7=> ?_;have x7:Ext X w7:=f6.new (f7' (·=u) rfl) λy hy e=>by omega
  refine⟨(x7 λ_=>False).same _ R (by simp),?_⟩;have fb:=ig.gQ w7 (lM none w5);have hX7:=x7.size;have zb:(gQ w7 (lM none w5)).heap.size=w7.heap.size:=by simp[gQ]
  have q8:Q N _ (gQ w7 (lM none w5)):=hQ _ _ _ _ (up hq x7) (fb.mono λb hb=>⟨by omega,by omega⟩);have u8:=r7.fr fb (by omega);have t8:=(ht.ext x7).fr fb (by omega);have k8:=(hf.ext x7).fr fb (by omega);obtain⟨_,g1,_⟩:=hC _ _ _ q8;have base:∀S,ig (gQ X (lM none w5)) (gQ w7 (lM none w5)) S:=λS=>CN.Dh (x7 _) _;simp only[sx,u8.cell,g1.cell];have J:=take_succ hb;by_cases hs:(p.2.sw==k)=true
  ·rw[hs,abt];have hf1:((live 0 e.S).take (i+1)).filter (λx=>x.2.sw==k)=((live 0 e.S).take i).filter (λx=>x.2.sw==k)++[p]:=by
    rw[J,amu,am3,hs];rfl
   simp only[sx,t8.cell];refine kP (hy N _ (p.1,(p.2.sw,p.2.pr,p.2.ad,p.2.po,p.2.opr,p.2.oad,p.2.opo,p.2.st,()),()) _ _ ?_ q8 (by omega) (by omega) ?_ ?_)
   ·rw[show yD (Zy e.S k)=(Zy e.S k).map _ from rfl,aiK,show (Zy e.S k)[_]? =_ from X8 hb hs];rfl
   ·intro W' S hq' hf' hS;refine⟨true,rfl,?_⟩;simp only[adt,aaf];refine hk W' S ((base S).trans hf' λy _ hy=>hy) (λb h1 h2=>hS b (by omega) (by omega)) ⟨?_,⟨k8.fr hf' (hS _ (by omega) (by omega)),t8.fr hf' (hS _ (by omega) (by omega))⟩,by have:=hf'.size;omega⟩;rw[hf1,ahP];exact hq'
   ·intro W' S hd hf' hS;refine⟨false,rfl,?_⟩;simp only[afk,abt];exact hk2 _ W' S ((base S).trans hf' λy _ hy=>hy) (λb h1 h2=>hS b (by omega) (by omega)) ⟨rfl,hd⟩
  ·rw[Bool.not_eq_true] at hs;rw[hs,aaf];have hf1:((live 0 e.S).take (i+1)).filter (λx=>x.2.sw==k)=((live 0 e.S).take i).filter (λx=>x.2.sw==k):=by
    rw[J,amu,am3,hs];simp
   exact hk _ (λ_=>False) (base _) (λb h1 h2 h3=>h3) ⟨by rw[hf1];exact q8,⟨k8,t8⟩,by omega⟩
 ·rintro W ⟨hq,_,hz⟩ hm;rw[I,alo] at hq;exact⟨hm rfl,.inl ⟨N,hQ _ _ _ _ hq ((ig.nG W _ _).mono λb hb=>⟨by omega,by omega⟩)⟩⟩
 ·rintro W ⟨_,hd⟩ hm;exact⟨hm rfl,.inr (hD _ _ hd ((ig.nG W _ _).mono λb hb=>by omega))⟩
theorem ajG (w:θ) (x:Nat) (k:Int):yx (some ⟨x,0,none⟩) k w λv w'=>Ext w w'/\∃f0 f1,v=Value.func (.func Cm) #[] #[(Value.pointer (some ⟨f0,0,none⟩)),(Value.pointer (some ⟨f1,0,none⟩))]/\Row w' f0 [.pointer (some ⟨x,0,none⟩)]/\Row w' f1 [Β k]/\w.heap.size<=f0/\w.heap.size<=f1:=by
 apply O5;refine⟨rfl,?_⟩;refine gU λf0 w1 r1 e1 z1 g1=>⟨rfl,?_⟩;refine gU λf1 w2 r2 e2 z2 g2=> ?_;exact⟨g1.trans g2,f0,f1,rfl,r1.ext g2,r2,by omega,by omega⟩
end Go.Proofs.EN
end
section
namespace Go.Proofs.EN
open Gp Go.Proofs
open Gp.Bind (Bnd Slots live GoodB freeN getS In64)
open Gp.Ses (Ses)
variable {w w':θ} {a:EA} {c:Cf} {e:ES}
def Un (c:Cf) (e:ES):Prop:=∀(k:Nat) (s:Ses) (j:Nat) (b:Bnd),e.SS[k]? =some (some s)->s.bd=(j:Int)->e.S[j]? =some (some b)->b.pr=17->s.un<=(e.now:Int)+ci c 30
structure Nx (c:Cf) (w w':θ) (a a':EA) (e e':ES):Prop where
 fr:ig w w' (iW a)
 eng:lS w' a' c e'
 gd:Gd c e'
 gr:Grow a a' w.heap.size
 x:a'.x=a.x
 un:Un c e->Un c e'
 tn:e'.tn<=e.tn+1
theorem Nx.ext (h:lS w a c e) (hg:Gd c e) (hx:Ext w w'):Nx c w w' a a e e:=⟨hx _,h.ext hx,hg,Grow.refl a _,rfl,λh=>h,by omega⟩
theorem Gd.gone (hg:Gd c e) {SS M l F L} (h:Gone e SS l L):Gd c {e with SS:=SS,M:=M,l:=l,F:=F}:=by
 refine⟨⟨hg.inv.ql,hg.inv.cn,hg.inv.gv,hg.inv.mp⟩,λk s hs=>hg.sb k s ((h.ss k s).1 hs).1,λid t ht=> ?_,λk s hs=> ?_,?_,hg.wn,hg.le⟩
 ·obtain⟨h1,h2⟩:=(h.ts id t).1 ht;obtain⟨k,s,rfl,g2,g3⟩:=hg.ts id t h1;exact⟨k,s,rfl,(h.ss k s).2 ⟨g2,h2⟩,g3⟩
 ·obtain⟨h1,h2⟩:=(h.ss k s).1 hs;obtain⟨t,ht⟩:=hg.st k s h1;exact⟨t,(h.ts _ t).2 ⟨ht,h2⟩⟩
 ·have:=h.n1;have:=h.n2;have:=hg.lc
  grind
theorem Gd.tim (hg:Gd c e) (id:Int):∀x∈SN.zH e.SS id,∃t,mg e.l x.1=some t:=λx hx=>by
 obtain⟨j,q1,q2,_⟩:=UU hx;rw[q1];exact hg.st j x.2 q2
theorem Gd.rel (hg:Gd c e) {i:Nat} {Mi Mo Q G SS M l F} (hi:Inv c {e with S:=e.S.set i none,Mi:=Mi,Mo:=Mo,Q:=Q,G:=G,SS:=SS,M:=M,l:=l,F:=F}) (h:Gone e SS l ((SN.zH e.SS (i:Int)).map (·.1))):
  Gd c {e with S:=e.S.set i none,Mi:=Mi,Mo:=Mo,Q:=Q,G:=G,SS:=SS,M:=M,l:=l,F:=F}:=by
 have g:=hg.gone (M:=M) (F:=F) h;refine⟨hi,λk s hs=> ?_,g.ts,g.st,g.lc,g.wn,g.le⟩;obtain⟨j,b,q1,q2⟩:=g.sb k s hs;obtain⟨h1,h2⟩:=(h.ss k s).1 hs;refine⟨j,b,q1,?_⟩;show (e.S.set i none)[j]? =_;rw[akQ,acZ]
 ·exact q2
 rintro rfl;exact h2 (alp.2 ⟨((k:Int),s),al1.2 ⟨Gp.Ses.kY.2 ⟨k,h1,by omega⟩,by simp_all⟩,rfl⟩)
theorem aa3 {S:Slots} {i j:Nat} {b:Bnd} (h:(S.set i none)[j]? =some (some b)):S[j]? =some (some b):=by
 grind
theorem afw (h:lS w a c e) (hg:Gd c e) {id:Int} {K:b_} (hK:∀w' a' e',Nx c w w' a a' e e'->e'.S=e.S/\e'.tn=e.tn->a'.B=a.B->K w'):
  nJ (some ⟨a.x,0,none⟩) id w K:=
 Ϝ h (hg.tim id) λw' a' SS M l F f hE hG u hx _=>hK w' a' _ ⟨f,hE,hg.gone hG,u,hx.1,λhu k s j b h1=>hu k s j b ((hG.ss k s).1 h1).1,by show e.tn<=_;omega⟩ ⟨rfl,rfl⟩ hx.2
theorem VO (h:lS w a c e) (hg:Gd c e) {i:Nat} {b:Bnd} (hb:e.S[i]? =some (some b)) {K:b_} (hK:∀w' a' e',Nx c w w' a a' e e'->e'.S=e.S.set i none/\e'.tn=e.tn->a'.B=a.B->K w'):
  kQ (some ⟨a.x,0,none⟩) (i:Int) w K:=
 VP h hg.inv (hg.tim _) hb λw' a' Mi Mo Q G SS M l F f hE hI hG u hx _=>hK w' a' _ ⟨f,hE,hg.rel hI hG,u,hx.1,λhu k s j b h1 h2 h3=>hu k s j b ((hG.ss k s).1 h1).1 h2 (aa3 h3),by show e.tn<=_;omega⟩ ⟨rfl,rfl⟩ hx.2
theorem ahj (h:lS w a c e) (hg:Gd c e) (sw pr ad po:Int) (h4:∀n∈[sw,pr,ad,po],In64 n) {K:Int->b_} (hK:∀r w' a' e',Nx c w w' a a' e e'->K r w'):
  uX (some ⟨a.x,0,none⟩) sw pr ad po w K:=by
 apply Jm;refine gU λt w1 r1 e1 z1 f1=> ?_;have h1:=h.ext f1;refine cmS0 (uG h1) ?_;rintro r w1 ⟨rfl,hw⟩;subst hw;have h1d:=h1.ext (Ext.drew w1);simp -zeta only[adt,aaf,sx,h1d.c2,r1.drew.cell];refine cmS3 (IU h1d.db sw pr ad po h4) ?_;rintro n t1 w2 ⟨rfl,rfl,f2⟩;have h2:=h1d.ext f2;have x2:=(f1.trans (Ext.drew w1)).trans f2;simp -zeta only[sx,h2.c2];refine cmS14 (Dz h2.db _) ?_;rintro a1 a2 a3 a4 a5 a6 a7 a8 r w3 ⟨_,hr,f3⟩;refine gU λu w4 r4 e4 z4 f4=> ?_;refine gZ r4 (by rfl) (by rfl) λw5 r5 f5 z5=> ?_;have x5:=((x2.trans f3).trans f4).new (f5 (·=u) rfl) λy hy he=>by have:=(x2.trans f3).size;omega
 have h5:=h.ext x5;intro J;have I:J true:=by
  simp only[J,abt];exact hK 8 w5 a e (Nx.ext h hg x5)
 have N:(∃(i:Nat) (b:Bnd),(e.Mi (Bind.keyS [sw,pr,ad,po])).getD 0=(i:Int)/\e.S[i]? =some (some b))->J false:=by
  rintro⟨i,b,hi,hb⟩;simp only[J,aaf];rw[hi];refine VO h5 hg hb λw6 a' e' hn _ _=>hK 0 w6 a' e' ⟨(x5 _).trans hn.fr λ_ _ q=>q,hn.eng,hn.gd,λb hb=>(hn.gr b hb).imp (λh=>h) λh=>by have:=x5.size;omega,hn.x,hn.un,hn.tn⟩
 clear_value J
 cases hm:e.Mi (Bind.keyS [sw,pr,ad,po]) with
 |none=>
  simp only[alH,afk,abt];exact I
 |some v=>
  rw[hm] at N;obtain⟨i,b,hi,hb,_⟩:=agz h h4 hm;simp only[akt,adt,aaf,sx,r5.cell]
  cases a8
  ·exact I
  ·exact N ⟨i,b,hi,hb⟩
theorem ajZ (h:lS w a c e) (hg:Gd c e) (b:Bnd) (I:b.st=true) {K:Int->b_} (hK:∀r w' a' e',Nx c w w' a a' e e'->K r w'):
  oQ (some ⟨a.x,0,none⟩) b.sw b.pr b.ad b.po b.opr b.oad b.opo w K:=by
 refine cmS1 (map_ok h hg.inv b I) ?_;rintro r w' ⟨_,⟨_,hx⟩|⟨_,hm,f,A,i,Mi,Mo,Q,G,J,hA,hE,hI⟩⟩
 ·exact hK r w' a e (Nx.ext h hg hx)
 have hin:=(Gp.Bind.jE 0 J).2.1;have u:∀(j:Nat) (x:Bnd),e.S[j]? =some (some x)->(e.S.set i (some b))[j]? =some (some x):=λj x hx=>by
  rw[akQ,acZ]
  ·exact hx
  grind
 refine hK r w' _ _ ⟨f,hE,⟨hI,λk s hs=> ?_,hg.ts,hg.st,hg.lc,hg.wn,hg.le⟩,Yq hA,rfl,λhu k s j x h1 h2 h3=> ?_,by show e.tn<=_;omega⟩
 ·obtain⟨j,x,q1,q2⟩:=hg.sb k s hs
  grind
 ·obtain⟨j',x',q1,q2⟩:=hg.sb k s h1;have:j'=j:=by omega
  subst this;have h3:(e.S.set i (some b))[j']? =some (some x):=h3;rw[u j' x' q2] at h3;have:=akR (akR h3);subst this;exact hu k s j' x' h1 h2 q2
theorem aj8 {S:Slots} {k:Int} {x:Int×Bnd} (hx:x∈Zy S k):∃j:Nat,x.1=(j:Int)/\S[j]? =some (some x.2):=by
 obtain⟨v,b⟩:=x;obtain⟨j,hj,hv⟩:=Gp.Bind.kY.1 (al1.1 hx).1
 grind
theorem Zl:∀(S:Slots) (k:Nat),(live k S).Nodup
 |[],_=>by simp[live]
 |none::r,k=>by rw[live];exact Zl r (k+1)
 |some b::r,k=>by
  rw[live,amm];refine⟨λh=> ?_,Zl r (k+1)⟩;obtain⟨i,_,hv⟩:=Gp.Bind.kY.1 h;omega
theorem aj9 {S:Slots} {k:Int} {i:Nat} {x:Int×Bnd} (hi:(Zy S k)[i]? =some x):x∉(Zy S k).take i:=by
 intro hm;have hn:(Zy S k).Nodup:=(Zl S 0).filter _;rw[<- aks i (Zy S k),amy] at hn;exact hn.2.2 x hm x (by rw[List.mem_iff_getElem?];exact⟨0,by simp_all⟩) rfl
theorem aga (h:lS w a c e) (hg:Gd c e) (k:Int) {K:Int->b_} (hK:∀r w' a' e',Nx c w w' a a' e e'->K r w'):
  uV (some ⟨a.x,0,none⟩) k w K:=by
 apply Jl;refine⟨rfl,?_⟩;refine gU λp w1 r1 e1 z1 f1=> ?_;have h1:=h.ext f1;simp only[sx,r1.cell];refine cmS0 (uG h1) ?_;rintro r w1 ⟨rfl,hw⟩;subst hw;simp only[adt,aaf];refine gU λq w2 r2 e2 z2 f2=> ?_;refine iC r2 rfl (by simp) λw3 r3 f3' z3=> ?_;have f3:=f3' _ rfl;simp only[af5] at r3;have x3:=(f1.trans f2).new f3 λy hy e=>by omega
 have p3:=(r1.ext f2).fr f3 (by omega);simp only[sx,p3.cell];refine cmS4 (ajG w3 a.x k) ?_;rintro v w4 ⟨f4,g0,g1,rfl,t0,t1,s0,s1⟩;have h4:=h.ext (x3.trans f4);have p4:=p3.ext f4;have q4:=r3.ext f4;have x4:=x3.trans f4;have z4:=f4.size;have lp:=q4.lt;have l0:=t0.lt;have l1:=t1.lt;have hol:∀b,iW a b->b<w.heap.size:=λb ⟨k,hk⟩=>h.lt k b hk;have hyl:(yD (Zy e.S k)).length=(Zy e.S k).length:=by simp[yD]
 refine QG (aei c e a h.db.len g0 g1 k) (λN i W=>w4.heap.size+1<N/\(Row W p [.pointer (some ⟨a.x,0,none⟩)]/\Row W g0 [.pointer (some ⟨a.x,0,none⟩)]/\Row W g1 [Β k])/\(∃z:Int,Row W q [Β z])/\
  ∃a' e',ig w4 W (λb=>iW a b\/b=q)/\lS W a' c e'/\Gd c e'/\(∀b,iW a' b->iW a b\/N<=b)/\(a'.x=a.x/\a'.B=a.B)/\(Un c e->Un c e')/\e'.tn=e.tn/\Rest e.S e'.S (Zy e.S k) i) ?_ ?_ ?_ ?_ ?_
 ·intro W hx hs;exact⟨by omega,⟨p4.ext hx,t0.ext hx,t1.ext hx⟩,⟨0,q4.ext hx⟩,a,e,hx _,h4.ext hx,hg,λb hb=> .inl hb,⟨rfl,rfl⟩,λh=>h,rfl,λj o hj _=>hj⟩
 ·grind
 ·rintro N i W W' ⟨hN,⟨k0,k1,k2⟩,⟨z,kz⟩,a1,e1,kf,kE,kG,kg,kr⟩ hf;refine⟨hN,⟨k0.fr hf (by omega),k1.fr hf (by omega),k2.fr hf (by omega)⟩,⟨z,kz.fr hf (by omega)⟩,a1,e1,kf.trans hf λb hb e=>by omega,kE.fr hf λk b hb e=> ?_,kG,kg,kr⟩;rcases kg b ⟨k,hb⟩ with hh|hh
  ·grind
  ·omega
 ·rintro N i x W Kb hx ⟨hN,⟨k0,k1,k2⟩,⟨z,kz⟩,a1,e1,kf,kE,kG,kg,kx,kp,kt,kR⟩ _ hNW hk;rw[show yD (Zy e.S k)=(Zy e.S k).map _ from rfl,aiK] at hx
  cases hb:(Zy e.S k)[i]? with
  |none=>rw[hb] at hx;simp at hx
  |some y=>
  rw[hb] at hx;simp only[ahF,aho] at hx;subst hx;obtain⟨j,hj,O⟩:=aj8 (als hb);have hnd:=aj9 hb;have hyy:y=((j:Int),y.2):=by rw[<- hj]
  have hj1:=kR j _ O λb hb'=>by
   grind
  refine gU λu w6 r6 e6 z6 f6=> ?_;refine gZ r6 rfl rfl λw7 r7 f7' z7=> ?_;have x7:=f6.new (f7' (·=u) rfl) λy hy e=>by omega
  refine⟨(x7 λ_=>False).same _ (by omega) (by simp),?_⟩;have fb:=ig.gQ w7 (w4.heap.size+1);have hX7:=x7.size;have zb:(gQ w7 (w4.heap.size+1)).heap.size=w7.heap.size:=by simp[gQ]
  have u8:=r7.fr fb (by omega);have off:∀b,iW a1 b->b≠w4.heap.size+1:=λb hb=>by
   grind
  have hE:=(kE.ext x7).fr fb λk b hb=>off b ⟨k,hb⟩;have k0:=(k0.ext x7).fr fb (by omega);have k1:=(k1.ext x7).fr fb (by omega);have k2:=(k2.ext x7).fr fb (by omega);have kz:=(kz.ext x7).fr fb (by omega);have base:∀S,ig (gQ W (w4.heap.size+1)) (gQ w7 (w4.heap.size+1)) S:=λS=>CN.Dh (x7 _) _;have n2:∀b,w.heap.size<=b->b<N->¬iW a1 b:=λb h1 h2 hh=>(kg b hh).elim (λh=>by grind) λh=>by omega
  have kf8:ig w4 (gQ w7 (w4.heap.size+1)) (λb=>iW a b\/b=q):=((kf.ext x7).trans fb λb hb e=>by omega);have rest:∀S',(∀j' o,e1.S[j']? =some o->(∀b,o=some b->j'≠j)->S'[j']? =some o)->Rest e.S S' (Zy e.S k) (i+1):=λS' hS j' o ho hn=>by
   rw[take_succ hb] at hn;refine hS j' o (kR j' o ho λb hb' hm=>hn b hb' (List.mem_append_left _ hm)) λb hb' he=> ?_
   grind
  simp only[sx,u8.cell,k0.cell];rw[<- kx.1]
  cases hst:y.2.st
  rotate_left
  ·simp only[abt];refine afw hE kG λw9 a2 e2 hn he hB=> ?_;refine hk _ (iW a1) ((base _).trans hn.fr λy _ hy=>hy) (λb h1 h2=>n2 b (by omega) h2) ⟨hN,⟨k0.fr hn.fr (n2 _ (by omega) (by omega)),k1.fr hn.fr (n2 _ (by omega) (by omega)),k2.fr hn.fr (n2 _ (by omega) (by omega))⟩,⟨z,kz.fr hn.fr (n2 _ (by omega) (by omega))⟩,a2,e2,kf8.trans hn.fr λb hb hh=> .inl ((kg b hh).elim (λh=>h) λh=>by omega),hn.eng,hn.gd,λb hb=>(hn.gr b hb).elim (kg b) λh=> .inr (by omega),⟨hn.x.trans kx.1,hB.trans kx.2⟩,λh=>hn.un (kp h),he.2.trans kt,rest _ λj' o ho _=>by rw[he.1];exact ho⟩
  ·simp only[aaf];rw[hj];refine VO hE kG hj1 λw9 a2 e2 hn he hB=> ?_;have kz9:=kz.fr hn.fr (n2 _ (by omega) (by omega));simp only[sx,kz9.cell];refine iC kz9 rfl (by simp) λI R J z10=> ?_;have f10:ig w9 I (·=q):=J _ rfl;have U:∀b,iW a2 b->b≠q:=λb hb e=>by
    subst e;exact(hn.gr b hb).elim (n2 b (by omega) (by omega)) λh=>by omega
   have fs:=hn.fr.size;have nn:∀b,w.heap.size<=b->b<N->b≠q->¬(iW a1 b\/b=q):=λb h1 h2 h3 hh=>hh.elim (n2 b h1 h2) h3;have fS:ig (gQ w7 (w4.heap.size+1)) I (λb=>iW a1 b\/b=q):=(hn.fr.mono λb h=> .inl h).trans f10 λb _ h=> .inr h;refine hk I _ ((base _).trans fS λy _ hy=>hy) (λb h1 h2=>nn b (by omega) h2 (by omega)) ⟨hN,⟨k0.fr fS (nn _ (by omega) (by omega) (by omega)),k1.fr fS (nn _ (by omega) (by omega) (by omega)),k2.fr fS (nn _ (by omega) (by omega) (by omega))⟩,⟨_,R⟩,a2,e2,kf8.trans fS λb hb hh=>hh.imp (λhh=>(kg b hh).elim (λh=>h) λh=>by omega) λh=>h,
    hn.eng.fr f10 λk b hb e=>U b ⟨k,hb⟩ e,hn.gd,λb hb=>(hn.gr b hb).elim (kg b) λh=> .inr (by omega),⟨hn.x.trans kx.1,hB.trans kx.2⟩,λh=>hn.un (kp h),he.2.trans kt,rest _ λj' o ho hne=> ?_⟩
   rw[he.1,akQ,acZ]
   ·exact ho
   grind
 ·rintro N W ⟨hN,_,⟨z,kz⟩,a1,e1,kf,kE,kG,kg,kx,kp,kt,_⟩ hm;simp only[sx,kz.cell];have fp:=ig.nG W w4.heap.size (.deferred none);refine⟨hm rfl,hK z _ a1 e1 ⟨(((x4 _).trans kf λb hb hh=>hh.elim (λh=>h) λh=>by omega).trans fp λb hb e=>by omega),kE.fr fp λk b hb e=> ?_,kG,λb hb=>(kg b hb).imp (λh=>h) λh=>by omega,kx.1,kp,by omega⟩⟩;rcases kg b ⟨k,hb⟩ with hh|hh
  ·grind
  ·omega
end Go.Proofs.EN
end
section
namespace Go.Proofs.EN
open Gp Go.Proofs
open Gp.Bind (Bnd Slots live GoodB freeN getS In64)
variable {w w':θ} {a:EA} {c:Cf} {e:ES}
def eB (b:Bnd):List Value:=[Β b.sw,Β b.pr,Β b.ad,Β b.po,Β b.opr,Β b.oad,Β b.opo,.bool b.st]
theorem Ul (b:Bnd):(eB b).length=8:=rfl
theorem ajE (b:Bnd):∀v∈eB b,iP v=true:=by
 intro v hv;simp only[eB,agI,ajr,alf] at hv;rcases hv with rfl|rfl|rfl|rfl|rfl|rfl|rfl|rfl<;>rfl
def eS (b:Gp.Ses.Ses):List Value:=[Β b.bd,Β b.st,Β b.un,Β b.ra,Β b.rp]
theorem abX (b:Gp.Ses.Ses):(eS b).length=5:=rfl
theorem ajF (b:Gp.Ses.Ses):∀v∈eS b,iP v=true:=by
 intro v hv;simp only[eS,agI,ajr,alf] at hv;rcases hv with rfl|rfl|rfl|rfl|rfl<;>rfl
def Rx (x:Int):Value:= Β x
theorem eqN (a b:Int):Fz υ 16 3 (Rx a) (Rx b)=some (decide (a=b)):=WN.eqW a b
theorem ak0 (a:Int):oJ υ 3 (Rx a)=true:=WN.Zh a
def plk (l:List (Int×Bnd)) (k:Int):Option Int:=(l.zipIdx.reverse.find? λx=>x.1.1==k).map λx=>(x.2:Int)
theorem agV (l:List (Int×Bnd)) (x:Int×Bnd) (k:Int):plk (l++[x]) k=if k=x.1 then some (l.length:Int) else plk l k:=by
 unfold plk
 grind
def Wq (e:ES):List Gp.Ses.Ses:=(Gp.Ses.live 0 e.SS).map λx=>{x.2 with bd:=(plk (live 0 e.S) x.2.bd).getD 0}
theorem aiP (d:Nat) (w:θ) {K:Value->b_} (h:∀f w',Row w' f [.pointer (some ⟨d,0,none⟩)]->f=w.heap.size->w'.heap.size=f+1->Ext w w'->K (Value.func (.func xZ) #[] #[(Value.pointer (some ⟨f,0,none⟩))]) w'):u_ (some ⟨d,0,none⟩) w K:=by
 apply Jz;exact⟨rfl,gU λf w1 r1 e1 z1 f1=>h f w1 r1 e1 z1 f1⟩
theorem abn (h:lS w a c e):oW (some ⟨a.d,0,none⟩) w λn w'=>n=(e.l.length:Int)/\w'=w:=WN.ai2 h.wh.wm
def vwC (now:Nat) (bs ss:gG) (t:Nat):List Value:=[Β (now:Int),Δ bs,Δ ss,Β 0,Β 0,Β (t:Int),.slice none 0 0]
def aar:gG:=⟨none,0,0⟩
theorem aiY (h:lS w a c e) (hsz:e.S.length<=4096/\e.SS.length<=4096) {K:Int->gG->gG->Int->Int->Int->gG->b_}
  (hK:∀bs ss w',Ext w w'->jc 8 eB w' bs ((live 0 e.S).map (·.2))->jc 5 eS w' ss (Wq e)->(∀b,gG.at bs b->w.heap.size<=b)->(∀b,gG.at ss b->w.heap.size<=b)->K (e.now:Int) bs ss 0 0 (e.l.length:Int) aar w'):
  vY (some ⟨a.x,0,none⟩) w K:=by
 apply Ll;refine gU λr w1 r1 e1 z1 f1=> ?_;have h1:=h.ext f1;refine cmS0 (uG h1) ?_;rintro _ w1 ⟨rfl,hw⟩;subst hw;rw[adt,aaf];intro J;have hJ:∀vb W,Ext w1 W->Row W vb (vwC e.now aar aar e.l.length)->w1.heap.size<=vb->J ⟨vb,0,none⟩ W:=by
  intro vb W hW hv hvb;simp only[J];refine SN.JW (enc:=Rx) (ev:=Rx) λw2 m2 z2 f2=> ?_;refine gU λq w3 r3 e3 z3 f3=> ?_;refine iC r3 rfl (by simp) λw4 r4 f4' z4=> ?_;have f4:=f4' _ rfl;simp only[af5] at r4;have hvl:=hv.lt;have x4:=(f2.trans f3).new f4 λy hy e=>by omega
  have m4:=(m2.ext f3).fr f4 (by omega);have h4:=h1.ext (hW.trans x4);have v4:=hv.ext x4;refine jS.2 (iF (k:= .ptr) (i:=2) (x:=some ⟨a.B.d,0,none⟩) h4.hd rfl ?_);refine ada a.B.d w4 λf w5 r5 e5 z5 f5=> ?_;have h5:=h4.ext f5;have m5:=m4.ext f5;have v5:=v4.ext f5;have q5:=r4.ext f5;have zW:=hW.size;have z14:W.heap.size+2<=w4.heap.size/\q<w4.heap.size/\W.heap.size<q:=by omega
  have I:=λk b hb=>alA (h.lt k b hb) f1.size;have hla:lM none w5=w5.heap.size+1:=rfl;have hmp:W.heap.size≠q/\W.heap.size≠vb/\q≠vb:=by omega
  refine vU (Go.Proofs.X3 c.nb.toNat e.S h.db.len a.B f) (λi X=>∃bs M,Row X vb (vwC e.now bs aar e.l.length)/\jc 8 eB X bs (((live 0 e.S).map (·.2)).take i)/\rV Rx Rx X W.heap.size M/\(∀k,mg M k=plk ((live 0 e.S).take i) k)/\
    ig w5 X (λb=>b=vb\/b=W.heap.size)/\(∀b,gG.at bs b->lM none w5<b)/\w5.heap.size+2<=X.heap.size)
   (λ_ _=>False) (by simp) ?_ ?_ ?_ (by simp) (by simp) ?_ ?_ (by simp) (by intro id W h;exact h.elim)
  ·intro X hX hz;refine⟨aar,[],v5.ext hX,by simpa [aar] using jc.nil,m5.ext hX,λk=>rfl,hX _,(λb ⟨o,hb⟩=>by cases hb),by omega⟩
  ·rintro i X ⟨bs,M,h1,h2,h3,h4',h5',h6,h7⟩;have hn:∀b,b<w1.heap.size->¬(b=vb\/b=W.heap.size):=λb hb e=>by omega
   exact⟨r5.fr h5' (by omega),e.S,e.Mi,e.Mo,(h5.db).fr h5' λb hb=>hn b (I 3 b hb),λj o h _=>h⟩
  ·rintro i X X' ⟨bs,M,h1,h2,h3,h4',h5',h6,h7⟩ hf;exact⟨bs,M,h1.fr hf (by omega),h2.fr hf λb hb e=>by grind,h3.fr hf (by omega),h4',h5'.trans hf λb hb e=>by omega,h6,by have:=hf.size;omega⟩
  ·rintro i x X Kb hx ⟨bs,M,h1,h2,h3,h4',h5',h6,h7⟩ Z hk _;rw[show yD (live 0 e.S)=(live 0 e.S).map _ from rfl,aiK] at hx
   cases hb:(live 0 e.S)[i]? with
   |none=>rw[hb] at hx;simp at hx
   |some p=>
   rw[hb] at hx;simp only[ahF,aho] at hx;subst hx;have am:i<(live 0 e.S).length:=(afg.1 hb).1;have an:=Gp.Bind.jL e.S 0;have aj:bs.len=i:=by rw[(h2.sl Ul (by omega)).len,ajH,aiz];omega
   refine gU λu w6 r6 e6 z6 f6=> ?_;refine gZ r6 rfl rfl λw7 r7 f7' z7=> ?_;have x7:Ext X w7:=f6.new (f7' (·=u) rfl) λy hy e=>by omega
   refine⟨(x7 λ_=>False).same _ Z (by simp),?_⟩;have fb:=ig.gQ w7 (lM none w5);have zb:(gQ w7 (lM none w5)).heap.size=w7.heap.size:=by simp[gQ]
   have hX7:=x7.size;have v8:=(h1.ext x7).fr fb (by omega);have b8:=(h2.ext x7).fr fb λb hb e=>by grind
   have m8:=(h3.ext x7).fr fb (by omega);have q8:=((q5.fr h5' (by omega)).ext x7).fr fb (by omega);have u8:=r7.fr fb (by omega);refine iF (k:= .map) (i:=0) (x:=some W.heap.size) q8 rfl (Ld_s 1 bs v8 ?_);refine zJ (enc:=Rx) (ev:=Rx) m8 eqN p.1 (bs.len:Int) (ak0 _) λw9 m9 f9 z9=> ?_;have v9:=v8.fr f9 (by omega);have b9:=b8.fr f9 λb hb e=>by grind
   have u9:=u8.fr f9 (by omega);refine Ld_s 1 bs v9 ?_;simp only[sx,u9.cell];refine gU λy R U e10 ao f10=> ?_;have sl:ny 8 eB R ⟨some ⟨y,0,none⟩,1,1⟩ [p.2]:=(jc.row (xs:=[p.2]) (by simpa [eB] using U)).sl Ul (by omega);refine mO Ul (b9.ext f10) sl rfl (by omega) ajE (by simp;omega) (by simp;omega) λs' aa aq f11 p11=> ?_;have ab:¬gG.at bs vb:=λhb=>by grind
   have ar:¬gG.at bs W.heap.size:=λhb=>by grind
   have au:=(v9.ext f10).fr f11 ab;have m11:=(m9.ext f10).fr f11 ar;refine iC au rfl (by simp[vwC]) λO av ac z12=> ?_;have f12:ig aa O (·=vb):=ac _ rfl;have hs':∀b,gG.at s' b->lM none w5<b:=λb hb=>by
    grind
   have fr:ig (gQ X (lM none w5)) O (λb=>b=vb\/b=W.heap.size\/gG.at bs b):=by
    have g1:ig (gQ X (lM none w5)) w9 (λb=>b=vb\/b=W.heap.size\/gG.at bs b):=(CN.Dh (x7 _) _).trans f9 λb _ hb=> .inr (.inl hb);exact((g1.ext f10).trans f11 λb _ hb=> .inr (.inr hb)).trans f12 λb _ hb=> .inl hb
   refine hk O _ fr ?_ ⟨s',_,?_,?_,m11.fr f12 (by omega),?_,?_,hs',?_⟩
   ·grind
   ·exact av
   ·have ae:((live 0 e.S).map (·.2)).take (i+1)=((live 0 e.S).map (·.2)).take i++[p.2]:=take_succ (by simp_all);rw[ae];exact aq.fr f12 λb hb e=>by grind
   ·intro k;rw[Ce,take_succ hb,agV,h4',ajH,aj,amb (by omega)]
   ·refine(h5'.trans (ig.gQ X _) λb hb e=>by omega).trans fr ?_
    grind
   ·have:=fr.size;have aw:(gQ X (lM none w5)).heap.size=X.heap.size:=by simp[gQ]
    omega
  ·rintro X ⟨bs,M,b1,b2,b3,b4,b5,b6,b7⟩ hm;have af:(yD (live 0 e.S)).length=(live 0 e.S).length:=by simp[yD]
   rw[af] at b2 b4;rw[ali (by simp)] at b2;rw[alo] at b4;have hn:∀b,b<w1.heap.size->¬(b=vb\/b=W.heap.size):=λb hb e=>by omega
   have hX:=h5.fr b5 λk b hb=>hn b (I k b hb);refine jS.2 (iF (k:= .ptr) (i:=3) (x:=some ⟨a.T.d,0,none⟩) hX.hd rfl ?_);refine aiP a.T.d X λf' w6 r6 e6 z6 f6=> ?_;have hla':lM none w6=w6.heap.size+1:=rfl;have h6:=hX.ext f6;have m6:=b3.ext f6;have v6:=b1.ext f6;have q6:=(q5.fr b5 (by omega)).ext f6;have hm6:w6.heap[w5.heap.size]? =some (.deferred (some [])):=by
    rw[(f6 λ_=>False).same _ (by omega) (by simp)];exact hm rfl
   have hviewl:(Wq e).length=(Gp.Ses.live 0 e.SS).length:=by simp[Wq]
   have hlen6:X.heap.size<=w6.heap.size:=f6.size;refine vU (SN.afu c.ns.toNat e.SS e.M a.T f') (λi Y=>∃ss,Row Y vb (vwC e.now bs ss e.l.length)/\jc 5 eS Y ss ((Wq e).take i)/\ig w6 Y (λb=>b=vb)/\(∀b,gG.at ss b->lM none w6<b)/\w6.heap.size+2<=Y.heap.size)
    (λ_ _=>False) (by simp) ?_ ?_ ?_ (by simp) (by simp) ?_ ?_ (by simp) (by intro id W h;exact h.elim)
   ·intro Y hY hz;exact⟨aar,v6.ext hY,by simpa [aar] using jc.nil,hY _,(λb ⟨o,hb⟩=>by cases hb),by omega⟩
   ·rintro i Y ⟨ss,g1,g2,g3,g4,g5⟩;exact⟨r6.fr g3 (by omega),(h6.se).fr g3 λb hb e=>by have:=I 4 b hb;omega⟩
   ·rintro i Y Y' ⟨ss,g1,g2,g3,g4,g5⟩ hf;exact⟨ss,g1.fr hf (by omega),g2.fr hf λb hb e=>by grind,g3.trans hf λb hb e=>by omega,g4,by have:=hf.size;omega⟩
   ·rintro i x Y Kb hx ⟨ss,g1,g2,g3,g4,g5⟩ Z hk _;rw[show SN.yS (Gp.Ses.live 0 e.SS)=(Gp.Ses.live 0 e.SS).map _ from rfl,aiK] at hx
    cases hb:(Gp.Ses.live 0 e.SS)[i]? with
    |none=>rw[hb] at hx;simp at hx
    |some p=>
    rw[hb] at hx;simp only[ahF,aho] at hx;subst hx;have am:i<(Gp.Ses.live 0 e.SS).length:=(afg.1 hb).1;have an:=Gp.Ses.jL e.SS 0;have aj:ss.len=i:=by rw[(g2.sl abX (by omega)).len,ajH];omega
    refine gU λu w7 r7 e7 z7 f7=> ?_;refine gZ r7 rfl rfl λw8 r8 f8' z8=> ?_;have x8:Ext Y w8:=f7.new (f8' (·=u) rfl) λy hy e=>by omega
    refine⟨(x8 λ_=>False).same _ Z (by simp),?_⟩;have fb:=ig.gQ w8 (lM none w6);have zb:(gQ w8 (lM none w6)).heap.size=w8.heap.size:=by simp[gQ]
    have hY8:=x8.size;have v9:=(g1.ext x8).fr fb (by omega);have b9:=(g2.ext x8).fr fb λb hb e=>by grind
    have m9:=((m6.fr g3 (by omega)).ext x8).fr fb (by omega);have q9:=((q6.fr g3 (by omega)).ext x8).fr fb (by omega);have u9:=r8.fr fb (by omega);refine iF (k:= .map) (i:=0) (x:=some W.heap.size) q9 rfl (Ld_i 0 p.2.bd u9 ?_);have N:∀Q:Int->Prop,Q ((plk (live 0 e.S) p.2.bd).getD 0)->qF υ 3 ν (some W.heap.size) (Β p.2.bd) (Β 0) (gQ w8 (lM none w6)) Q:=by
     intro Q hQ;refine EL (k:= .int .i64) (enc:=Rx) (ev:=Rx) m9 eqN p.2.bd (ak0 _) (λhn=> ?_) (λb hb=> ?_)
     ·rw[b4] at hn;rw[hn] at hQ;simp only[gK];exact hQ
     ·rw[b4] at hb;rw[hb] at hQ;simp only[Rx,gK];exact hQ
    refine N _ ?_;refine iC u9 rfl (by simp) λR U ag ao=> ?_;have f10:ig (gQ w8 (lM none w6)) R (·=u):=ag _ rfl;simp only[af5] at U;have ak:=v9.fr f10 (by omega);have ax:=b9.fr f10 λb hb e=>by have:=g2.lt hb;omega
    refine Ld_s 2 ss ak ?_;simp only[sx,U.cell];refine gU λy aa ay e11 z11 f11=> ?_;have sl:ny 5 eS aa ⟨some ⟨y,0,none⟩,1,1⟩ [({p.2 with bd:=(plk (live 0 e.S) p.2.bd).getD 0}:Gp.Ses.Ses)]:=(jc.row (xs:=[({p.2 with bd:=(plk (live 0 e.S) p.2.bd).getD 0}:Gp.Ses.Ses)]) (by simpa [eS] using ay)).sl abX (by omega);refine mO abX (ax.ext f11) sl rfl (by omega) ajF (by simp;omega) (by simp;omega) λs' O az f12 p12=> ?_;have ab:¬gG.at ss vb:=λhb=>by grind
    have v12:=(ak.ext f11).fr f12 ab;refine iC v12 rfl (by simp[vwC]) λah aA ai z13=> ?_;have f13:ig O ah (·=vb):=ai _ rfl;have hs':∀b,gG.at s' b->lM none w6<b:=λb hb=>by
     grind
    have fr:ig (gQ Y (lM none w6)) ah (λb=>b=vb\/gG.at ss b):=by
     have g1:ig (gQ Y (lM none w6)) R (λb=>b=vb\/gG.at ss b):=(CN.Dh (x8 _) _).trans f10 λb hb e=>by(have:(gQ Y (lM none w6)).heap.size=Y.heap.size:=by simp[gQ]);omega
     exact((g1.ext f11).trans f12 λb _ hb=> .inr hb).trans f13 λb _ hb=> .inl hb
    refine hk ah _ fr ?_ ⟨s',aA,?_,?_,hs',?_⟩
    ·grind
    ·have ae:(Wq e).take (i+1)=(Wq e).take i++[({p.2 with bd:=(plk (live 0 e.S) p.2.bd).getD 0}:Gp.Ses.Ses)]:=take_succ (by unfold Wq;simp_all);rw[ae];exact az.fr f13 λb hb e=>by grind
    ·refine(g3.trans (ig.gQ Y _) λb hb e=>by omega).trans fr ?_
     grind
    ·have:=fr.size;have aw:(gQ Y (lM none w6)).heap.size=Y.heap.size:=by simp[gQ]
     omega
   ·rintro Y ⟨ss,g1,g2,g3,g4,g5⟩ hm';have af:(SN.yS (Gp.Ses.live 0 e.SS)).length=(Gp.Ses.live 0 e.SS).length:=by simp[SN.yS]
    rw[af,ali (by omega)] at g2;simp only[sx,g1.cell,vwC];have zz:=x4.size;have rr:Row Y r _:=((((r1.ext hW).ext (x4.trans f5)).fr b5 (by omega)).ext f6).fr g3 (by omega);refine StN_f rr λw7 r7 f7 z7=> ?_;have hm7:w7.heap[w6.heap.size]? =some (.deferred (some [])):=by
     rw[f7.same _ (by omega) (by omega)];exact hm' rfl
    have fp1:=ig.nG w7 w6.heap.size (.deferred none);have fp2:=ig.nG (w7.putObj w6.heap.size (.deferred none)) w5.heap.size (.deferred none);refine⟨hm7,?_,?_⟩
    ·have e1:(w7.putObj w6.heap.size (.deferred none)).heap[w5.heap.size]? =w7.heap[w5.heap.size]? :=fp1.same _ (by omega) (by omega);exact e1.trans ((f7.same _ (by omega) (by omega)).trans ((g3.same _ (by omega) (by omega)).trans hm6))
    have r9:=(r7.fr fp1 (by omega)).fr fp2 (by omega);simp only[sx,r9.cell];refine hK bs ss _ ?_ ?_ ?_ ?_ ?_
    ·have q1:Ext w w5:=(f1.trans hW).trans (x4.trans f5);have q2:Ext w X:=q1.new b5 λb hb e=>by omega
     have q3:Ext w Y:=(q2.trans f6).new g3 λb hb e=>by omega
     have q4:Ext w w7:=q3.nw f7;exact(q4.new fp1 λb hb e=>by omega).new fp2 λb hb e=>by omega
    ·have t1:=(b2.ext f6).fr g3 λb hb e=>by grind
     exact((t1.fr f7 λb hb e=>by grind).fr fp1 λb hb e=>by have:=b2.lt hb;omega).fr fp2 λb hb e=>by grind
    ·exact((g2.fr f7 λb hb e=>by grind).fr fp1 λb hb e=>by grind).fr fp2 λb hb e=>by grind
    ·grind
    grind
 clear_value J;have hd:=h1.ext (Ext.drew w1);have c41:=hd.c41;have c4:=hd.c4;simp only[sx,Ci,Cs,c41,c4];refine⟨?_,?_⟩
 ·refine cmS1 (abn hd) ?_;rintro n w2 ⟨rfl,hw2⟩;subst hw2;refine⟨c41,gU λvb w3 r3 e3 z3 f3=> ?_⟩;refine⟨kS c4 f3,kS c41 f3,?_⟩;refine gZ r3 rfl rfl λw4 r4 f4' z4=> ?_;have aB:w1.drew.heap.size=w1.heap.size:=rfl;exact hJ vb w4 (((Ext.drew w1).trans f3).new (f4' (·=vb) rfl) λy hy e=>by omega) r4 (by omega)
 ·refine gU λvb w3 r3 e3 z3 f3=> ?_;refine⟨kS c4 f3,kS c41 f3,?_⟩;refine cmS1 (abn (hd.ext f3)) ?_;rintro n w2 ⟨rfl,hw2⟩;subst hw2;refine⟨kS c41 f3,?_⟩;refine gZ r3 rfl rfl λw4 r4 f4' z4=> ?_;have aB:w1.drew.heap.size=w1.heap.size:=rfl;exact hJ vb w4 (((Ext.drew w1).trans f3).new (f4' (·=vb) rfl) λy hy e=>by omega) r4 (by omega)
end Go.Proofs.EN
end
section
namespace Go.Proofs.AN
open Gp Gp.V4 Go.Proofs Go.Proofs.VN
open Gp.Bind (In64)
theorem ahX {n:Nat} (hn:n<=2^46) (w:θ):qc ⟨none,0,0⟩ (n:Int) w λr w'=>Buf w' r (bytesV [])/\Ext w w'/\∀b,gG.at r b->w.heap.size<=b:=by
 apply EC;rw[adX (by omega),aaf];have e0:ο.wrap (((0:Nat):Int) - ((0:Nat):Int))=0:=rfl;simp -zeta only[e0];rw[show ((n:Int) - 0)=(n:Int) by omega,Α];intro J;by_cases hz:(n:Int)>0
 ·rw[aff hz,abt];refine⟨by omega,by omega,by simp,?_⟩;show XM 5 1 1 [.int .u8 0] (⟨none,0,0⟩:gG) (n:Int) w _;refine Tt (by simp_all) (by simp_all) (by simp_all) rfl λc w1 hc r1 f1 z1=> ?_;have hc:=hc;refine⟨by omega,by omega,by simp,?_⟩;have h:rP (some (⟨w.heap.size,0,none⟩:Addr)) c (0:Int).toNat 1=some ⟨w.heap.size,0,none⟩:=by
   unfold rP;split<;>simp[Addr.add]
  show J ⟨rP (some (⟨w.heap.size,0,none⟩:Addr)) c (0:Int).toNat 1,0,c - 0⟩ w1;rw[h];refine⟨⟨rfl,.inr ⟨w.heap.size,iw [.int .u8 0] n++iw [.int .u8 0] (c - (0+n)),rfl,?_,by simpa [bytesV] using r1⟩⟩,f1,λb ⟨o,hb⟩=>by simp_all⟩;simp only[ahP,n_,ajg,amn,bytesV,List.map_nil];omega
 ·rw[adX hz,aaf];exact⟨Buf.nil,Ext.refl _,λb ⟨o,hb⟩=>by cases hb⟩
def MN (ps:List (gG×List UInt8)):List UInt8:=ps.flatMap (·.2)
theorem ahv {ps:List (gG×List UInt8)} {n:Nat} (h:∀p∈ps,p.2.length<=n):(MN ps).length<=ps.length * n:=by
 induction ps with
 |nil=>simp[MN]
 |cons p ps ih=>
  have h1:=h p (by simp);have h2:=ih λq hq=>h q (by simp[hq]);unfold MN at h2 ⊢;rw[alx,ahP,ajg,alN];omega
theorem XW {ps:List (gG×List UInt8)} {i:Nat} {p:gG×List UInt8} (h:ps[i]? =some p):MN (ps.take (i+1))=MN (ps.take i)++p.2:=by
 unfold MN;rw[al3,h,alR];simp
theorem ady {w:θ} {s:gG} {ps:List (gG×List UInt8)} (hs:Parts w s ps) {i:Nat} {p:gG×List UInt8} (hp:ps[i]? =some p) {K:Addr->Prop} (hK:∀a,w.cell? a=some (.slice p.1.a p.1.len p.1.cap)->iH w p.1 p.2->K a):iK s 1 (i:Int) K:=by
 have hlt:=(afg.1 hp).1;have hl:=hs.1;obtain⟨b,o,ha,hc,hb⟩:=hs.2 i p hp;refine⟨_,ha,by omega,by omega,?_⟩;rw[abu,aiC,gY];exact hK _ hc hb
theorem aea {w:θ} {s:gG} {ps:List (gG×List UInt8)} (hs:Parts w s ps) (hn:ps.length<=8) (hl:∀p∈ps,p.2.length<=2^40):
  oM s w λr w'=>Buf w' r (bytesV (MN ps))/\Ext w w'/\∀b,gG.at r b->w.heap.size<=b:=by
 apply CJ;have hsl:=hs.1;have bnd:∀i,(MN (ps.take i)).length<=2^43:=λi=>by
  have h1:=ahv (ps:=ps.take i) λp hp=>hl p (amZ hp)
  grind
 refine g_ (λst W=>W=w/\∃i:Nat,i<=ps.length/\st.2.1=(i:Int)/\st.1=((MN (ps.take i)).length:Int)) (λst _=>ps.length - st.2.1.toNat) ⟨rfl,0,by omega,rfl,by simp[MN]⟩ ?_;rintro⟨t,x,⟨⟩⟩ W ⟨rfl,i,hi,hx,ht⟩ next I
 simp only at hx ht;subst hx ht;by_cases N:(i:Int)<(s.len:Int)
 ·rw[aff N,abt];have hp:=adP (show i<ps.length by omega);generalize ps[i]'(by omega)=p at hp;refine ady hs hp λa hc hb=> ?_;simp only[XP,hc,gJ,h_];have b1:=bnd (i+1);have e1:=XW hp;have hpl:=hb.1;rw[e1,ahP] at b1;rw[Α,adX (by omega),aaf,Α];exact I _ _ ⟨rfl,i+1,by omega,by simp,by simp_all⟩ (by grind)
 ·rw[adX N,aaf];have b1:=bnd i;refine cmS2 (ahX (by omega) W) ?_;rintro r w1 ⟨g1,g2,g3⟩;refine g_ (λst W'=>∃j:Nat,j<=ps.length/\st.2.1=(j:Int)/\Buf W' st.1 (bytesV (MN (ps.take j)))/\(∀b,gG.at st.1 b->W.heap.size<=b)/\Ext W W') (λst _=>ps.length - st.2.1.toNat) ⟨0,by omega,rfl,by simpa [MN] using g1,g3,g2⟩ ?_;rintro⟨u,x,⟨⟩⟩ W' ⟨j,hj,hx,hb,R,J⟩ next' h
  simp only at hx hb R;subst hx;by_cases O:(j:Int)<(s.len:Int)
  ·rw[aff O,abt];have hp:=adP (show j<ps.length by omega);generalize ps[j]'(by omega)=p at hp;refine ady (hs.fr J) hp λa hc U=> ?_;simp only[XP,hc,gJ,h_];have b2:=bnd (j+1);have e1:=XW hp;rw[e1,ahP] at b2;refine jK hb U (by omega) λs' w' h1 h2 h3 _=> ?_;rw[Α];have z1:=J.size;refine h _ _ ⟨j+1,by omega,by simp,by rw[e1];exact h1,λb hb'=> ?_,J.new h2 λy hy hb'=>by grind⟩ (by grind)
   grind
  ·rw[adX O,aaf]
   grind
section
variable {w0 w w':θ}
theorem Ph (t o:Int) (w:θ):qL t o w λr w'=>r=(if t= -1 then o else t)/\w'=w:=by
 apply Xp;by_cases h:t= -1
 ·subst h;exact⟨rfl,rfl⟩
 ·have:(t== -1)=false:=by simp_all
  rw[this,aaf,acZ h];trivial
def Sm (a b:Int) (L:List UInt8):List UInt8:=mP (mP (mP (mP [] a 2) b 2) (8+(L.length:Int)) 2) 0 2++L
def ae6 (sa da:Int) (m:List UInt8):Int:=if (65535 - fold (sZ [(⟨none,0,0⟩,zI sa da 17 (m.length:Int)),(⟨none,0,0⟩,m)]):Nat)=0 then 65535 else ((65535 - fold (sZ [(⟨none,0,0⟩,zI sa da 17 (m.length:Int)),(⟨none,0,0⟩,m)]):Nat):Int)
def NW (sa da a b:Int) (ns:Bool) (L:List UInt8):List UInt8:=if ns then Sm a b L else (Sm a b L).take 6++kC 2 (ae6 sa da (Sm a b L)).toNat++(Sm a b L).drop 8
theorem abd (s s':gG) (l m:List UInt8):sZ [(s,l),(s',m)]=tot l+tot m:=by simp[sZ]
theorem ae5 (a b:Int) (ns:Bool) {d:gG} {L:List UInt8} (hd:iH w d L):IJ a b ns d w λr w'=>(mW a->mW b->L.length<=60000->r=0)/\(r=0->L.length<=65527)/\Ext w w':=by
 apply ZY;refine gU λp w1 r1 e1 z1 f1=> ?_;have hl:=hd.1;intro J;have u:∀W,Ext w W->¬(mW a/\mW b)->J true W:=λW hx hn=>by
  simp only[J,abt]
  grind
 have I:∀W,Ext w1 W->J false W:=λW hx=>by
  simp only[J,aaf];refine iF (r1.ext hx) rfl ?_;by_cases c:(d.len:Int)>65527
  ·rw[aff c,abt];exact⟨λ_ _ h=>by omega,(λh=>by cases h),f1.trans hx⟩
  ·rw[adX c,aaf];exact⟨λ_ _ _=>trivial,λ_=>by omega,f1.trans hx⟩
 clear_value J;have fit:∀n:Int,jm n 2↔mW n:=λn=>by
  unfold jm lN
  grind
 refine iF r1 rfl ?_;refine cmS0 (sQ a 2 w1) ?_;rintro r w2 ⟨hr,hw⟩;subst hw
 cases r
 ·rw[afk,abt];exact u _ f1 λh=>amC hr.symm ((fit a).2 h.1)
 rw[adt,aaf];refine iF r1 rfl ?_;refine cmS0 (sQ b 2 w2) ?_;rintro r w3 ⟨hr,hw⟩;subst hw
 cases r
 ·exact u _ f1 λh=>amC hr.symm ((fit b).2 h.2)
 ·exact I _ (Ext.refl _)
theorem ae1 (sa da:Int) {s:gG} {m:List UInt8} (hs:iH w s m) (hl:m.length<=2^40):Gs sa da s w λr w'=>r=ae6 sa da m/\Ext w w':=by
 apply XJ;refine cmS2 (KE sa da 17 _ w) ?_;rintro ps w1 ⟨h,f1⟩;have hpl:=DV sa da 17 (s.len:Int);refine gU λp w2 r2 e2 z2 f2=> ?_;have u:=hs.1;refine cmS1 (UW (KD r2 (h.ext f2) ((hs.ext f1).ext f2)) (by simp) (by simp;omega)) ?_;rintro r w3 ⟨hr,f3⟩;have x3:=(f1.trans f2).trans f3;have e:r=((65535 - fold (sZ [(⟨none,0,0⟩,zI sa da 17 (m.length:Int)),(⟨none,0,0⟩,m)]):Nat):Int):=by
  rw[hr,abd,abd,u]
 unfold ae6;rw[e];generalize (65535 - fold (sZ [(⟨none,0,0⟩,zI sa da 17 (m.length:Int)),(⟨none,0,0⟩,m)]):Nat)=q;by_cases h0:q=0
 ·subst h0;exact⟨rfl,x3⟩
 ·have:(((q:Nat):Int)==0)=false:=by simp_all
  rw[this,aaf,acZ h0]
  grind
theorem aiW (sa da:Int) (m:List UInt8):1<=ae6 sa da m/\ae6 sa da m<=65535:=by
 unfold ae6;omega
theorem ae4 (sa da a b:Int) (ns:Bool) {d:gG} {L:List UInt8} (hd:iH w d L) (hl:L.length<=2^40):
  II sa da a b ns d w λr e w'=>Ext w w'/\(mW a->mW b->L.length<=60000->e=0/\iH w' r (NW sa da a b ns L)/\∀x,gG.at r x->w.heap.size<=x):=by
 apply ZX;refine gU λp w1 r1 e1 z1 f1=> ?_;refine Ld_i 0 a r1 (Ld_i 1 b r1 (Ld_b 2 ns r1 (Ld_s 3 d r1 ?_)));refine cmS1 (ae5 a b ns (hd.ext f1)) ?_;rintro ce w2 ⟨hce,ae,f2⟩;have x2:=f1.trans f2;by_cases hc:ce=0;rotate_left
 ·have:(ce !=0)=true:=by simp_all
  rw[this,abt]
  grind
 have hL:=ae hc;subst hc;rw[show ((0:Int) !=0)=false from rfl,aaf];have R:=r1.ext f2;have hdl:=hd.1;refine Ld_i 0 a R (Ld_i 1 b R (Ld_s 3 d R ?_));rw[Α];refine gU λg w3 r3 e3 z3 f3=> ?_;have x3:=x2.trans f3;have f13:=f2.trans f3
 let ns4:List Int:=[a,b,8+(d.len:Int),0]
 let acc:Nat->List UInt8:=λi=>(ns4.take i).foldl (λl n=>mP l n 2) []
 have u:∀i n,ns4[i]? =some n->acc (i+1)=mP (acc i) n 2:=by
  intro i n hi;simp only[acc];rw[al3,hi,List.foldl_append];rfl
 have Y:∀i,(acc i).length<=2 * i:=by
  intro i
  induction i with
  |zero=>simp[acc]
  |succ i ih=>
   cases hi:ns4[i]? with
   |none=>
    simp only[acc] at ih ⊢;rw[al3,hi]
    grind
   |some n=>
    rw[u i n hi];have:(mP (acc i) n 2).length<=(acc i).length+2:=AY _ _ 2;omega
 refine g_ (λst W=>∃i:Nat,i<=4/\st.2.1=(i:Int)/\Buf W st.1 (bytesV (acc i))/\Ext w1 W/\(∀x,gG.at st.1 x->w1.heap.size<=x)/\Ext w3 W) (λst _=>(4 - st.2.1).toNat) ⟨0,by omega,rfl,Buf.nil,f13,(λx h=>by obtain⟨o,h⟩:=h;cases h),Ext.refl _⟩ ?_;rintro⟨s,ii,⟨⟩⟩ W ⟨i,hi,Z,hb,hx,hn,hx3⟩ next I
 simp only at Z hb hn;subst Z;by_cases aa:(i:Int)<4
 ·rw[aff aa,abt];have J:ns4[i]? =some (ns4[i]'(by grind)):=adP _;generalize ns4[i]'(by grind)=n at J;have N:W.cell? ⟨g,i,none⟩=some (Β n):=by
   rw[(r3.ext hx3).cell]
   grind
  show iK ⟨some ⟨g,0,none⟩,4,4⟩ 1 (i:Int) _;refine⟨⟨g,0,none⟩,rfl,by omega,by trivial,?_⟩;have ha9:(⟨g,0,none⟩:Addr).add ((i:Int).toNat * 1)=⟨g,i,none⟩:=by rw[abu,aiC,gY,ahn]
  rw[ha9];refine iO (k:= .int .i64) (y:=n) N ?_;have hai:=Y i;refine cmS2 (Ah (iH.iM hb) (by omega) n 2) ?_;rintro s2 w5 ⟨b5,f5,n5⟩;have af:ο.wrap ((i:Int)+1)=(i:Int)+1:=Α;show next (s2,ο.wrap ((i:Int)+1),()) w5
  rw[af];refine I _ _ ⟨i+1,by omega,by rfl,by rw[u i n J];exact b5,hx.trans f5,λx ag=>by have:=n5 x ag;have:=hx.size;omega,hx3.trans f5⟩ (by grind)
 ·rw[adX aa,aaf];have hi4:i=4:=by omega
  subst hi4;have r1W:=r1.ext hx;refine Ld_s 3 d r1W ?_;have ha4:=Y 4;have O:acc 4++L=Sm a b L:=by
   unfold Sm
   grind
  refine jK hb ((hd.ext f1).ext hx) (by omega) λs5 w5 b5 f5 n5 _=> ?_;rw[O] at b5;have x5:=(f1.trans hx).new f5 λy hy hb=>by grind
  have hp1:¬gG.at s p:=λhb=>by grind
  have ah:=r1W.fr f5 hp1;refine Ld_b 2 ns ah ?_
  cases ns
  rotate_left
  ·rw[abt];exact⟨x5,λ_ _ _=>⟨rfl,by unfold NW;exact iH.iM b5,λx hx5=>by
    have:=f1.size;have:=hx.size
    grind⟩⟩
  rw[aaf];have hul:(Sm a b L).length<=8+L.length:=by grind
  refine cmS1 (ae1 sa da (iH.iM b5) (by omega)) ?_;rintro sm w6 ⟨ab,f6⟩;have b6:=b5.fr (f6 λ_=>False) (by simp);obtain⟨u1,u2⟩:=aiW sa da (Sm a b L);rw[<- ab] at u1 u2;refine cmS5 (VT (iH.iM b6) (by omega) 6 sm 2) ?_;rintro r7 e7 w7 ⟨U,f7,n7⟩;refine⟨(x5.trans f6).trans f7,λh1 h2 h3=> ?_⟩;have hlen:8<=(Sm a b L).length:=by
   have q:∀(l:List UInt8) (n:Int),mW n->(mP l n 2).length=l.length+2:=λl n hn=>by
    unfold mP;rw[adZ ⟨⟨by omega,by omega⟩,by omega,by grind⟩,ahP];rfl
   grind
  have ac:=Td (l:=Sm a b L) (by unfold jm lN;grind) (by omega) (by omega) U;refine⟨ac.1,?_,λx hx7=>by have:=n7 x hx7;have:=(x5.trans f6).size;omega⟩;unfold NW;rw[<- ab];exact iH.iM ac.2
end
end Go.Proofs.AN
end
section
namespace Go.Proofs.AN
open Gp Gp.V4 Go.Proofs Go.Proofs.VN
open Gp.Bind (In64)
section
variable {w0 w w':θ}
def prV (c:Int×Int):List Value:=[Β c.1,Β c.2]
theorem Ι (c:Int×Int):(prV c).length=2:=rfl
theorem akc (l:List UInt8) (n k:Int):(mP l n k).length<=l.length+4:=by
 unfold mP;split
 ·rename_i h;have:=h.1;unfold lN at this;rw[ahP,jf];omega
 ·omega
theorem aaQ {b:Nat} {s s' s'':gG} {l l' l'':List UInt8} (h:Row w b [Δ s,.slice s'.a s'.len s'.cap,.slice s''.a s''.len s''.cap]) (hs:iH w s l) (hs':iH w s' l') (hs'':iH w s'' l''):Parts w ⟨some ⟨b,0,none⟩,3,3⟩ [(s,l),(s',l'),(s'',l'')]:=by
 refine⟨rfl,λi p hi=> ?_⟩
 match i,hi with
 |0,hi=>simp at hi;subst hi;exact⟨b,0,rfl,by rw[h.cell];rfl,hs⟩
 |1,hi=>simp at hi;subst hi;exact⟨b,0,rfl,by rw[h.cell];rfl,hs'⟩
 |2,hi=>simp at hi;subst hi;exact⟨b,0,rfl,by rw[h.cell];rfl,hs''⟩
 |(n+3),hi=>simp at hi
theorem V_ (x0 x1 x2 x3 x4 x5 x6 x7:Int) (x8 x9:gG) (w:θ):AO x0 x1 x2 x3 x4 x5 x6 x7 x8 x9 w λr w'=>(∃l:List (Int×Int),ny 2 prV w' r l/\l.length=9)/\Ext w w':=by
 apply XH;refine gU λa w1 r1 e1 z1 f1=> ?_;refine Ld_s 8 x8 r1 ⟨by omega,?_⟩;refine Ld_i 0 x0 r1 (Ld_i 1 x1 r1 (Ld_i 2 x2 r1 (Ld_i 3 x3 r1 ⟨by omega,?_⟩)));refine Ld_i 4 x4 r1 (Ld_i 5 x5 r1 (Ld_i 6 x6 r1 (Ld_i 7 x7 r1 ?_)));refine gU λg w2 r2 e2 z2 f2=> ?_;have hb:=jc.row (n:=2) (f:=prV) (xs:=[(x0,2),(x1,2),(x2,4),(x3,4),(orI .i64 (LX .i64 (ο.wrap (Int.tdiv (ο.wrap (20+(x8.len:Int))) 4)) 4) x4,1),(x5,1),(x6,2),(0,2),(x7,2)]) r2;exact⟨⟨_,hb.sl Ι (by omega),rfl⟩,f1.trans f2⟩
theorem ae3 (x0 x1 x2 x3 x4 x5 x6 x7:Int) (x8 x9:gG) (w:θ) (h8:x8.len<=2^40) (h9:x9.len<=2^40):IE x0 x1 x2 x3 x4 x5 x6 x7 x8 x9 w λe w'=>(e=0->x8.len<=65535/\x9.len<=65535)/\Ext w w':=by
 apply ZV;refine gU λa w1 r1 e1 z1 f1=> ?_;intro J;have hJ:∀q,J q:=by
  intro q;simp only[J]
  cases q
  rotate_left
  ·exact⟨(λh=>by cases h),f1⟩
  rw[aaf];refine aaW r1 ?_;refine cmS2 (V_ _ _ _ _ _ _ _ _ _ _ w1) ?_;rintro r w2 ⟨⟨l,hl,R⟩,f2⟩;have U:r.len=9:=by rw[hl.len,R]
  rw[U];refine g_ (λst W=>∃i:Nat,i<=9/\st.1=(i:Int)/\Ext w2 W) (λst _=>(9 - st.1).toNat) ⟨0,by omega,rfl,Ext.refl _⟩ ?_;rintro⟨ii,⟨⟩⟩ W ⟨i,hi,N,hx⟩ next u
  simp only at N;subst N;by_cases O:(i:Int)<((9:Nat):Int)
  ·rw[aff O,abt];have I:=adP (show i<l.length by omega);generalize l[i]'(by omega)=c at I;show iK r 2 (i:Int) _;refine SN.SlN_ix (i:=(i:Int)) Ι (by omega) (hl.ext hx) (by omega) (by rw[abu];exact I) λa9 h9'=> ?_;refine iO (k:= .int .i64) (y:=c.1) (h9' 0 _ rfl) (iO (k:= .int .i64) (y:=c.2) (h9' 1 _ rfl) ?_);refine gU λk w3 r3 e3 z3 f3=> ?_;refine StN_f r3 λw4 r4 f4 z4=> ?_;have x4':Ext W w4:=f3.nw f4;refine Ld_i 0 c.1 r4 (Ld_i 1 c.2 r4 ?_);refine cmS0 (sQ _ _ w4) ?_;rintro q w5 ⟨_,hw⟩;subst hw
   cases q
   ·exact⟨(λh=>by cases h),((f1.trans f2).trans hx).trans x4'⟩
   ·rw[adt,aaf];have Y:ο.wrap ((i:Int)+1)=(i:Int)+1:=Α;show next (ο.wrap ((i:Int)+1),()) w5
    rw[Y];exact u _ _ ⟨i+1,by omega,by push_cast;rfl,hx.trans x4'⟩ (by simp only;omega)
  ·rw[adX O,aaf];have rW:=r1.ext (f2.trans hx);refine Ld_s 8 x8 rW (Ld_s 9 x9 rW ?_);have xW:=(f1.trans f2).trans hx;rw[Α (n:=20+(x8.len:Int)) (by omega) (by omega),Α];by_cases hb:20+(x8.len:Int)+(x9.len:Int)>65535
   ·rw[aff hb,abt];exact⟨(λh=>by cases h),xW⟩
   ·rw[adX hb,aaf];exact⟨λ_=>⟨by omega,by omega⟩,xW⟩
 clear_value J;refine Ld_s 8 x8 r1 ?_
 cases (decide ((x8.len:Int)>40))
 rotate_left
 ·exact hJ _
 rw[aaf];refine Ld_s 8 x8 r1 ⟨by omega,?_⟩
 cases ((Int.tmod (x8.len:Int) 4) !=0)
 rotate_left
 ·exact hJ _
 rw[aaf];refine Ld_i 4 x4 r1 ?_
 cases (decide (x4<0))
 rotate_left
 ·exact hJ _
 rw[aaf];exact Ld_i 4 x4 r1 (hJ _)
theorem ae2 (sa da x0 x1 x2 x3 x4 x5 x6 x7:Int) {x8 x9:gG} (h8:WA w x8) (h9:WA w x9):IC sa da x0 x1 x2 x3 x4 x5 x6 x7 x8 x9 w λ_ _ w'=>Ext w w':=by
 obtain⟨L8,g8,l8⟩:=h8;obtain⟨L9,g9,l9⟩:=h9;have k8:=g8.1;have k9:=g9.1;apply ZU;refine gU λa w1 r1 e1 z1 f1=> ?_;refine aaW r1 ?_;refine cmS1 (ae3 _ _ _ _ _ _ _ _ _ _ w1 (by omega) (by omega)) ?_;rintro ce w2 ⟨N,f2⟩;have x2:=f1.trans f2;by_cases hc:ce=0;rotate_left
 ·have:(ce !=0)=true:=by rw[amj];exact hc
  rw[this,abt];exact x2
 obtain⟨q8,q9⟩:=N hc;subst hc;rw[show ((0:Int) !=0)=false from rfl,aaf];refine aaW (r1.ext f2) ?_;refine cmS2 (V_ _ _ _ _ _ _ _ _ _ _ w2) ?_;rintro r w3 ⟨⟨l,hl,O⟩,f3⟩;have R:r.len=9:=by rw[hl.len,O]
 rw[R];have x3:=x2.trans f3;refine g_ (λst W=>∃(i:Nat) (m:List UInt8),i<=9/\st.2.1=(i:Int)/\Buf W st.1 (bytesV m)/\m.length<=4 * i/\Ext w3 W) (λst _=>(9 - st.2.1).toNat) ⟨0,[],by omega,rfl,Buf.nil,by simp,Ext.refl _⟩ ?_;rintro⟨s,ii,⟨⟩⟩ W ⟨i,m,hi,I,hb,hm,hx⟩ next h
 simp only at I hb;subst I;by_cases J:(i:Int)<((9:Nat):Int)
 ·rw[aff J,abt];have u:=adP (show i<l.length by omega);generalize l[i]'(by omega)=c at u;show iK r 2 (i:Int) _;refine SN.SlN_ix (i:=(i:Int)) Ι (by omega) (hl.ext hx) (by omega) (by rw[abu];exact u) λa9 h9'=> ?_;refine iO (k:= .int .i64) (y:=c.1) (h9' 0 _ rfl) (iO (k:= .int .i64) (y:=c.2) (h9' 1 _ rfl) ?_);refine gU λk w4 r4 e4 z4 f4=> ?_;refine StN_f r4 λw5 r5 f5 z5=> ?_;have x5':Ext W w5:=f4.nw f5;refine Ld_i 0 c.1 r5 (Ld_i 1 c.2 r5 ?_);refine cmS2 (Ah ((iH.iM hb).ext x5') (by omega) c.1 c.2) ?_;rintro s2 w6 ⟨b6,f6,_⟩;have hp4:=akc m c.1 c.2;have U:ο.wrap ((i:Int)+1)=(i:Int)+1:=Α;show next (s2,ο.wrap ((i:Int)+1),()) w6
  rw[U];exact h _ _ ⟨i+1,_,by omega,by push_cast;rfl,b6,by omega,(hx.trans x5').trans f6⟩ (by simp only;omega)
 ·rw[adX J,aaf];have rW:=r1.ext ((f2.trans f3).trans hx);have xW:=x3.trans hx;refine Ld_s 8 x8 rW (Ld_s 9 x9 rW ?_);refine gU λg w4 r4 e4 z4 f4=> ?_;have x4':=xW.trans f4;refine cmS2 (aea (aaQ r4 ((iH.iM hb).ext f4) (g8.ext x4') (g9.ext x4')) (by simp) (by
   intro p hp;simp only[agI,ajr,alf] at hp;rcases hp with rfl|rfl|rfl<;>simp only<;>omega)) ?_
  rintro o w5 ⟨b5,f5,_⟩;have Y:(MN [(s,m),(x8,L8),(x9,L9)]).length<=2^20:=by
   simp only[MN,alx,List.flatMap_nil,List.append_nil,ahP];omega
  generalize MN [(s,m),(x8,L8),(x9,L9)]=M at b5 Y;have hol:o.len=M.length:=by rw[b5.1,jW]
  refine cmS2 (KE sa da 6 _ w5) ?_;rintro ps w6 ⟨Z,f6⟩;have hpl:=DV sa da 6 (o.len:Int);refine gU λq w7 r7 e7 z7 f7=> ?_;have b7:=(b5.fr (f6 λ_=>False) (by simp)).fr (f7 λ_=>False) (by simp);refine cmS1 (UW (KD r7 (Z.ext f7) (iH.iM b7)) (by simp) (by simp;omega)) ?_;rintro sm w8 ⟨_,f8⟩;refine cmS5 (VT ((iH.iM b7).ext f8) (by omega) 16 sm 2) ?_;rintro r9 e9 w9 ⟨_,f9,_⟩;exact((((x4'.trans f5).trans f6).trans f7).trans f8).trans f9
theorem ae_ (x0 x1 x2:Int) {x3:gG} (h3:WA w x3) (n:Int) {K:Int->Int->Int->gG->b_} (hK:∀y0 y1 y2 y3 w',Ext w w'->WA w' y3->K y0 y1 y2 y3 w'):D_ x0 x1 x2 x3 n w K:=by
 obtain⟨L,g3,l3⟩:=h3;apply U6;refine gU λa w1 r1 e1 z1 f1=> ?_;refine gU λb w2 r2 e2 z2 f2=>⟨by omega,?_⟩;have h:=r1.ext f2;have za:=f1.size;have zb:=f2.size;refine Ld_i 2 x2 h ?_;refine iC (i:=2) h rfl (by simp) λw3 r3 f3' z3=> ?_;have f3:ig w2 w3 (·=a):=f3' _ rfl;simp only[ahm,af5] at r3;have x3':Ext w w3:=(f1.trans f2).nw f3;refine Ld_s 3 x3 r3 ?_;refine cmS2 (oG (g3.ext x3') (by omega)) ?_;rintro o w4 ⟨bo,_,f4,no⟩;have r4:=r3.ext f4;refine iC (i:=3) r4 rfl (by simp) λw5 r5 f5' z5=> ?_;have f5:ig w4 w5 (·=a):=f5' _ rfl;simp only[ahm,af5] at r5;refine Yx (K:=λx0 x1 x2 x3 W=>_) r5 ?_;have u:=(((r2.fr f3 (by omega)).ext f4).fr f5 (by omega));refine StN_f u λw6 r6 f6 z6=> ?_;have zo:=x3'.size;have ao:∀c,gG.at o c->c≠a/\c≠b:=λc hc=>by have:=no c hc;have:=r3.lt;have:=(r2.fr f3 (by omega)).lt;omega
 refine Yx (K:=K) r6 ?_;exact hK _ _ _ _ w6 (((x3'.trans f4).nw f5).nw f6) ⟨L,iH.iM ((bo.fr f5 λc hc=>(ao c hc).1).fr f6 λc hc=>(ao c hc).2),l3⟩
end
end Go.Proofs.AN
end
section
namespace Go.Proofs.AN
open Gp Gp.V4 Go.Proofs Go.Proofs.VN
open Gp.Bind (In64)
section
variable {w0 w w':θ}
abbrev DZ (a b:Int):List Value:=[Β a,Β b]
theorem ajR (v:Value) (a b:Int) (w:θ) (K:Value->b_):MK υ (.iface 303 v) "goosepond/ports.with" (DZ a b) [.one .any] w K=gI υ 351 (v::DZ a b) [.one .any] w K:=by kernel_rfl
theorem ajV (v:Value) (a b:Int) (w:θ) (K:Value->b_):MK υ (.iface 309 v) "goosepond/ports.with" (DZ a b) [.one .any] w K=gI υ 358 (v::DZ a b) [.one .any] w K:=by kernel_rfl
theorem ajT (v:Value) (a b:Int) (w:θ) (K:Value->b_):MK υ (.iface 311 v) "goosepond/ports.with" (DZ a b) [.one .any] w K=gI υ 366 (v::DZ a b) [.one .any] w K:=by kernel_rfl
theorem ajQ (v:Value) (a b:Int) (w:θ) (K:gG->Int->b_):MK υ (.iface 303 v) "goosepond/ports.build" (DZ a b) [.one .slice,.one ν] w K=gI υ 349 (v::DZ a b) [.one .slice,.one ν] w K:=by kernel_rfl
theorem ajU (v:Value) (a b:Int) (w:θ) (K:gG->Int->b_):MK υ (.iface 309 v) "goosepond/ports.build" (DZ a b) [.one .slice,.one ν] w K=gI υ 356 (v::DZ a b) [.one .slice,.one ν] w K:=by kernel_rfl
theorem ajS (v:Value) (a b:Int) (w:θ) (K:gG->Int->b_):MK υ (.iface 311 v) "goosepond/ports.build" (DZ a b) [.one .slice,.one ν] w K=gI υ 364 (v::DZ a b) [.one .slice,.one ν] w K:=by kernel_rfl
def Hg (t o:Int):Int:=if t= -1 then o else t
inductive ai7 (w:θ) (p:kZ) (a b:Int) (v:Value):Prop
 |dat (a0 a1:Int) (a2:Bool) (a3:gG) (hv:v= .iface 303 (.agg ⟨[Β a0,Β a1,.bool a2,Δ a3]⟩)) (hb:WA w a3) (hg:rC p->a0=Hg a (wordAt p.data 0:Int)/\a1=Hg b (wordAt p.data 2:Int)/\a2=false/\iH w a3 (p.data.drop 8))
 |seg (a0 a1 a2 a3 a4 a5 a6 a7:Int) (a8 a9:gG) (h:p.proto=6) (hv:v= .iface 309 (.agg ⟨mQ a0 a1 a2 a3 a4 a5 a6 a7 a8 a9⟩)) (hb8:WA w a8) (hb9:WA w a9)
 |que (a0 a1 a2:Int) (a3:gG) (h:p.proto=1) (hv:v= .iface 311 (.agg ⟨[Β a0,Β a1,Β a2,Δ a3]⟩)) (hb:WA w a3)
theorem WA.fr {s:gG} {S:Nat->Prop} (h:WA w s) (hf:ig w w' S) {b:Nat} {vs:List Value} (hr:Row w b vs) (hv:∀v∈vs,∀n,v≠.int .u8 n) (hS:∀y,S y->y=b):WA w' s:=by
 obtain⟨L,h1,h2⟩:=h;exact⟨L,h1.fr hf λad ha h0 e=>jo hr hv h1 ha h0 (hS _ e),h2⟩
theorem aep {p:kZ} {v:Value} (hf:Form w p v) (a b:Int) {K:Value->b_} (hK:∀v' w',Ext w w'->ai7 w' p a b v'->K v' w'):MK υ v "goosepond/ports.with" (DZ a b) [.one .any] w K:=by
 cases hf with
 |dat a0 a1 a2 a3 h hv i0 i1 hb hg=>
  subst hv;rw[ajR];apply GN;refine gU λg w1 r1 e1 z1 f1=> ?_;have x1:=f1.trans (Ext.drew w1);have r1d:=r1.drew;refine iF r1d rfl (iF r1d rfl ?_);refine cmS1 (Ph a a0 _) ?_;rintro r w2 ⟨rfl,hw⟩;subst hw;refine⟨by rw[gY,r1d.cell];rfl,?_⟩;refine cmS1 (Ph b a1 _) ?_;rintro r w2 ⟨rfl,hw⟩;subst hw;refine iC r1d rfl (by simp) λw3 r3 f3' z3=> ?_;refine iC r3 rfl (by simp) λw4 r4 f4' z4=> ?_;simp only[ahm,af5] at r4;have f4:=(f3' (·=g) rfl).trans (f4' (·=g) rfl) λ_ _ h=>h;have x4:=x1.new f4 λy hy e=>by omega
  refine iF r4 rfl (iF r4 rfl (iF r4 rfl (iF r4 rfl ?_)));refine hK _ w4 x4 (.dat _ _ _ _ rfl (hb.ext x4) λg=> ?_);obtain⟨g0,g1,g2,g3⟩:=hg g;exact⟨by rw[g0];rfl,by rw[g1];rfl,g2,g3.ext x4⟩
 |seg a0 a1 a2 a3 a4 a5 a6 a7 a8 a9 h hv i0 i1 hb8 hb9=>
  subst hv;rw[ajV];apply H8;refine gU λg w1 r1 e1 z1 f1=> ?_;have x1:=f1.trans (Ext.drew w1);have r1d:=r1.drew;refine iF r1d rfl (iF r1d rfl ?_);refine cmS1 (Ph a a0 _) ?_;rintro r w2 ⟨rfl,hw⟩;subst hw;refine⟨by rw[gY,r1d.cell];rfl,?_⟩;refine cmS1 (Ph b a1 _) ?_;rintro r w2 ⟨rfl,hw⟩;subst hw;refine iC r1d rfl (by simp) λw3 r3 f3' z3=> ?_;refine iC r3 rfl (by simp) λw4 r4 f4' z4=> ?_;simp only[ahm,af5] at r4;have f4:=(f3' (·=g) rfl).trans (f4' (·=g) rfl) λ_ _ h=>h;have x4:=x1.new f4 λy hy e=>by omega
  refine aaW r4 ?_;exact hK _ w4 x4 (.seg _ _ _ _ _ _ _ _ _ _ h rfl (hb8.ext x4) (hb9.ext x4))
 |que a0 a1 a2 a3 h hv hb=>
  subst hv;rw[ajT];apply LD;refine gU λg w1 r1 e1 z1 f1=> ?_;have x1:=f1.trans (Ext.drew w1);have r1d:=r1.drew;refine Yx (K:=λx0 x1 x2 x3 W=>_) r1d ?_;refine cmS1 (Ph a b _) ?_;rintro r w2 ⟨_,hw⟩;subst hw;refine⟨by rw[gY,r1d.cell];rfl,by rw[gY,r1d.cell];rfl,by rw[gY,r1d.cell];rfl,by rw[gY,r1d.cell];rfl,?_⟩;refine ae_ a0 a1 a2 (hb.ext x1) r λy0 y1 y2 y3 w3 f3 hy=> ?_;have u:=r1d.ext f3;refine StN_f u λw4 r4 f4 z4=> ?_;have x4:=(x1.trans f3).nw f4;refine Yx r4 ?_;exact hK _ w4 x4 (.que _ _ _ _ h rfl (hy.fr f4 u (by simp) λy hy=>hy))
theorem ab5 {p:kZ} {a b:Int} {v:Value} (hf:ai7 w p a b v) (sa da:Int) {K:gG->Int->b_}
  (hK:∀r e w',Ext w w'->(rC p->mW (Hg a (wordAt p.data 0:Int))->mW (Hg b (wordAt p.data 2:Int))->p.data.length<=60000->e=0/\iH w' r (NW sa da (Hg a (wordAt p.data 0:Int)) (Hg b (wordAt p.data 2:Int)) false (p.data.drop 8))/\∀x,gG.at r x->w.heap.size<=x)->K r e w'):
  MK υ v "goosepond/ports.build" (DZ sa da) [.one .slice,.one ν] w K:=by
 cases hf with
 |dat a0 a1 a2 a3 hv hb hg=>
  subst hv;rw[ajQ];apply E8;refine gU λg w1 r1 e1 z1 f1=> ?_;refine iF r1 rfl (iF r1 rfl (iF r1 rfl (iF r1 rfl ?_)));obtain⟨L,h1,h2⟩:=hb;refine cmS5 (ae4 sa da a0 a1 a2 (h1.ext f1) h2) ?_;rintro r e w2 ⟨f2,hu⟩;refine hK r e w2 (f1.trans f2) λg k0 k1 hl=> ?_;obtain⟨rfl,rfl,rfl,g3⟩:=hg g;have hL:=h1.unique g3
  grind
 |seg a0 a1 a2 a3 a4 a5 a6 a7 a8 a9 h hv hb8 hb9=>
  subst hv;rw[ajU];apply GR;refine gU λg w1 r1 e1 z1 f1=> ?_;refine aaW r1 ?_;refine cmS5 (ae2 sa da _ _ _ _ _ _ _ _ (hb8.ext f1) (hb9.ext f1)) ?_;intro r e w2 f2;exact hK r e w2 (f1.trans f2) λg=>by have:=g.1;omega
 |que a0 a1 a2 a3 h hv hb=>
  subst hv;rw[ajS];apply Jt;refine gU λg w1 r1 e1 z1 f1=> ?_;refine Yx (K:=λx0 x1 x2 x3 W=>_) r1 ?_;obtain⟨L,h1,h2⟩:=hb;refine cmS5 (Yk ⟨a0,a1,a2,L⟩ (h1.ext f1)) ?_;rintro r e w2 ⟨_,_,f2,_,_⟩;exact hK r e w2 (f1.trans f2) λg=>by have:=g.1;omega
end
end Go.Proofs.AN
end
