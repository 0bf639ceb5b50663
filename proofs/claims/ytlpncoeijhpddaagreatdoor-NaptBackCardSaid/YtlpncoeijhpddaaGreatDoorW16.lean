import Derived.Test.YtlpncoeijhpddaaGreatDoorW15
import Derived.Test.YtlpncoeijhpddaaGreatDoorW11
import Derived.Test.YtlpncoeijhpddaaGreatDoorW5
set_option maxRecDepth 100000
set_option maxHeartbeats 2000000
section
namespace Go.Proofs.RN
open Gp Gp.V4 Go.Proofs.VN
theorem MF (a0 a1 a2 a3 a4 a5 a6:Int) (a7 a8:Bool) (a9 u:gG) (h:a9.len<=2^60) (w:θ):AB a0 a1 a2 a3 a4 a5 a6 a7 a8 a9 u w λr w'=>r=20+(a9.len:Int)/\Ext w w':=by
 apply Xz;refine gU λa w1 r1 _ _ f1=> ?_;simp only[sx,afe,afh,r1.cell];exact⟨by rw[Α],f1⟩
theorem EG (a0 a1 a2 a3 a4 a5 a6:Int) (a7 a8:Bool) (a9 u:gG) (h:a9.len<=2^60) (h':u.len<=2^60) (w:θ):xg a0 a1 a2 a3 a4 a5 a6 a7 a8 a9 u w λr w'=>r=20+(a9.len:Int)+(u.len:Int)/\Ext w w':=by
 apply XA;refine gU λa w1 r1 _ _ f1=> ?_;simp only[sx,afe,afh,r1.drew.cell];refine cmS1 (MF _ _ _ _ _ _ _ _ _ _ _ h _) ?_;rintro r w2 ⟨rfl,f2⟩;refine⟨by rw[(r1.drew.ext f2).cell];rfl,?_,(f1.trans (Ext.drew _)).trans f2⟩;rw[Α]
theorem byte_at {w:θ} {s:gG} {l:List UInt8} (h:iH w s l) {i:Nat} (hi:i<l.length) {K:Addr->Prop} (hK:∀a,w.cell? (a)=some (.int .u8 (l[i].toNat:Int))->(a.block<w.heap.size)->K a):iK s 1 (i:Int) K:=by
 have hsl:=h.1;obtain⟨a,ha,hc⟩:=h.at_ (adP hi);exact⟨a,ha,by omega,by omega,hK _ (by simp_all) (by rw[abu,aiC];exact cell_lt hc)⟩
theorem Us {l:List UInt8}:(field l).opts.length<=l.length/\(field l).data.length<=l.length:=by
 simp only[field,al2,ajH];omega
theorem SV (a b:Int):(a==b)=decide (a=b):=rfl
theorem Yw {w:θ} (p:kZ) {o d:gG} (ho:o.len=p.opts.length) (hd:d.len=p.data.length) (h1:p.opts.length<=2^46) (h2:p.data.length<=2^46):
  zi p.tos p.id p.off p.ttl p.proto p.src p.dst p.df p.mf o d w λr w'=>r=p.check/\Ext w w':=by
 apply Vp;refine gU λa w1 r1 _ _ f1=> ?_;intro J4;have hJ:∀b,b=decide (jm p.tos 1/\jm p.ttl 1/\jm p.proto 1/\jm p.id 2)->J4 b w1:=by
  rintro b hb;simp -zeta only[J4];intro J7;have h7:∀c,c=decide ((kL p.src/\kL p.dst)/\(0<=p.off/\p.off<=65528/\Int.tmod p.off 8=0))->J7 c w1:=by
   rintro c hc;simp -zeta only[J7];intro J;have O:∀e,e=decide (p.opts.length<=40/\p.opts.length % 4=0)->J e:=by
    rintro e he;simp -zeta only[J];intro N;have I:∀g,g=(!decide p.fine)->N g:=by
     rintro g rfl;simp only[sx,N,afe,afh,r1.cell];by_cases hf:p.fine
     ·simp only[hf,acI,adt,aaf];refine cmS1 (EG _ _ _ _ _ _ _ _ _ _ _ (show o.len<=2^60 by omega) (show d.len<=2^60 by omega) _) ?_;rintro _ w8 ⟨rfl,f8⟩;have r9:=r1.ext f8;simp only[afe,afh,gJ,h_,gK,r9.cell];rw[Α];by_cases hs:20+p.opts.length+p.data.length<=65535
      ·have:¬(20+(o.len:Int)+(d.len:Int)>65535):=by omega
       simp only[this,acR,aaf];by_cases hs2:p.off<=65535 - (p.data.length:Int)
       ·have:¬(p.off>65535 - (d.len:Int)):=by omega
        simp only[this,acR,aaf];exact⟨by simp[kZ.check,hf,kZ.short,hs,hs2],f1.trans f8⟩
       ·have:(p.off>65535 - (d.len:Int)):=by omega
        simp only[this,acI,abt];exact⟨by simp[kZ.check,hf,kZ.short,hs2],f1.trans f8⟩
      ·have:(20+(o.len:Int)+(d.len:Int)>65535):=by omega
       simp only[this,acI,abt];exact⟨by simp[kZ.check,hf,kZ.short,hs],f1.trans f8⟩
     ·simp only[hf,acR,afk,abt];exact⟨by simp[kZ.check,hf],f1⟩
    cases b with
    |false=>
     simp only[afk,abt];exact I _ (by rw[adX λh:p.fine=>(amC hb.symm) h.1];rfl)
    |true=>
    cases c with
    |false=>
     simp only[adt,afk,aaf,abt];exact I _ (by rw[adX λh:p.fine=>(amC hc.symm) ⟨h.2.1,h.2.2.1.1,h.2.2.1.2.1,h.2.2.1.2.2.1⟩];rfl)
    |true=>
    cases e with
    |false=>
     simp only[adt,afk,aaf,abt];exact I _ (by rw[adX λh:p.fine=>(amC he.symm) h.2.2.2];rfl)
    |true=>
    have hb':=amV hb.symm;have hc':=amV hc.symm;have he':=amV he.symm;simp -zeta only[sx,adt,afe,afh,r1.cell]
    cases hm:p.mf with
    |false=>
     simp only[aaf];have u:p.fine:=⟨hb',hc'.1,⟨hc'.2.1,hc'.2.2.1,hc'.2.2.2,λh=>by grind⟩,he'⟩;exact I _ (by grind)
    |true=>
     simp only[abt];refine⟨by omega,I _ ?_⟩;rw[hd,al0 (by omega)];by_cases hx:p.data.length % 8=0
     ·have u:p.fine:=⟨hb',hc'.1,⟨hc'.2.1,hc'.2.2.1,hc'.2.2.2,λ_=>hx⟩,he'⟩
      grind
     ·have u:¬p.fine:=λh=>hx (h.2.2.1.2.2.2 hm)
      grind
   simp -zeta only[sx,afe,afh,r1.cell];by_cases hx:p.opts.length<=40
   ·have:((o.len:Int)<=40):=by omega
    simp -zeta only[this,acI,abt]
    grind
   ·have:¬((o.len:Int)<=40):=by omega
    simp -zeta only[this,acR,aaf];exact O _ (adX λh=>hx h.1).symm
  simp -zeta only[sx,afe,afh,r1.cell];refine cmS0 (Rf _ _) ?_;rintro _ W ⟨rfl,hW⟩;subst hW;by_cases c1:kL p.src
  ·simp -zeta only[c1,acI,abt,afe,afh,gJ,gK,r1.cell];refine cmS0 (Rf _ _) ?_;rintro _ W ⟨rfl,hW⟩;subst hW;by_cases c2:kL p.dst
   ·simp -zeta only[c2,acI,abt,afe,afh,gJ,gK,r1.cell];by_cases c3:p.off>=0
    ·simp -zeta only[c3,acI,abt];by_cases c4:p.off<=65528
     ·simp -zeta only[c4,acI,abt]
      simp_all;omega
     ·simp -zeta only[c4,acR,aaf];exact h7 _ (adX λh=>c4 h.2.2.1).symm
    ·simp -zeta only[c3,acR,aaf];exact h7 _ (adX λh=>c3 h.2.1).symm
   ·simp -zeta only[c2,acR,aaf];exact h7 _ (adX λh=>c2 h.1.2).symm
  ·simp -zeta only[c1,acR,aaf];exact h7 _ (adX λh=>c1 h.1.1).symm
 simp -zeta only[sx,afe,r1.cell];refine cmS0 (CO _ _ _) ?_;rintro _ W ⟨rfl,hW⟩;subst hW;by_cases c1:jm p.tos 1
 ·simp -zeta only[c1,acI,abt,afe,afh,gJ,gK,r1.cell];refine cmS0 (CO _ _ _) ?_;rintro _ W ⟨rfl,hW⟩;subst hW;by_cases c2:jm p.ttl 1
  ·simp -zeta only[c2,acI,abt,afe,afh,gJ,gK,r1.cell];refine cmS0 (CO _ _ _) ?_;rintro _ W ⟨rfl,hW⟩;subst hW;by_cases c3:jm p.proto 1
   ·simp -zeta only[c3,acI,abt,afe,afh,gJ,gK,r1.cell];refine cmS0 (CO _ _ _) ?_;rintro _ W ⟨rfl,hW⟩;subst hW;exact hJ _ (amJ.2 ⟨λh=>⟨c1,c2,c3,h⟩,λh=>h.2.2.2⟩)
   ·simp -zeta only[c3,acR,aaf];exact hJ _ (adX λh=>c3 h.2.2.1).symm
  ·simp -zeta only[c2,acR,aaf];exact hJ _ (adX λh=>c2 h.2.1).symm
 ·simp -zeta only[c1,acR,aaf];exact hJ _ (adX λh=>c1 h.1).symm
theorem SC (n:Nat):kC 1 n=[UInt8.ofNat n]:=by simp[kC]
theorem Wp {n:Nat}:IntKind.u8.wrap (n:Int)=((UInt8.ofNat n).toNat:Int):=by
 rfl
theorem aa1 {w:θ} {p:kZ} (hc:p.check=0) {o d:gG} (ho:iH w o p.opts) (_:d.len=p.data.length) {z s:Nat} (hz:z=20+p.opts.length+p.data.length) (hs:s<65536):
  AL p.tos p.id p.off p.ttl p.proto p.src p.dst p.df p.mf o d (z:Int) (s:Int) w λr w'=>Buf w' r (bytesV (p.head s))/\Ext w w'/\∀b,gG.at r b->w.heap.size<=b:=by
 apply XB;obtain⟨hf,O⟩:=pG hc;have hbl:=ac3 hf;obtain⟨⟨g1,g2,g3,g4⟩,⟨q1,q2⟩,⟨o1,o2,o3,o4⟩,p1,p2⟩:=id hf;have g1':=QW g1;have g2':=QW g2;have g3':=QW g3;have g4':=ajb g4;have hsh1:=O.1;refine gU λa w1 r1 e1 _ f1=> ?_;simp -zeta only[sx,afe,afh,r1.cell];refine⟨by omega,?_⟩;intro J7;have main:∀j8:Int,(bif p.mf then ο.wrap (j8+8192) else j8)=(p.bits:Int)->J7 j8:=by
  intro j8 hj8;simp -zeta only[J7];intro J9;have m9:∀N,N=(p.bits:Int)->J9 N:=by
   rintro _ rfl;have r1d:=r1.drew;simp only[J9,afe,afh,gJ,h_,gK,jr,r1d.cell];refine cmS1 (MF _ _ _ _ _ _ _ _ _ _ _ (show o.len<=2^60 by have:=ho.1;omega) _) ?_;rintro _ w2 ⟨rfl,f2⟩;have r2:=r1d.ext f2;simp only[afp,afe,r2.cell];refine⟨by omega,gU λb w3 r3 e3 _ f3=> ?_⟩;have ol:=ho.1;rw[amK (by omega),Α (n:=(20+(o.len:Int)) / 4) (by omega) (by omega),Α] at r3;have R:(64+(20+(o.len:Int)) / 4)=((64+(20+p.opts.length) / 4:Nat):Int):=by omega
   obtain⟨t,ht⟩:∃t:Nat,p.tos=(t:Int):=⟨p.tos.toNat,by omega⟩;rw[R,Wp,ht,Wp] at r3;have b3:Buf w3 ⟨some ⟨b,0,none⟩,2,2⟩ (bytesV (kC 1 (64+(20+p.opts.length) / 4)++kC 1 p.tos.toNat)):=by
    rw[SC,SC,ht];exact iH.row (l:=[UInt8.ofNat (64+(20+p.opts.length) / 4),UInt8.ofNat t]) (by simpa [bytesV] using r3)
   have hdr:w1.drew.heap.size=w1.heap.size:=rfl;have s2:=f1.size;have r3a:=(r2.ext f3).drew;simp only[afe,afh,gJ,gK,r3a.cell];have b3d:=(iH.iM b3).ext (Ext.drew _);have put:∀{W:θ} {t:gG} {l:List UInt8} (n:Int) (k:Nat),iH W t l->l.length<=100->jm n (k:Int)->n<2^62->jy t n (k:Int) W λr w'=>Buf w' r (bytesV (l++kC k n.toNat))/\Ext W w'/\(∀b,gG.at r b->W.heap.size<=b):=by
    intro W t l n k h1 h2 h3 h4;refine cmS2 (KF h1 (by omega) n (k:Int) h4) ?_;rintro r w' ⟨h5,h6,h7⟩;refine⟨?_,h6,h7⟩;simpa [mP,h3] using h5
   have m2:jm ((z:Nat):Int) (2:Nat):=⟨⟨by omega,by omega⟩,by omega,by simp;omega⟩;have m3:jm ((p.bits:Nat):Int) (2:Nat):=⟨⟨by omega,by omega⟩,by omega,by simp;omega⟩;have m4:jm ((s:Nat):Int) (2:Nat):=⟨⟨by omega,by omega⟩,by omega,by simp;omega⟩;have m5:jm p.src (4:Nat):=⟨⟨by omega,by omega⟩,q1.1,by have:=q1.2;simp;omega⟩;have m6:jm p.dst (4:Nat):=⟨⟨by omega,by omega⟩,q2.1,by have:=q2.2;simp;omega⟩;have q1':=q1.2;have q2':=q2.2;refine cmS2 (put (z:Int) 2 b3d (by simp[jf]) m2 (by omega)) ?_;rintro t4 w4 ⟨b4,f4,_⟩;simp only[afp,afe,afh,(r3a.ext f4).cell];refine cmS2 (put p.id 2 (iH.iM b4) (by simp[jf]) g4 (by omega)) ?_;rintro t5 w5 ⟨b5,f5,_⟩;refine cmS2 (put (p.bits:Int) 2 (iH.iM b5) (by simp[jf]) m3 (by omega)) ?_;rintro t6 w6 ⟨b6,f6,n6⟩;have r6:=((r3a.ext f4).ext f5).ext f6;simp only[afe,afh,gJ,gK,r6.cell];refine gU λc w7 r7 e7 _ f7=> ?_;obtain⟨u,hu⟩:∃u:Nat,p.ttl=(u:Int):=⟨p.ttl.toNat,by omega⟩;obtain⟨v,hv⟩:∃v:Nat,p.proto=(v:Int):=⟨p.proto.toNat,by omega⟩;rw[hu,hv,Wp,Wp] at r7;have b7:iH w7 ⟨some ⟨c,0,none⟩,2,2⟩ (kC 1 p.ttl.toNat++kC 1 p.proto.toNat):=by
    rw[SC,SC,hu,hv];exact iH.iM (iH.row (l:=[UInt8.ofNat u,UInt8.ofNat v]) (by simpa [bytesV] using r7))
   refine jK (b6.ext f7) b7 (by simp[jf]) λt8 w8 b8 f8 n8 _=> ?_;have s3:=f4.size;have s5:=f5.size;have s6:=f7.size;have hdr3:w3.drew.heap.size=w3.heap.size:=rfl;have x3:=((f1.trans (Ext.drew _)).trans f2).trans (f3.trans (Ext.drew _));have x7:=((f4.trans f5).trans f6).trans f7;have x8:=x7.new f8 λy hy h=>by grind
   refine cmS2 (put (s:Int) 2 (iH.iM b8) (by simp[jf]) m4 (by omega)) ?_;rintro t9 w9 ⟨b9,f9,_⟩;have r9:=(r3a.ext (x8.trans f9)).drew;simp only[afe,afh,gJ,gK,r9.cell];refine cmS2 (put p.src 4 ((iH.iM b9).ext (Ext.drew _)) (by simp[jf]) m5 (by omega)) ?_;rintro t10 w10 ⟨U,f10,_⟩;simp only[afp,afe,afh,(r9.ext f10).cell];refine cmS2 (put p.dst 4 (iH.iM U) (by simp[jf]) m6 (by omega)) ?_;rintro t11 w11 ⟨Y,f11,n11⟩;have Z:=(r9.ext f10).ext f11;simp only[afe,afh,gJ,h_,Z.cell];have J:=(x3.trans x8).trans ((f9.trans (Ext.drew _)).trans (f10.trans f11));refine jK Y (ho.ext J) (by simp[jf];omega) λt12 w12 aa f12 n12 _=> ?_;have s11:=J.size;have s10:=((x3.trans x8).trans ((f9.trans (Ext.drew _)).trans f10)).size;refine⟨?_,J.new f12 λy hy h=>by grind,λy hy=> ?_⟩
   ·have:p.head s=kC 1 (64+(20+p.opts.length) / 4)++kC 1 p.tos.toNat++kC 2 ((z:Int)).toNat++kC 2 p.id.toNat++kC 2 ((p.bits:Int)).toNat++(kC 1 p.ttl.toNat++kC 1 p.proto.toNat)++kC 2 ((s:Int)).toNat++kC 4 p.src.toNat++kC 4 p.dst.toNat++p.opts:=by
     rw[abu,abu,abu,hz];rfl
    rw[this];exact aa
   grind
  cases hm:p.mf with
  |false=>rw[hm] at hj8;exact m9 _ hj8
  |true=>rw[hm] at hj8;exact m9 _ hj8
 have e0:Int.tdiv p.off 8=((p.off.toNat / 8:Nat):Int):=by grind
 simp -zeta only[e0];have hq:p.off.toNat / 8<8192:=by omega
 rw[Α (n:=((p.off.toNat / 8:Nat):Int)) (by omega) (by omega)]
 cases I:p.df with
 |false=>
  refine main _ ?_
  cases hm:p.mf with
  |false=>simp[kZ.bits,I,hm]
  |true=>simp only[abt];rw[Α];simp[kZ.bits,I,hm]
 |true=>
  refine main _ ?_;rw[Α (n:=_+16384) (by omega) (by omega)]
  cases hm:p.mf with
  |false=>simp[kZ.bits,I,hm]
  |true=>simp only[abt];rw[Α];simp[kZ.bits,I,hm]
theorem Yv {w:θ} (p:kZ) {o d:gG} (ho:iH w o p.opts) (hd:iH w d p.data) (h1:p.opts.length<=2^46) (h2:p.data.length<=2^46):
  yZ p.tos p.id p.off p.ttl p.proto p.src p.dst p.df p.mf o d w λr e w'=>ajB p w w' r e:=by
 apply Vo;refine gU λa w1 r1 e1 z1 f1=> ?_;simp -zeta only[sx,iL,iT,afe,afh,r1.cell];refine cmS1 (Yw p ho.1 hd.1 h1 h2) ?_;rintro _ w2 ⟨rfl,f2⟩;have r2:=(r1.ext f2).drew;by_cases hc:p.check=0
 ·have hc':(p.check !=0)=false:=by rw[hc];rfl
  simp -zeta only[aaf,afe,afh,gJ,h_,gK,jr,r2.cell,hc'];have hsm:=(pG hc).2.1;have ol:=ho.1;have dl:=hd.1;have ez:(20+(o.len:Int)+(d.len:Int))=((20+p.opts.length+p.data.length:Nat):Int):=by omega
  refine cmS1 (EG _ _ _ _ _ _ _ _ _ _ _ (show o.len<=2^60 by omega) (show d.len<=2^60 by omega) _) ?_;rintro _ w3 ⟨rfl,f3⟩;have r3:=r2.ext f3;simp -zeta only[afp,afe,afh,r3.cell,ez];have x3:=((f1.trans f2).trans (Ext.drew _)).trans f3;refine cmS2 (aa1 (s:=0) hc (ho.ext x3) hd.1 rfl (by omega)) ?_;rintro t4 w4 ⟨b4,f4,n4⟩;refine gU λc w5 r5 e5 _ f5=> ?_;have l6:=I9 p 0;refine cmS1 (ag6 (Fe r5 (iH.iM (b4.ext f5))) (by simp) (by grind)) ?_;rintro _ w6 ⟨rfl,f6⟩;rw[Px];have e8:65535 - fold (tot (p.head 0))=p.sum:=rfl;rw[e8];have u:p.sum<65536:=by omega
  have x6:=((f4.trans f5).trans f6).trans (Ext.drew _);have r6:=r3.ext x6;simp -zeta only[afe,afh,gJ,h_,gK,jr,r6.cell];refine cmS1 (EG _ _ _ _ _ _ _ _ _ _ _ (show o.len<=2^60 by omega) (show d.len<=2^60 by omega) _) ?_;rintro _ w7 ⟨rfl,f7⟩;have r7:=r6.ext f7;simp -zeta only[afp,afe,afh,r7.cell,ez];have x7:=x3.trans (x6.trans f7);refine cmS2 (aa1 hc (ho.ext x7) hd.1 rfl u) ?_;rintro t8 w8 ⟨b8,f8,n8⟩;have r8:=r7.ext f8;simp -zeta only[afp,afe,afh,r8.cell];have l8:(p.head p.sum).length=20+p.opts.length:=I9 p _;have x8:=x7.trans f8;have z7:=x7.size;have z8:=x8.size;refine jK b8 (hd.ext x8) (by omega) λs9 w9 b9 f9 n9 _=> ?_;refine⟨hc.symm,λh=>absurd hc h,λ_=>b9,x8.new f9 λy hy h=>by grind,λy hy=> ?_⟩
  grind
 ·have hc':(p.check !=0)=true:=by simp_all
  simp -zeta only[abt,hc'];exact⟨rfl,λ_=>rfl,λh=>absurd h hc,f1.trans f2,by rintro b ⟨o,h⟩;cases h⟩
theorem Tc {w:θ} {s:gG} {l:List UInt8} (h:iH w s l) (hl:l.length<=2^46) {i k:Int} (hk:1<=k/\k<=4) (hi:0<=i/\i+k<=l.length):jU s i k w λr w'=>r=(num l i.toNat k.toNat:Int)/\Ext w w':=by
 obtain⟨m,rfl⟩:∃m:Nat,k=(m:Int):=⟨k.toNat,by omega⟩;obtain⟨o,rfl⟩:∃o:Nat,i=(o:Int):=⟨i.toNat,by omega⟩;apply ZP;refine cmS8 (aiE h (by omega) _ _) ?_;rintro n e w' ⟨hw,hr⟩;subst hw;exact⟨adp (by omega) (by omega) hr,Ext.refl _⟩
theorem Zx {l:List UInt8} {i:Nat} (h:i<l.length):num l i 1=l[i].toNat:=by
 unfold num;rw[amc h,anb];simp[oK]
theorem VQ {w:θ} {s t:gG} {l m:List UInt8} (hs:iH w s l) (ht:iH w t m) (hl:l.length<=2^46) (hm:m.length<=2^46) (h1:20<=hlen l) (h2:hlen l<=l.length) (hm2:m=(l.take (num l 2 2)).drop (hlen l)):
  BL s t w λt i o l' p s' d df mf op da w'=>abz w' (field l) t i o l' p s' d df mf op da/\YH w op/\YH w da/\Ext w w':=by
 apply R_;have hsl:=hs.1;refine gU λb w1 r1 e1 z1 f1=> ?_;refine byte_at (i:=0) (hs.ext f1) (by omega) λa0 hc0 _=> ?_;simp -zeta only[sx,Cw,hc0];refine⟨by omega,?_⟩;refine AQ (Tc (hs.ext f1) hl (by omega) (by omega)) ?_;rintro _ w3 ⟨rfl,f3⟩;have x3:=f1.trans f3;have rb3:=r1.ext f3;have hs3:=hs.ext x3;have hsz3:=x3.size;have n6:=Gv l 6;have hx0:=l[0].toNat_lt;have N:ο.wrap ((ο.wrap (Int.tmod (l[0].toNat:Int) 16)) * 4)=(hlen l:Int):=by
  rw[SL (show 0<l.length by omega),al0 (by omega),Α (n:=(l[0].toNat:Int) % 16) (by omega) (by omega),Α];omega
 rw[show (Int.toNat 6)=6 from rfl,show (Int.toNat 2)=2 from rfl];intro J;have hJ:∀c W,Row W c [Β (num l 1 1:Int),Β (num l 4 2:Int),Β ((num l 6 2 % 8192 * 8:Nat):Int),Β (num l 8 1:Int),Β (num l 9 1:Int),Β (num l 12 4:Int),Β (num l 16 4:Int),.bool false,.bool false,.slice none 0 0,.slice none 0 0]->Ext w3 W->w3.heap.size<=c->J ⟨c,0,none⟩ W:=by
  intro c W rc hx hc;simp only[sx,J];refine⟨by omega,by omega,by omega,by omega,?_⟩;refine iC rc rfl (by simp) λw4 r4 f4 z4=>iC r4 rfl (by simp) λw5 r5 f5 z5=> ?_;have x5:=hx.new ((f4 (·=c) rfl).trans (f5 (·=c) rfl) λ_ _ e=>e) λy hy e=>by omega
  simp only[af5,ahm] at r5;have hs5:=hs3.ext x5;have hsz5:=x5.size;rw[N];refine mY hs5 (by omega) (by omega) (by omega) λs7 hs7 _=> ?_;refine jK (l:=[]) Buf.nil hs7 (by simp;omega) λo8 w8 b8 f8 n8 _=> ?_;have y8:=f8.new λy hy ⟨o,h⟩=>by cases h
  have n8':∀y,gG.at o8 y->w5.heap.size<=y:=λy hy=>by
   rcases n8 y hy with ⟨o,h⟩|h
   ·cases h
   ·exact h
  have x8:=x5.trans y8;refine jK (l:=[]) Buf.nil ((ht.ext x3).ext x8) (by simp;omega) λd9 w9 b9 f9 n9 _=> ?_;have y9:=f9.new λy hy ⟨o,h⟩=>by cases h
  have n9':∀y,gG.at d9 y->w8.heap.size<=y:=λy hy=>by
   rcases n9 y hy with ⟨o,h⟩|h
   ·cases h
   ·exact h
  have hcl:=r5.lt;have z8:=y8.size;have z9:=y9.size;refine iC ((r5.ext y8).ext y9) rfl (by simp) λw10 O f10 z10=>iC O rfl (by simp) λw11 u f11 z11=> ?_;have f1011:=(f10 (·=c) rfl).trans (f11 (·=c) rfl) λ_ _ e=>e;have I:=(x8.trans y9).new f1011 λy hy e=>by omega
  simp only[af5,ahm] at u;simp only[afe,afh,gJ,h_,gK,jr,u.cell];have rb11:=rb3.ext I;have hb3:=rb3.lt;refine gZ rb11 rfl rfl λw13 R f13 z13=> ?_;simp only[afe,afh,gJ,h_,gK,jr,R.cell];have bit:∀k:Nat,0<k->k<=16384->(Int.tmod (ο.wrap (Int.tdiv (num l 6 2:Int) (k:Int))) 2==1)=(num l 6 2 / k % 2==1):=by
   intro k hk hk2;rw[amK (by omega),<- amY];have:=Nat.div_le_self (num l 6 2) k;generalize num l 6 2 / k=q at this;rw[Α,al0 (by omega),SV]
   grind
  refine⟨⟨rfl,rfl,rfl,rfl,rfl,rfl,rfl,bit 16384 (by omega) (by omega),bit 8192 (by omega) (by omega),?_,?_⟩,λx hx=>by have:=n8' _ (b8.at_eq hx);omega,λx hx=>by have:=n9' _ (b9.at_eq hx);omega,?_⟩
  ·have b8':=((b8.ext y9).fr f1011 λy hy e=>by grind).fr (f13 (·=b) rfl) λy hy e=>by
    grind
   rw[amd,show Int.toNat (hlen l:Int)=hlen l from rfl,show Int.toNat 20=20 from rfl] at b8';exact iH.iM b8'
  ·have b9':=(b9.fr f1011 λy hy e=>by grind).fr (f13 (·=b) rfl) λy hy e=>by
    grind
   rw[amd,hm2] at b9';exact iH.iM b9'
  ·exact(x3.trans I).new (f13 (·=b) rfl) λy hy e=>by omega
 have hs3d:=hs3.ext (Ext.drew w3);refine byte_at (i:=1) hs3d (by omega) λa1 hc1 _=> ?_;simp -zeta only[gJ,gK,hc1];refine⟨by omega,byte_at (i:=8) hs3d (by omega) λa8 hc8 _=> ?_⟩;simp -zeta only[gJ,gK,hc8];refine byte_at (i:=9) hs3d (by omega) λa9 hc9 _=> ?_;simp -zeta only[gJ,gK,hc9];have hx:=Ext.refl w3.drew;have l2:20<=l.length:=by omega
 have hdr:w3.drew.heap.size=w3.heap.size:=rfl;have t1:=l[1].toNat_lt;have t8:=l[8].toNat_lt;have t9:=l[9].toNat_lt;have v1:ο.wrap (l[1].toNat:Int)=(num l 1 1:Int):=by rw[Α,Zx (by omega)]
 have v8:ο.wrap (l[8].toNat:Int)=(num l 8 1:Int):=by rw[Α,Zx (by omega)]
 have v9:ο.wrap (l[9].toNat:Int)=(num l 9 1:Int):=by rw[Α,Zx (by omega)]
 have v6:ο.wrap ((Int.tmod (num l 6 2:Int) 8192) * 8)=((num l 6 2 % 8192 * 8:Nat):Int):=by
  rw[al0 (by omega),Α];omega
 simp -zeta only[v1,v8,v9,v6]
 repeat' (first
  |(with_reducible refine And.intro ?_ ?_)
  |((with_reducible refine AQ (Tc (hs3d.ext hx) hl (by omega) (by omega)) ?_);rintro _ W ⟨rfl,f⟩;replace hx:=hx.trans f;(try replace rc:=rc.ext f);(try simp -zeta only[afp,kS hc1 hx,kS hc8 hx,kS hc9 hx]))
  |((with_reducible refine gU λc W rc ec _ f=> ?_);have hc:=akK hx.size (Nat.le_of_eq ec.symm);clear ec;replace hx:=hx.trans f;(try simp -zeta only[afp,kS hc1 hx,kS hc8 hx,kS hc9 hx]))
  |((with_reducible refine gZ rc rfl rfl λW rc2 fc zc=> ?_);exact hJ _ W rc2 ((Ext.drew w3).trans (hx.new (fc (·=_) rfl) λy hy e=>by omega)) (by omega)))
theorem adY {w:θ} {l:List UInt8} {q:Bool} {e:Int} (h:rO l q=e) (he:e≠0):abz w (V4.read l q) 0 0 0 0 0 0 0 false false ⟨none,0,0⟩ ⟨none,0,0⟩:=by
 unfold V4.read;rw[h,acZ he];exact YF _
theorem ϙ (w:θ):YH w ⟨none,0,0⟩:=λ_ h=>by cases h
set_option maxRecDepth 100000 in
theorem ag9 {w:θ} {s:gG} {l:List UInt8} (hs:iH w s l) (hl:l.length<=2^40) (q:Bool):
  Gh s q w λt i o l' p s' d df mf op da e w'=>e=rO l q/\abz w' (V4.read l q) t i o l' p s' d df mf op da/\YH w op/\YH w da/\Ext w w':=by
 apply XC;have hsl:=hs.1;refine gU λa w1 r1 e1 z1 f1=> ?_;have fin:∀(e:Int) W,Ext w1 W->rO l q=e->e≠0->iE [(Β 0),(Β 0),(Β 0),(Β 0),(Β 0),(Β 0),(Β 0),(Value.bool false),(Value.bool false),(Value.slice none 0 0),(Value.slice none 0 0)] W ⟨a,0,none⟩ 0 λu=>
   Ϗ ν (u.cell? ⟨a,0,none⟩) λy1=>Ϗ ν (u.cell? ⟨a,1,none⟩) λy2=>Ϗ ν (u.cell? ⟨a,2,none⟩) λy3=>Ϗ ν (u.cell? ⟨a,3,none⟩) λy4=>Ϗ ν (u.cell? ⟨a,4,none⟩) λy5=>
   Ϗ ν (u.cell? ⟨a,5,none⟩) λy6=>Ϗ ν (u.cell? ⟨a,6,none⟩) λy7=>Ϗ .bool (u.cell? ⟨a,7,none⟩) λy8=>Ϗ .bool (u.cell? ⟨a,8,none⟩) λy9=>Ϗ .slice (u.cell? ⟨a,9,none⟩) λU=>Ϗ .slice (u.cell? ⟨a,10,none⟩) λZ=>
   (e=rO l q/\abz u (V4.read l q) y1 y2 y3 y4 y5 y6 y7 y8 y9 U Z/\YH w U/\YH w Z/\Ext w u):=by
  intro e W hx he aa;refine gZ (r1.ext hx) rfl rfl λu ab f28 _=> ?_;simp only[afe,afh,gJ,h_,gK,jr,ab.cell];exact⟨he.symm,adY he aa,ϙ w,ϙ w,(f1.trans hx).new (f28 (·=a) rfl) λy hy e=>by omega⟩
 have ropen:∀e,nO l q=e->e≠0->rO l q=e:=by
  intro e h he;unfold rO;omega
 by_cases c1:l.length<20
 ·have c1':((s.len:Int)<20):=by omega
  simp only[sx,c1',acI];exact fin 3 w1 (Ext.refl _) (ropen 3 (by simp[nO,c1]) (by omega)) (by omega)
 have c1':¬((s.len:Int)<20):=by omega
 simp only[c1',acR,aaf];have hs1:=(hs.ext f1).ext (Ext.drew w1);refine byte_at (i:=0) hs1 (by omega) λa0 hc0 hb0=> ?_;have hx0:=l[0].toNat_lt;have ac:ο.wrap ((ο.wrap (Int.tmod (l[0].toNat:Int) 16)) * 4)=(hlen l:Int):=by
  rw[SL (show 0<l.length by omega),al0 (by omega),Α (n:=(l[0].toNat:Int) % 16) (by omega) (by omega),Α];omega
 simp only[sx,hc0,ac];refine⟨by omega,?_⟩;refine AQ (Tc hs1 (by omega) (by omega) (by omega)) ?_;rintro _ w2 ⟨rfl,f2⟩;have x2:=(Ext.drew w1).trans f2;simp only[afp,kS hc0 f2];rw[show (Int.toNat 2)=2 from rfl];have hs2:=hs1.ext f2;refine byte_at (i:=0) hs2 (by omega) λa1 hc1 _=> ?_;have ev:(IntKind.u8.wrap (Int.tdiv (l[0].toNat:Int) 16) !=4)=decide (ver l≠4):=by
  rw[ahk (show 0<l.length by omega),amK (by omega),IntKind.wrap_u8]
  grind
 simp only[gJ,gK,hc1,ev];refine⟨by omega,?_⟩;by_cases v:ver l≠4
 ·simp only[v,ne_eq,am6,acI,abt];exact fin 4 w2 x2 (ropen 4 (by simp only[nO];omega) (by omega)) (by omega)
 simp only[v,acR,aaf];by_cases h20:hlen l<20
 ·have I:((hlen l:Int)<20):=by omega
  simp only[I,acI,abt];exact fin 4 w2 x2 (ropen 4 (by simp only[nO];omega) (by omega)) (by omega)
 have I:¬((hlen l:Int)<20):=by omega
 have o1:nO l q=if l.length<hlen l\/(l.length<num l 2 2/\q=false) then 3 else if num l 2 2<hlen l\/32768<=num l 6 2 then 4 else 0:=by
  simp only[nO];omega
 simp only[I,acR,aaf];by_cases c3:l.length<hlen l
 ·have c3':((hlen l:Int)>(s.len:Int)):=by omega
  simp only[c3',acI,abt];exact fin 3 w2 x2 (ropen 3 (by omega) (by omega)) (by omega)
 have c3':¬((hlen l:Int)>(s.len:Int)):=by omega
 simp only[c3',acR,aaf];by_cases c4:l.length<num l 2 2/\q=false
 ·have c4':((num l 2 2:Int)>(s.len:Int)):=by omega
  simp only[c4',acI,c4.2,afk,abt];have:=fin 3 w2 x2 (ropen 3 (by simp_all) (by omega)) (by omega);rw[c4.2] at this;exact this
 have cont:∀X Y:Prop,(bif !q then (bif decide ((num l 2 2:Int)>(s.len:Int)) then X else Y) else Y)=Y:=by
  grind
 rw[acZ (by simp_all)] at o1;simp only[cont];by_cases c5:num l 2 2<hlen l
 ·have c5':((num l 2 2:Int)<(hlen l:Int)):=by omega
  simp only[c5',acI,abt];exact fin 4 w2 x2 (ropen 4 (by omega) (by omega)) (by omega)
 have c5':¬((num l 2 2:Int)<(hlen l:Int)):=by omega
 simp only[c5',acR,aaf];refine AQ (Tc hs2 (by omega) (by omega) (by omega)) ?_;rintro _ w5 ⟨rfl,f5⟩;rw[show (Int.toNat 6)=6 from rfl,show (Int.toNat 2)=2 from rfl];have x5:=x2.trans f5;by_cases c6:32768<=num l 6 2
 ·have c6':((num l 6 2:Int)>=32768):=by omega
  simp only[c6',acI,abt];exact fin 4 w5 x5 (ropen 4 (by omega) (by omega)) (by omega)
 have c6':¬((num l 6 2:Int)>=32768):=by omega
 simp only[c6',acR,aaf];have ho:nO l q=0:=by omega
 have hz:=Yp ho;have hs5:=hs2.ext f5;have N:(if (s.len:Int)<(num l 2 2:Int) then (s.len:Int) else (num l 2 2:Int))=((min (num l 2 2) l.length:Nat):Int):=by
  split<;>omega
 have hlo:=Us (l:=l);have cut:∀W,Ext w5 W->∀K:gG->Prop,(∀s',iH W s' ((l.take (num l 2 2)).drop (hlen l))->K s')->lG s 1 (hlen l:Int) (if (s.len:Int)<(num l 2 2:Int) then (s.len:Int) else (num l 2 2:Int)) K:=by
  intro W hx K hK;rw[N];refine mY (hs5.ext hx) (by omega) (by omega) (by omega) λs' hs' _=>hK s' ?_;rw[abu,abu,Nat.min_comm,<- List.take_take,ali (by grind)] at hs';exact hs'
 cases q with
 |true=>
  simp only[adt,aaf];refine cut w5 (Ext.refl _) _ λs6 hs6=> ?_;refine cmS12 (VQ hs5 hs6 (by omega) (by simp;omega) hz.1 hz.2.1 rfl) ?_;rintro _ _ _ _ _ _ _ _ _ op da w7 ⟨⟨rfl,rfl,rfl,rfl,rfl,rfl,rfl,rfl,rfl,hop,J⟩,no,nd,f7⟩;refine D5 rfl rfl λg w8 r8 e8 z8 f8=> ?_;simp only[sx,afe,afh,r8.cell];have x8:=(x5.trans f7).trans f8;refine gZ (r1.ext x8) rfl rfl λw9 r9 f9 _=> ?_;simp only[afe,afh,gJ,h_,gK,jr,r9.cell];have rd0:rO l true=0:=by unfold rO;rw[ho];simp
  have s1:=x5.size;refine⟨by rw[rd0],?_,λx hx=>by have:=no x hx;omega,λx hx=>by have:=nd x hx;omega,(f1.trans x8).new (f9 (·=a) rfl) λy hy e=>by omega⟩;unfold V4.read;rw[adZ rd0];refine⟨rfl,rfl,rfl,rfl,rfl,rfl,rfl,rfl,rfl,?_,?_⟩
  ·exact iH.fr (hop.ext f8) (f9 (·=a) rfl) λx hx _ e=>by have:=no x hx;omega
  ·exact iH.fr (J.ext f8) (f9 (·=a) rfl) λx hx _ e=>by have:=nd x hx;omega
 |false=>
  simp only[afk,abt];refine mY hs5 (by omega) (by omega) (by omega) λs4 hs4 _=> ?_;rw[show (Int.toNat 0)=0 from rfl,amW,abu] at hs4;refine gU λd w4 r4 e4 z4 f4=> ?_;refine cmS0 (aeY (Fe r4 (hs4.ext f4)) (by simp) (by grind)) ?_;rintro _ w6 ⟨rfl,f6⟩;rw[Px];have x6:=f4.trans f6;by_cases hr:fold (tot (l.take (hlen l)))=65535
  ·simp only[hr,acI,adt,aaf];refine cut w6 x6 _ λs6 hs6=> ?_;refine cmS12 (VQ (hs5.ext x6) hs6 (by omega) (by simp;omega) hz.1 hz.2.1 rfl) ?_;rintro _ _ _ _ _ _ _ _ _ op da w7 ⟨⟨rfl,rfl,rfl,rfl,rfl,rfl,rfl,rfl,rfl,hop,J⟩,no,nd,f7⟩;have O:=hop.1;have R:=J.1;refine D5 rfl rfl λg w8 r8 e8 z8 f8=> ?_;simp only[sx,afe,afh,r8.cell];refine cmS1 (Yw (field l) O R (by omega) (by omega)) ?_;rintro _ w9 ⟨rfl,f9⟩;have r9:=r8.ext f9;have x9:=(((x5.trans x6).trans f7).trans f8).trans f9;have s1:=(x5.trans x6).size;have rd:rO l false=if (field l).check≠0 then 4 else 0:=by
    unfold rO
    simp_all
   by_cases hc:(field l).check=0
   ·simp only[hc,show ((0:Int) !=0)=false from rfl,aaf,afe,afh,gJ,h_,gK,jr,r9.cell];refine gZ (r1.ext x9) rfl rfl λw10 ae f10 _=> ?_;simp only[afe,afh,gJ,h_,gK,jr,ae.cell];have rd0:rO l false=0:=by omega
    refine⟨by rw[rd0],?_,λx hx=>by have:=no x hx;omega,λx hx=>by have:=nd x hx;omega,(f1.trans x9).new (f10 (·=a) rfl) λy hy e=>by omega⟩;unfold V4.read;rw[adZ rd0];refine⟨rfl,rfl,rfl,rfl,rfl,rfl,rfl,rfl,rfl,?_,?_⟩
    ·exact iH.fr ((hop.ext f8).ext f9) (f10 (·=a) rfl) λx hx _ e=>by have:=no x hx;omega
    ·exact iH.fr ((J.ext f8).ext f9) (f10 (·=a) rfl) λx hx _ e=>by have:=nd x hx;omega
   ·have hc':((field l).check !=0)=true:=by simp_all
    simp only[hc',abt];exact fin 4 w9 x9 (by omega) (by omega)
  ·simp only[hr,acR,afk,abt];exact fin 5 w6 (x5.trans x6) (by unfold rO;simp_all) (by omega)
end Go.Proofs.RN
end
section
namespace Go.Proofs.RN
open Gp Gp.V4 Go.Proofs.VN
theorem S_ (a b:Int) (ha:0<=a/\a<2^62) (hb:0<b/\b<=2^40) (w:θ):wK a b w λr w'=>r=a % b/\w'=w:=by
 apply ZQ;refine⟨by omega,by omega,?_,rfl⟩;rw[al0 ha.1];have h1:=Int.emod_nonneg a (b:=b) (by omega);have h2:=Int.emod_lt_of_pos a hb.1;rw[Α,al0 (by omega),Int.add_emod_right,Int.emod_emod]
theorem adK {w:θ} {d:gG} {l:List UInt8} (hd:iH w d l) (hl:l.length<=65527) {src dst:Nat} (h1:src<65536) (h2:dst<65536) (b:Bool) {s:Nat} (hs:s<65536):
  zu (src:Int) (dst:Int) b d (s:Int) w λr w'=>iH w' r (kC 2 src++kC 2 dst++kC 2 (8+l.length)++kC 2 s++l)/\Ext w w':=by
 apply Vt;have dl:=hd.1;have put:∀{W:θ} {t:gG} {l:List UInt8} (n k:Nat),iH W t l->l.length<=100->jm (n:Int) (k:Int)->n<2^62->jy t (n:Int) (k:Int) W λr w'=>Buf w' r (bytesV (l++kC k n))/\Ext W w'/\(∀b,gG.at r b->W.heap.size<=b):=by
  intro W t l n k h1 h2 h3 h4;refine cmS2 (KF h1 (by omega) (n:Int) (k:Int) (by omega)) ?_;rintro r w' ⟨h5,h6,h7⟩;refine⟨?_,h6,h7⟩;simpa [mP,h3] using h5
 have fit:∀n:Nat,n<65536->jm (n:Int) ((2:Nat):Int):=λn h=>⟨⟨by omega,by omega⟩,by omega,by simp;omega⟩;refine gU λa w1 r1 e1 z1 f1=> ?_;have r1d:=r1.drew;simp only[sx,afe,afh,r1d.cell];refine cmS2 (put src 2 iH.nil (by simp) (fit _ h1) (by omega)) ?_;rintro t2 w2 ⟨b2,f2,n2⟩;simp only[afp,afe,afh,(r1d.ext f2).cell];refine cmS2 (put dst 2 (iH.iM b2) (by simp[jf]) (fit _ h2) (by omega)) ?_;rintro t3 w3 ⟨b3,f3,n3⟩;have r3:=(r1d.ext f2).ext f3;simp only[afe,afh,gJ,h_,r3.cell];rw[Α,show (8+(d.len:Int))=((8+l.length:Nat):Int) by omega];refine cmS2 (put (8+l.length) 2 (iH.iM b3) (by simp[jf]) (fit _ (by omega)) (by omega)) ?_;rintro t4 w4 ⟨b4,f4,n4⟩;refine cmS2 (put s 2 (iH.iM b4) (by simp[jf]) (fit _ hs) (by omega)) ?_;rintro t5 w5 ⟨b5,f5,n5⟩;have r5:=(r3.ext f4).ext f5;simp only[afe,afh,gJ,h_,r5.cell];have x4:Ext w w4:=(f1.trans (Ext.drew _)).trans ((f2.trans f3).trans f4);have z4:=x4.size;refine jK b5 (hd.ext (x4.trans f5)) (by simp[jf];omega) λt6 w6 b6 f6 n6 _=> ?_;exact⟨iH.iM (by simpa using b6),(x4.trans f5).new f6 λy hy h=>by have:=n5 y h;omega⟩
end Go.Proofs.RN
end
section
namespace Go.Proofs.RN
open Gp Gp.V4 Go.Proofs Go.Proofs.VN
theorem JI (l:List UInt8) (n k:Nat) (h0:1<=k) (h1:k<=4) (hn:n<256^k):mP l (n:Int) (k:Int)=l++kC k n:=by
 unfold mP;rw[adZ,abu,abu];refine⟨⟨by omega,by omega⟩,by omega,?_⟩;rw[abu]
 exact_mod_cast hn
def psB (a b n:Nat):List UInt8:=kC 4 a++kC 4 b++[0]++kC 1 17++kC 2 n
theorem aiA (a b n:Nat):(psB a b n).length=12:=by simp[psB,jf]
theorem acJ {a b n:Nat} (ha:a<4294967296) (hb:b<4294967296) (hn:n<65536):AN.zI (a:Int) (b:Int) 17 (n:Int)=psB a b n:=by
 unfold AN.zI;have e1:((a:Int) % 4294967296)=(a:Int):=by omega
 have e2:((b:Int) % 4294967296)=(b:Int):=by omega
 have e3:((17:Int) % 256)=17:=by omega
 have e4:((n:Int) % 65536)=(n:Int):=by omega
 rw[e1,e2,e3,e4];have p:∀(l:List UInt8) (n k:Nat),1<=k->k<=4->n<256^k->Proofs.mP l (n:Int) (k:Int)=l++kC k n:=JI;have q1:=p [] a 4 (by omega) (by omega) ha;have q2:=p ([]++kC 4 a) b 4 (by omega) (by omega) hb;have q3:=p ([]++kC 4 a++kC 4 b) 17 2 (by omega) (by omega) (by omega);have q4:=p ([]++kC 4 a++kC 4 b++kC 2 17) n 2 (by omega) (by omega) hn;rw[show ((4:Nat):Int)=4 from rfl] at q1 q2;rw[show ((2:Nat):Int)=2 from rfl] at q3 q4;rw[show ((17:Nat):Int)=17 from rfl] at q3;rw[q1,q2,q3,q4];simp[psB,kC]
theorem ag8 {w:θ} {a b z:Nat} (h1:a<4294967296) (h2:b<4294967296) (h4:z<65536):
  BM (a:Int) (b:Int) 17 (z:Int) w λr w'=>iH w' r (psB a b z)/\Ext w w':=by
 apply Si;have e1:((a:Int) % 4294967296)=(a:Int):=by omega
 have e2:((b:Int) % 4294967296)=(b:Int):=by omega
 have e3:((17:Int) % 256)=17:=by omega
 have e4:((z:Int) % 65536)=(z:Int):=by omega
 refine cmS1 (S_ _ _ (by omega) (by omega) w) ?_;rintro _ w0 ⟨rfl,hw⟩;subst hw;rw[e1];refine cmS2 (KF iH.nil (by simp) _ 4 (by omega)) ?_;rintro t1 w1 ⟨b1,f1,n1⟩;refine cmS1 (S_ _ _ (by omega) (by omega) w1) ?_;rintro _ w2 ⟨rfl,hw⟩;subst hw;have q1:=JI [] a 4 (by omega) (by omega) h1;rw[show ((4:Nat):Int)=4 from rfl] at q1;rw[q1,amd] at b1;rw[e2];refine cmS2 (KF (iH.iM b1) (by simp[jf]) _ 4 (by omega)) ?_;rintro t2 w2 ⟨b2,f2,n2⟩;have q2:=JI (kC 4 a) b 4 (by omega) (by omega) h2;rw[show ((4:Nat):Int)=4 from rfl] at q2;rw[q2] at b2;refine gU λc w3 r3 e3 z3 f3=> ?_;have b3:iH w3 ⟨some ⟨c,0,none⟩,1,1⟩ [0]:=iH.iM (iH.row (l:=[0]) (by simpa [bytesV] using r3));refine jK (b2.ext f3) b3 (by simp[jf]) λt4 w4 b4 f4 n4 _=> ?_;have z1':=f1.size;have x4:Ext w0 w4:=(f1.trans (f2.trans f3)).new f4 λy hy h=>by have:=n2 y h;omega
 refine cmS1 (S_ _ _ (by omega) (by omega) w4) ?_;rintro _ w5 ⟨rfl,hw⟩;subst hw;refine cmS2 (KF (iH.iM b4) (by simp[jf]) _ 1 (by omega)) ?_;rintro t5 w5 ⟨b5,f5,n5⟩;have q5:=JI (kC 4 a++kC 4 b++[0]) 17 1 (by omega) (by omega) (by omega);rw[show ((1:Nat):Int)=1 from rfl,show ((17:Nat):Int)=17 from rfl] at q5;rw[show ((17:Int) % 256)=17 from by decide,q5] at b5;refine cmS1 (S_ _ _ (by omega) (by omega) w5) ?_;rintro _ w6 ⟨rfl,hw⟩;subst hw;rw[e4];refine cmS2 (KF (iH.iM b5) (by simp[jf]) _ 2 (by omega)) ?_;rintro t6 w6 ⟨b6,f6,n6⟩;have q6:=JI (kC 4 a++kC 4 b++[0]++kC 1 17) z 2 (by omega) (by omega) h4;rw[show ((2:Nat):Int)=2 from rfl] at q6;rw[q6] at b6;exact⟨iH.iM b6,(x4.trans f5).trans f6⟩
def WR (src dst s:Nat) (l:List UInt8):List UInt8:=kC 2 src++kC 2 dst++kC 2 (8+l.length)++kC 2 s++l
def Τ (a b src dst:Nat) (l:List UInt8):Nat:=if fold (tot (psB a b (8+l.length))+tot (WR src dst 0 l))=65535 then 65535 else 65535 - fold (tot (psB a b (8+l.length))+tot (WR src dst 0 l))
def dgB (a b src dst:Nat) (l:List UInt8):List UInt8:=WR src dst (Τ a b src dst l) l
theorem Ky (src dst s:Nat) (l:List UInt8):(WR src dst s l).length=8+l.length:=by simp[WR,jf];omega
theorem adF (a b src dst:Nat) (l:List UInt8):1<=Τ a b src dst l/\Τ a b src dst l<=65535:=by
 unfold Τ;split
 ·omega
 ·have:=OB (tot (psB a b (8+l.length))+tot (WR src dst 0 l));omega
theorem Y0 (src dst s:Nat) (l:List UInt8):WR src dst s l=UInt8.ofNat (src / 256)::UInt8.ofNat src::UInt8.ofNat (dst / 256)::UInt8.ofNat dst::UInt8.ofNat ((8+l.length) / 256)::UInt8.ofNat (8+l.length)::UInt8.ofNat (s / 256)::UInt8.ofNat s::l:=by
 simp[WR,kC]
theorem aiS {src dst s:Nat} (l:List UInt8) (hs:s<65536):tot (WR src dst s l)=tot (WR src dst 0 l)+s:=by
 rw[Y0,Y0];simp only[tot,am4];omega
theorem afa {src dst s:Nat} {l:List UInt8} (h1:src<65536) (h2:dst<65536) (h3:8+l.length<65536) (h4:s<65536):
  VN.wordAt (WR src dst s l) 0=src/\VN.wordAt (WR src dst s l) 2=dst/\VN.wordAt (WR src dst s l) 4=8+l.length/\VN.wordAt (WR src dst s l) 6=s:=by
 rw[Y0];unfold VN.wordAt;simp only[d_,alO,am4];omega
theorem ahI {a b src dst:Nat} {l:List UInt8} (ha:a<4294967296) (hb:b<4294967296) (h1:src<65536) (h2:dst<65536) (h3:l.length<=60000):
  AN.XU (a:Int) (b:Int) (dgB a b src dst l)/\VN.wordAt (dgB a b src dst l) 0=src/\VN.wordAt (dgB a b src dst l) 2=dst/\(dgB a b src dst l).drop 8=l:=by
 obtain⟨s1,s2⟩:=adF a b src dst l;obtain⟨w0,w2,w4,w6⟩:=afa (l:=l) (s:=Τ a b src dst l) h1 h2 (by omega) (by omega);have hlen:=Ky src dst (Τ a b src dst l) l;unfold dgB;refine⟨⟨by omega,by rw[w4,hlen],by omega,?_⟩,w0,w2,by rw[Y0];rfl⟩;rw[hlen,acJ ha hb (by omega),aiS l (by omega)];have h:=Yb (tot (psB a b (8+l.length))+tot (WR src dst 0 l));unfold Τ;split
 ·rename_i h5;unfold fold at h5 ⊢;split at h5
  ·omega
  ·rw[acZ (by omega)];omega
 ·rw[<- al8];exact h
theorem aiV {w:θ} {d:gG} {l:List UInt8} (hd:iH w d l) (hl:l.length<=60000) {a b src dst:Nat} (ha:a<4294967296) (hb:b<4294967296) (h1:src<65536) (h2:dst<65536):
  Ee (a:Int) (b:Int) (src:Int) (dst:Int) false d w λr e w'=>e=0/\iH w' r (dgB a b src dst l)/\Ext w w':=by
 apply Vr;have dl:=hd.1;refine gU λc w1 r1 e1 z1 f1=> ?_;have fit:∀n:Nat,n<65536->jm (n:Int) 2:=λn h=>⟨⟨by omega,by omega⟩,by omega,by simp;omega⟩;have rd:∀{W:θ} {Q:Int->Int->Bool->gG->Prop},Row W c [Β (src:Int),Β (dst:Int),.bool false,Δ d]->Q (src:Int) (dst:Int) false d->Ld ν W (Addr.add ⟨c,0,none⟩ 0) λx6=>Ld ν W (Addr.add ⟨c,0,none⟩ 1) λx7=>Ld .bool W (Addr.add ⟨c,0,none⟩ 2) λx8=>Ld .slice W (Addr.add ⟨c,0,none⟩ 3) λx9=>Q x6 x7 x8 x9:=
  λhr hq=>Ld_i 0 (src:Int) hr (Ld_i 1 (dst:Int) hr (Ld_b 2 false hr (Ld_s 3 d hr hq)))
 refine rd r1 ?_;have u:Ef (src:Int) (dst:Int) false d w1 λr w'=>r=0/\Ext w1 w':=by
  apply Vs;refine gU λc w2 r2 e2 z2 f2=> ?_;refine Ld_i 0 (src:Int) r2 ?_;refine cmS0 (CO _ _ _) ?_;rintro r w3 ⟨hr,hw⟩;rw[aff (fit _ h1)] at hr;subst hr hw;rw[adt,aaf];refine Ld_i 1 (dst:Int) r2 ?_;refine cmS0 (CO _ _ _) ?_;rintro r w3 ⟨hr,hw⟩;rw[aff (fit _ h2)] at hr;subst hr hw;rw[adt,aaf];refine Ld_s 3 d r2 ?_;have:¬((d.len:Int)>65527):=by omega
  rw[adX this,aaf];exact⟨rfl,f2⟩
 refine cmS1 u ?_;rintro _ w2 ⟨rfl,f2⟩;have r2:=r1.ext f2;rw[show ((0:Int) !=0)=false from rfl,aaf];refine rd r2 ?_;refine cmS2 (adK (s:=0) ((hd.ext f1).ext f2) (by omega) h1 h2 false (by omega)) ?_;rintro t3 w3 ⟨b3,f3⟩;have l3:=b3.1;simp only[ahP,jf] at l3;refine Ld_b 2 false (r2.ext f3) ?_;rw[aaf];rw[show ((t3.len:Nat):Int)=((8+l.length:Nat):Int) by omega];refine cmS2 (ag8 ha hb (by omega)) ?_;rintro t4 w4 ⟨b4,f4⟩;refine gU λg w5 r5 e5 z5 f5=> ?_;have hp:Parts w5 ⟨some ⟨g,0,none⟩,2,2⟩ [(t4,psB a b (8+l.length)),(t3,WR src dst 0 l)]:=by
  refine⟨rfl,λi p hi=> ?_⟩
  match i with
  |0=>
   simp at hi;subst hi;exact⟨g,0,rfl,by rw[r5.cell];rfl,b4.ext f5⟩
  |1=>
   simp at hi;subst hi;exact⟨g,0,rfl,by rw[r5.cell];rfl,(b3.ext f4).ext f5⟩
  |i+2=>simp at hi
 refine cmS1 (ag6 hp (by simp) (by
  intro q hq;simp only[agI,ajr,alf] at hq;rcases hq with rfl|rfl
  ·simp only[aiA];omega
  ·simp only[Ky];omega)) ?_
 rintro _ w6 ⟨rfl,f6⟩;have y6:=f3.trans (f4.trans (f5.trans f6));have x6:=(f1.trans f2).trans y6;have ht:sZ [(t4,psB a b (8+l.length)),(t3,WR src dst 0 l)]=tot (psB a b (8+l.length))+tot (WR src dst 0 l):=by simp[sZ]
 rw[ht];obtain⟨s1,s2⟩:=adF a b src dst l;intro I;have hJ:I ((Τ a b src dst l:Nat):Int):=by
  simp only[I];refine rd (r2.ext y6) ?_;refine cmS2 (adK (d:=d) (hd.ext x6) (by omega) h1 h2 false (by omega)) ?_;rintro t7 w7 ⟨b7,f7⟩;exact⟨by trivial,b7,x6.trans f7⟩
 clear_value I;have hfl:=OB (tot (psB a b (8+l.length))+tot (WR src dst 0 l));unfold Τ at hJ;by_cases h5:fold (tot (psB a b (8+l.length))+tot (WR src dst 0 l))=65535
 ·rw[adZ h5] at hJ;rw[h5];exact hJ
 ·rw[acZ h5] at hJ;rw[show (((65535 - fold (tot (psB a b (8+l.length))+tot (WR src dst 0 l)):Nat):Int)==0)=false by rw[amH];omega,aaf];exact hJ
end Go.Proofs.RN
end
section
namespace Go.Proofs.AN
open Gp Gp.V4 Go.Proofs Go.Proofs.VN
open Gp.Bind (In64)
variable {w w':θ}
theorem aai {w:θ} {ad:Addr} {x0 x1 x2 x3 x4 x5 x6:Int} {x7 x8:Bool} {x9 h:gG} {Q:Int->Int->Int->Int->Int->Int->Int->Bool->Bool->gG->gG->Prop}
  (hc:∀j,j<11->w.cell? (ad.add j)=(gX x0 x1 x2 x3 x4 x5 x6 x7 x8 x9 h)[j]?) (hq:Q x0 x1 x2 x3 x4 x5 x6 x7 x8 x9 h):iG w ad Q:=by
 unfold iG;exact⟨x0,hc 0 (by omega),x1,hc 1 (by omega),x2,hc 2 (by omega),x3,hc 3 (by omega),x4,hc 4 (by omega),x5,hc 5 (by omega),x6,hc 6 (by omega),x7,hc 7 (by omega),x8,hc 8 (by omega),x9,hc 9 (by omega),h,hc 10 (by omega),hq⟩
theorem aje {w:θ} {ad:Addr} {x0 x1 x2:Int} {x3:gG} {x4 x5 x6 x7 x8 x9 h:Int} {u I:Bool} {J N:gG} {O R U W Y Z aa:Int} {Q:Int->Int->Int->gG->Int->Int->Int->Int->Int->Int->Int->Bool->Bool->gG->gG->Int->Int->Int->Int->Int->Int->Int->Prop}
  (hc:∀j,j<22->w.cell? (ad.add j)=(Ob x0 x1 x2 x3 x4 x5 x6 x7 x8 x9 h u I J N O R U W Y Z aa)[j]?) (hq:Q x0 x1 x2 x3 x4 x5 x6 x7 x8 x9 h u I J N O R U W Y Z aa):TG w ad Q:=by
 unfold TG;exact⟨x0,hc 0 (by omega),x1,hc 1 (by omega),x2,hc 2 (by omega),x3,hc 3 (by omega),x4,hc 4 (by omega),x5,hc 5 (by omega),x6,hc 6 (by omega),x7,hc 7 (by omega),x8,hc 8 (by omega),x9,hc 9 (by omega),h,hc 10 (by omega),u,hc 11 (by omega),I,hc 12 (by omega),J,hc 13 (by omega),N,hc 14 (by omega),O,hc 15 (by omega),R,hc 16 (by omega),U,hc 17 (by omega),W,hc 18 (by omega),Y,hc 19 (by omega),Z,hc 20 (by omega),aa,hc 21 (by omega),hq⟩
def rQ (a b src dst ttl:Nat) (l:List UInt8):kZ:=⟨0,0,0,ttl,17,a,b,false,false,[],RN.dgB a b src dst l⟩
theorem P5 {a b src dst ttl:Nat} {l:List UInt8} (ha:a<4294967296) (hb:b<4294967296) (h3:ttl<256) (hl:l.length<=60000):(rQ a b src dst ttl l).check=0:=by
 have lm:(RN.dgB a b src dst l).length=8+l.length:=RN.Ky _ _ _ _;have fine:(rQ a b src dst ttl l).fine:=
  ⟨⟨⟨⟨by omega,by omega⟩,by simp[rQ],by simp[rQ]⟩,⟨⟨by omega,by omega⟩,by simp[rQ],by simp[rQ];omega⟩,⟨⟨by omega,by omega⟩,by simp[rQ],by simp[rQ]⟩,⟨⟨by omega,by omega⟩,by simp[rQ],by simp[rQ]⟩⟩,
   ⟨⟨by simp[rQ],by simp[rQ];omega⟩,⟨by simp[rQ],by simp[rQ];omega⟩⟩,⟨by simp[rQ],by simp[rQ],by simp[rQ],by simp[rQ]⟩,by simp[rQ],by simp[rQ]⟩
 have sh:(rQ a b src dst ttl l).short:=⟨by simp[rQ];omega,by simp[rQ];omega⟩;unfold kZ.check
 simp_all
theorem Uh {a b src dst ttl:Nat} {l:List UInt8} (ha:a<4294967296) (hb:b<4294967296) (h1:src<65536) (h2:dst<65536) (h3:ttl<256) (hl:l.length<=60000):
  rC (rQ a b src dst ttl l)/\wordAt (rQ a b src dst ttl l).data 0=src/\wordAt (rQ a b src dst ttl l).data 2=dst/\(rQ a b src dst ttl l).data.drop 8=l/\(rQ a b src dst ttl l).data.length=8+l.length:=by
 obtain⟨q1,q2,q3,q4⟩:=RN.ahI ha hb h1 h2 hl;exact⟨⟨rfl,P5 ha hb h3 hl,rfl,Int.le_refl _,q1⟩,q2,q3,q4,RN.Ky _ _ _ _⟩
theorem Ug {d:gG} {l:List UInt8} (hd:iH w d l) (hl:l.length<=60000) {a b src dst ttl:Nat} (ha:a<4294967296) (hb:b<4294967296) (h1:src<65536) (h2:dst<65536) (h3:ttl<256):
  jC (a:Int) (b:Int) (src:Int) (dst:Int) (ttl:Int) d w λr w'=>iH w' r (rQ a b src dst ttl l).bytes/\Ext w w':=by
 apply O6;have lm:(RN.dgB a b src dst l).length=8+l.length:=RN.Ky _ _ _ _;refine cmS5 (RN.aiV hd hl ha hb h1 h2) ?_;rintro r _ w1 ⟨rfl,hm,f1⟩;refine cmS5 (RN.Yv (rQ a b src dst ttl l) iH.nil hm (by simp[rQ]) (by show (RN.dgB a b src dst l).length<=2^46;omega)) ?_;rintro t e w2 ⟨he,_,hb2,f2,_⟩;exact⟨iH.iM (hb2 (P5 ha hb h3 hl)),f1.trans f2⟩
theorem ahH {a b src dst ttl:Nat} {l:List UInt8}:(rQ a b src dst ttl l).bytes.length=28+l.length:=by
 have lm:(RN.dgB a b src dst l).length=8+l.length:=RN.Ky _ _ _ _;unfold kZ.bytes;rw[ahP,I9];show _+(RN.dgB a b src dst l).length=_;rw[lm];show 20+0+_=_;omega
abbrev ahr (w w':θ) (q:kZ) (o d:gG):Prop:=iH w' o q.opts/\iH w' d q.data/\(∀x,o.a=some x->w.heap.size<=x.block)/\∀x,d.a=some x->w.heap.size<=x.block
theorem Yz {s:gG} {l:List UInt8} (hs:iH w s l) (hl:l.length<=2^40) {K:Int->Int->Int->Int->Int->Int->Int->Bool->Bool->gG->gG->Int->b_}
  (hK:∀o d w',Ext w w'->ahr w w' (V4.read l false) o d->K (V4.read l false).tos (V4.read l false).id (V4.read l false).off (V4.read l false).ttl (V4.read l false).proto (V4.read l false).src (V4.read l false).dst (V4.read l false).df (V4.read l false).mf o d (rO l false) w'):
  zn s w K:=by
 apply Vq;refine gU λa w1 r1 e1 z1 f1=> ?_;refine cmS11 (RN.ag9 (hs.ext f1) hl false) ?_;rintro t i o l' p s' d df mf op da e w2 ⟨rfl,⟨rfl,rfl,rfl,rfl,rfl,rfl,rfl,rfl,rfl,b1,b2⟩,n1,n2,f2⟩;have r2:=r1.ext f2;refine StN_f r2 λw3 r3 f3 z3=> ?_;refine lu r3 ?_;refine hK _ _ w3 ((f1.trans f2).nw f3) ⟨b1.fr f3 λad ha h0 e=>jo r2 (by simp) b1 ha h0 e,b2.fr f3 λad ha h0 e=>jo r2 (by simp) b2 ha h0 e,λx hx=> ?_,λx hx=> ?_⟩
 ·have:=n1 x hx;omega
 ·have:=n2 x hx;omega
theorem Qz {s:gG} {l:List UInt8} (hs:iH w s l) (hl:l.length<=2^40) {K:Int->Int->Int->Int->Int->Int->Int->Bool->Bool->gG->gG->b_}
  (hK:∀o d w',Ext w w'->ahr w w' (V4.read l false) o d->K (V4.read l false).tos (V4.read l false).id (V4.read l false).off (V4.read l false).ttl (V4.read l false).proto (V4.read l false).src (V4.read l false).dst (V4.read l false).df (V4.read l false).mf o d w'):
  jB s w K:=by
 apply RX;refine gU λa w1 r1 e1 z1 f1=> ?_;refine Yz (hs.ext f1) hl λo d w2 f2 ⟨b1,b2,n1,n2⟩=> ?_;have z2:=f2.size;refine gU λb w3 r3 e3 z3 f3=> ?_;refine gZ r3 rfl rfl λw4 r4 f4' z4=> ?_;have f4:=f4' _ rfl;have x4:=f3.new f4 λy hy e=>by omega
 refine lu r4 ?_;have h:=(r1.ext f2).ext x4;refine StN_f h λw5 r5 f5 z5=> ?_;refine lu r5 ?_;have b1':=b1.ext x4;have b2':=b2.ext x4;refine hK _ _ w5 (((f1.trans f2).trans x4).nw f5) ⟨b1'.fr f5 λad ha h0 e=>jo h (by simp) b1' ha h0 e,b2'.fr f5 λad ha h0 e=>jo h (by simp) b2' ha h0 e,λx hx=> ?_,λx hx=> ?_⟩
 ·grind
 grind
theorem M_ {a b src dst ttl:Nat} (ha:a<4294967296) (hb:b<4294967296) (_:src<65536) (_:dst<65536) (h3:ttl<256) {l:List UInt8} (hl:l.length<=600) {s:gG} (hs:iH w s (rQ a b src dst ttl l).bytes) {K:Int->Int->Int->Int->Int->Int->Int->Bool->Bool->gG->gG->b_}
  (hK:∀o d w',Ext w w'->ahr w w' (rQ a b src dst ttl l) o d->K (rQ a b src dst ttl l).tos (rQ a b src dst ttl l).id (rQ a b src dst ttl l).off (rQ a b src dst ttl l).ttl (rQ a b src dst ttl l).proto (rQ a b src dst ttl l).src (rQ a b src dst ttl l).dst (rQ a b src dst ttl l).df (rQ a b src dst ttl l).mf o d w'):
  jB s w K:=by
 have hc:=P5 (src:=src) (dst:=dst) (l:=l) ha hb h3 (by omega);obtain⟨q1,q2,_⟩:=acK hc [];rw[List.append_nil] at q1 q2;have h:V4.read (rQ a b src dst ttl l).bytes false=rQ a b src dst ttl l:=by unfold V4.read;simp_all
 refine Qz hs (by rw[ahH];omega) ?_;rw[h];exact hK
theorem ahe {A0 A1 A2:Int} {s:gG} {l:List UInt8} (q:kZ) {o d:gG} {B0 B1 B2 B3 B4 B5 B6:Int} (hs:iH w s l) (hl:l.length<=2^40) (ho:iH w o q.opts) (hd:iH w d q.data) (h1:q.opts.length<=2^40) (h2:q.data.length<=2^40)
  {K:Int->Int->Int->Int->Int->Int->Int->Bool->Bool->gG->gG->b_}
  (hK:∀(p:kZ) o' d' w',Ext w w'->iH w' o' p.opts->iH w' d' p.data->p.opts.length<=2^40->p.data.length<=2^40->(o'=o/\p=q\/∀x,o'.a=some x->w.heap.size<=x.block)->(d'=d/\p=q\/∀x,d'.a=some x->w.heap.size<=x.block)->K p.tos p.id p.off p.ttl p.proto p.src p.dst p.df p.mf o' d' w'):
  yw A0 A1 A2 s q.tos q.id q.off q.ttl q.proto q.src q.dst q.df q.mf o d B0 B1 B2 B3 B4 B5 B6 w K:=by
 apply OZ;refine gU λa w1 r1 e1 z1 f1=> ?_;refine gU λb w2 r2 e2 z2 f2=> ?_;have x2:=f1.trans f2;have u:=r1.ext f2;have za:=f1.size;have zb:=f2.size;refine iF u rfl ?_;refine Yz (hs.ext x2) hl λo' d' w3 f3 ⟨b1,b2,n1,n2⟩=> ?_;have z3:=f3.size;refine gU λc w4 r4 e4 z4 f4=> ?_;refine gZ r4 rfl rfl λw5 r5 f5' z5=> ?_;have f5:=f5' _ rfl;have x5:=f4.new f5 λy hy e=>by omega
 have h:=(r2.ext f3).ext x5;have I:=(u.ext f3).ext x5;have y5:=(x2.trans f3).trans x5;have hrl:=aaX l false
 cases (rO l false==0)
 ·rw[aaf];have hc:∀j,j<11->w5.cell? (Addr.add (Addr.add ⟨a,0,none⟩ 4) j)=(gX q.tos q.id q.off q.ttl q.proto q.src q.dst q.df q.mf o d)[j]? :=by
   intro j hj;rw[gY,gY,I.cell]
   match j,hj with
   |0,_=>rfl
   |1,_=>rfl
   |2,_=>rfl
   |3,_=>rfl
   |4,_=>rfl
   |5,_=>rfl
   |6,_=>rfl
   |7,_=>rfl
   |8,_=>rfl
   |9,_=>rfl
   |10,_=>rfl
  refine aai hc ?_;refine StN_f h λw6 r6 f6 z6=> ?_;refine lu r6 ?_;exact hK q o d w6 (y5.nw f6) ((ho.ext y5).fr f6 λad ha h0 e=>jo h (by simp) (ho.ext y5) ha h0 e) ((hd.ext y5).fr f6 λad ha h0 e=>jo h (by simp) (hd.ext y5) ha h0 e) h1 h2 (.inl ⟨rfl,rfl⟩) (.inl ⟨rfl,rfl⟩)
 ·rw[abt];refine lu r5 ?_;refine StN_f h λw6 r6 f6 z6=> ?_;refine lu r6 ?_;have b1':=b1.ext x5;have b2':=b2.ext x5;refine hK (V4.read l false) o' d' w6 (y5.nw f6) (b1'.fr f6 λad ha h0 e=>jo h (by simp) b1' ha h0 e) (b2'.fr f6 λad ha h0 e=>jo h (by simp) b2' ha h0 e) (by omega) (by omega) (.inr λx hx=> ?_) (.inr λx hx=> ?_)
  ·grind
  grind
end Go.Proofs.AN
end
section
namespace Go.Proofs.EN
open Gp Go.Proofs Go.Proofs.CN
open Gp.Bind (Bnd Slots live GoodB freeN getS In64)
def toB (x:T7):Bnd:=⟨x.1,x.2.1,x.2.2.1,x.2.2.2.1,x.2.2.2.2.1,x.2.2.2.2.2.1,x.2.2.2.2.2.2.1,true⟩
inductive Maps (c:Cf) (e0:ES):List Bnd->ES->Prop
 |nil:Maps c e0 [] e0
 |no {l:List Bnd} {e:ES} {b:Bnd}:Maps c e0 l e->Inv c e->GoodB e.S e.Mi e.Mo->Zq c e b≠0->Maps c e0 (l++[b]) e
 |yes {l:List Bnd} {e:ES} {b:Bnd} {i:Nat} {Mi Mo:ByteArray->Option Int} {Q:List Int} {G:List (PN.O3×Unit)}:Maps c e0 l e->Inv c e->GoodB e.S e.Mi e.Mo->Zq c e b=0->freeN e.S=some i->Maps c e0 (l++[b]) {e with S:=e.S.set i (some b),Mi:=Mi,Mo:=Mo,Q:=Q,G:=G}
theorem xC:∀(k j:Nat),live j (List.replicate k none)=[]
 |0,_=>rfl
 |k+1,j=>by rw[al6,live];exact xC k _
theorem QH:∀(k j:Nat),Gp.Ses.live j (List.replicate k none)=[]
 |0,_=>rfl
 |k+1,j=>by rw[al6,Gp.Ses.live];exact QH k _
def e0 (n nb ns:Nat):ES:=⟨0,List.replicate nb none,λ_=>none,λ_=>none,List.replicate n 0,[],List.replicate ns none,λ_=>none,[],0,0,λ_ _=>[]⟩
theorem ail {ls lp lt n18 n19 n20 n21 n22 n23 n24 n25 n26 n27 n28 n29 n30 n31 n32 n33 n34:Int} {p:T16} {n:Nat} {sl:List T16} {pl:List Int} {tl:List T7} (h:OkP p ls lp lt n18 n19 n20 n21 n22 n23 n24 n25 n26 n27 n28 n29 n30 n31 n32 n33 n34 n sl pl tl):
  (1<=ls/\ls<=64)/\(1<=lp/\lp<=16)/\(0<=lt/\lt<=64)/\(1<=n18/\n18<=65535)/\(n18<=n19/\n19<=65535)/\(1<=n20/\n20<=4096)/\(1<=n21/\n21<=4096)/\(1<=n22/\n22<=4096):=by
 have b:=h.nums;simp only[bnds,agI,ajr,alf,forall_eq_or_imp,forall_eq,okB] at b;omega
theorem VG {p:T16} {n:Nat} {sl:List T16} {pl:List Int} {tl:List T7} (h:yM p n sl pl tl=true):∀x∈pl,nC x:=by
 intro x hx;unfold yM at h;simp only[alg,al_,List.any_eq_false] at h;have:=h.2.2.1 x hx;simpa using this
theorem adv {w:θ} {p0 p1 p2 p3 p4 p5 p6 p7 p8 p9 p10 p11 p12 p13 p14 p15:Int} {sw po:gG} {n18 n19 n20 n21 n22 n23 n24 n25 n26 n27 n28 n29 n30 n31 n32 n33 n34:Int} {st:gG} {sl:List T16} {pl:List Int} {tl:List T7} (aw:ny 16 e16 w sw sl) (ag:ny 1 eI w po pl) (ah:ny 7 e7 w st tl) (lsw:sw.len<=2^40) (lpo:po.len<=2^40) (lst:st.len<=2^40)
  {K:gu->Int->b_}
  (ai:∀r w',Ext w w'->r≠0->chk (p0,p1,p2,p3,p4,p5,p6,p7,p8,p9,p10,p11,p12,p13,p14,p15,()) sw.len po.len st.len n18 n19 n20 n21 n22 n23 n24 n25 n26 n27 n28 n29 n30 n31 n32 n33 n34 sw.len sl pl tl r->K none r w')
  (ax:OkP (p0,p1,p2,p3,p4,p5,p6,p7,p8,p9,p10,p11,p12,p13,p14,p15,()) sw.len po.len st.len n18 n19 n20 n21 n22 n23 n24 n25 n26 n27 n28 n29 n30 n31 n32 n33 n34 sw.len sl pl tl->fineP (p0,p1,p2,p3,p4,p5,p6,p7,p8,p9,p10,p11,p12,p13,p14,p15,()) sl pl tl sw.len n20->
   ∀w' a e,Ext w w'->lS w' a ⟨jO p0 p1 p2 p3 p4 p5 p6 p7 p8 p9 p10 p11 p12 p13 p14 p15 sw po n18 n19 n20 n21 n22 n23 n24 n25 n26 n27 n28 n29 n30 n31 n32 n33 n34 st,sw,pl,n18,n19,n20,n21,n22⟩ e->Inv ⟨jO p0 p1 p2 p3 p4 p5 p6 p7 p8 p9 p10 p11 p12 p13 p14 p15 sw po n18 n19 n20 n21 n22 n23 n24 n25 n26 n27 n28 n29 n30 n31 n32 n33 n34 st,sw,pl,n18,n19,n20,n21,n22⟩ e->NoS e->Maps ⟨jO p0 p1 p2 p3 p4 p5 p6 p7 p8 p9 p10 p11 p12 p13 p14 p15 sw po n18 n19 n20 n21 n22 n23 n24 n25 n26 n27 n28 n29 n30 n31 n32 n33 n34 st,sw,pl,n18,n19,n20,n21,n22⟩ (e0 sw.len n21.toNat n22.toNat) (tl.map toB) e->(∀k b,own a k b->w.heap.size<=b)->K (some ⟨a.x,0,none⟩) 0 w'):
  FW p0 p1 p2 p3 p4 p5 p6 p7 p8 p9 p10 p11 p12 p13 p14 p15 sw po n18 n19 n20 n21 n22 n23 n24 n25 n26 n27 n28 n29 n30 n31 n32 n33 n34 st w K:=by
 apply aaz;refine gU λa w1 r1 e1 z1 f1=> ?_;have rd:∀W (Q:_),Row W a (jO p0 p1 p2 p3 p4 p5 p6 p7 p8 p9 p10 p11 p12 p13 p14 p15 sw po n18 n19 n20 n21 n22 n23 n24 n25 n26 n27 n28 n29 n30 n31 n32 n33 n34 st)->Q p0 p1 p2 p3 p4 p5 p6 p7 p8 p9 p10 p11 p12 p13 p14 p15 sw po n18 n19 n20 n21 n22 n23 n24 n25 n26 n27 n28 n29 n30 n31 n32 n33 n34 st->tC W ⟨a,0,none⟩ Q:=by
  intro W Q hr hq;simp only[sx,hr.cell];exact hq
 refine rd _ _ r1 ?_;refine cmS1 (Ol (aw.ext f1) (ag.ext f1) (ah.ext f1) lsw lpo lst) ?_;rintro r w2 ⟨hc,f2⟩;have x2:=f1.trans f2;by_cases hr:r=0;rotate_left
 ·have:(r !=0)=true:=by simp_all
  rw[this,abt];exact ai r w2 x2 hr hc
 have:(r !=0)=false:=by simp_all
 rw[this,aaf];subst hr;rcases hc with ⟨_,h⟩|⟨Z,⟨_,h⟩|⟨u,_⟩⟩
 ·cases h
 ·cases h
 have hK:=ax Z u;have hn:=ail Z;obtain⟨b1,b2,b3,b4,b5,b6,b7,b8⟩:=hn;have r2:=r1.ext f2;refine rd _ _ r2 ?_;refine gU λx w3 r3 e3 z3 f3=> ?_;have x3:=x2.trans f3;have r2:=r2.ext f3;refine Ld_s 17 po r2 (Ld_i 18 n18 r2 (Ld_i 19 n19 r2 ?_));have hpl:=(ag.ext x3).len;refine cmS6 (PN.acs (ag.ext x3) (by omega) (by omega) u.2.1 (VG Z.parts) (by omega) (by omega) (by omega)) ?_;rintro _ _ w4 ⟨rfl,f4,p,g,ps,rfl,hP,nP⟩;have lP:∀b,PN.fp p g ps b->b<w4.heap.size:=λb hb=>by
  rcases hb with h|h|h
  ·rw[h];exact hP.hd.lt
  ·rw[h];exact hP.gv.lt
  ·exact hP.ad.lt h
 have r2:=r2.ext f4;refine jS.2 (iC (i:=0) (r3.ext f4) rfl (by simp) λw5 r5 f5' z5=> ?_);have f5:ig w4 w5 (·=x):=f5' _ rfl;have zx:x<w3.heap.size/\a<x:=by have:=f2.size;omega
 have hP:=hP.fr f5 λb hb e=>by grind
 have r2:=r2.fr f5 (by omega);refine Ld_s 16 sw r2 (Ld_i 20 n20 r2 ?_);refine cmS6 (QN.acs (sw.len:Int) n20 w5) ?_;rintro q _ w6 ⟨f6,hq⟩;have f6:Ext w5 w6:=f6;rcases hq with ⟨N,rfl,qb,qs,rfl,nq1,nq2,hQ⟩|⟨O,_,_⟩;rotate_left
 ·exact absurd ⟨by omega,by omega,by omega,by omega⟩ O
 have lQ:qb<w6.heap.size/\qs<w6.heap.size:=⟨hQ.hd.lt,hQ.row.lt⟩;have hP:=hP.ext f6;have r2:=r2.ext f6;refine jS.2 (iC (i:=1) (r5.ext f6) rfl (by simp) λw7 r7 f7' z7=> ?_);have f7:ig w6 w7 (·=x):=f7' _ rfl;have s4:=f4.size;have s6:=f6.size;have hP:=hP.fr f7 λb hb e=>by grind
 have hQ:=hQ.fr f7 (by omega) (by omega);have r2:=r2.fr f7 (by omega);refine Ld_i 21 n21 r2 ?_;refine cmS6 (ahK n21 w7) ?_;rintro _ _ w8 ⟨f8,⟨O,_,_⟩|⟨_,_,rfl,B,rfl,nB,hB⟩⟩
 ·exact absurd ⟨by omega,by omega⟩ O
 have hP:=hP.ext f8;have hQ:=hQ.fr (f8 λ_=>False) (by simp) (by simp);have r2:=r2.ext f8;refine jS.2 (iC (i:=2) (r7.ext f8) rfl (by simp) λw9 r9 f9' z9=> ?_);have f9:ig w8 w9 (·=x):=f9' _ rfl;have s8:=f8.size;have hP:=hP.fr f9 λb hb e=>by grind
 have hQ:=hQ.fr f9 (by omega) (by omega);have hB:=hB.fr f9 λb hb e=>by grind
 have r2:=r2.fr f9 (by omega);refine Ld_i 22 n22 r2 ?_;refine cmS6 (SN.aiR n22 w9) ?_;rintro _ _ ak ⟨f10,⟨O,_,_⟩|⟨_,_,rfl,T,rfl,nT,hT⟩⟩
 ·exact absurd ⟨by omega,by omega⟩ O
 have hP:=hP.ext f10;have hQ:=hQ.fr (f10 λ_=>False) (by simp) (by simp);have hB:=hB.ext f10;have r2:=r2.ext f10;refine jS.2 (iC (i:=3) (r9.ext f10) rfl (by simp) λaa ay am z11=> ?_);have f11:ig ak aa (·=x):=am _ rfl;have s10:=f10.size;have lT:∀b,SN.fp T b->b<ak.heap.size:=λb hb=>hT.lt hb;have hP:=hP.fr f11 λb hb e=>by grind
 have hQ:=hQ.fr f11 (by omega) (by omega);have hB:=hB.fr f11 λb hb e=>by grind
 have hT:=hT.fr f11 λb hb e=>by grind
 have r2:=r2.fr f11 (by omega);refine Ld_i 22 n22 r2 ?_;refine cmS6 (WN.ai3 n22 ⟨by omega,by omega⟩ aa) ?_;rintro _ _ ab ⟨f12,rfl,d,m,ss,rfl,hW,nW⟩;have f12:Ext aa ab:=f12;have hP:=hP.ext f12;have hQ:=hQ.fr (f12 λ_=>False) (by simp) (by simp);have hB:=hB.ext f12;have hT:=hT.ext f12;have r2:=r2.ext f12;refine jS.2 (iC (i:=4) (ay.ext f12) rfl (by simp) λac ar an z13=> ?_);have f13:ig ab ac (·=x):=an _ rfl;have s12:=f12.size;have lW:∀b,WN.qR d m ss b->b<ab.heap.size:=λb hb=>hW.wm.lt hb;have hP:=hP.fr f13 λb hb e=>by grind
 have hQ:=hQ.fr f13 (by omega) (by omega);have hB:=hB.fr f13 λb hb e=>by grind
 have hT:=hT.fr f13 λb hb e=>by grind
 have hW:=hW.fr f13 λb hb e=>by grind
 have r2:=r2.fr f13 (by omega);simp only[af5,ahm] at ar;have az:Ext w ac:=by
  have q5:=(x3.trans f4).nw f5;have q7:=(q5.trans f6).nw f7;have q9:=(q7.trans f8).nw f9;have aA:=(q9.trans f10).nw f11;exact(aA.trans f12).nw f13
 have au:=QN.aii N;rw[abu] at au;have hQ':QN.QR ac qb qs (List.replicate sw.len 0) n20:=by simpa using hQ
 have key:∀k b,own ⟨x,p,g,ps,qb,qs,B,T,d,m,ss⟩ k b->(k=0/\b=x)\/(k=1/\w3.heap.size<=b/\b<w4.heap.size)\/(k=2/\w5.heap.size<=b/\b<w6.heap.size)\/(k=3/\w7.heap.size<=b/\b<w8.heap.size)\/(k=4/\w9.heap.size<=b/\b<ak.heap.size)\/(k=5/\aa.heap.size<=b/\b<ab.heap.size):=by
  intro k b ho
  match k,ho with
  |0,ho=>exact .inl ⟨rfl,ho⟩
  |1,ho=>exact .inr (.inl ⟨rfl,nP b ho,lP b ho⟩)
  |2,ho=>
   refine .inr (.inr (.inl ⟨rfl,?_⟩));rcases ho with h|h<;>simp only at h<;>omega
  |3,ho=>exact .inr (.inr (.inr (.inl ⟨rfl,nB b ho⟩)))
  |4,ho=>exact .inr (.inr (.inr (.inr (.inl ⟨rfl,nT b ho,lT b ho⟩))))
  |5,ho=>exact .inr (.inr (.inr (.inr (.inr ⟨rfl,nW b ho,lW b ho⟩))))
  |(n+6),ho=>exact ho.elim
 have hE:lS ac ⟨x,p,g,ps,qb,qs,B,T,d,m,ss⟩ ⟨jO p0 p1 p2 p3 p4 p5 p6 p7 p8 p9 p10 p11 p12 p13 p14 p15 sw po n18 n19 n20 n21 n22 n23 n24 n25 n26 n27 n28 n29 n30 n31 n32 n33 n34 st,sw,pl,n18,n19,n20,n21,n22⟩ (e0 sw.len n21.toNat n22.toNat):=by
  refine⟨⟨rfl,rfl,rfl,rfl,rfl,by grind,by trivial,by trivial,by trivial,VG Z.parts⟩,ar,hP,hQ',au,hB,hT,hW,?_,?_⟩
  ·grind
  grind
 have hI:Inv ⟨jO p0 p1 p2 p3 p4 p5 p6 p7 p8 p9 p10 p11 p12 p13 p14 p15 sw po n18 n19 n20 n21 n22 n23 n24 n25 n26 n27 n28 n29 n30 n31 n32 n33 n34 st,sw,pl,n18,n19,n20,n21,n22⟩ (e0 sw.len n21.toNat n22.toNat):=by
  refine⟨by simp[e0],λi hi=> ?_,λo=> ?_,λj b hj=> ?_⟩
  ·have h1:YW (e0 sw.len n21.toNat n22.toNat).S i=0:=by
    unfold YW;show ((live 0 (List.replicate n21.toNat none)).filter _).length=0;rw[xC];rfl
   rw[h1];show (List.replicate sw.len (0:Int)).getD i.toNat 0=((0:Nat):Int)
   grind
  ·constructor
   ·intro h;trivial
   ·rintro⟨j,b,hj,_⟩;have hj:(List.replicate n21.toNat (none:Option Bnd))[j]? =some (some b):=hj
    grind
  ·have hj:(List.replicate n21.toNat (none:Option Bnd))[j]? =some (some b):=hj;rw[amA] at hj;split at hj<;>simp at hj
 have hS:NoS (e0 sw.len n21.toNat n22.toNat):=QH _ _;have N:∀k b,own ⟨x,p,g,ps,qb,qs,B,T,d,m,ss⟩ k b->w.heap.size<=b:=λk b h=>by
  grind
 refine Ld_s 35 st r2 ?_;have hlt:=ah.len;refine g_ (λs W=>∃(j:Nat) (a:EA) (e:ES),j<=tl.length/\s.1=(j:Int)/\Ext w W/\lS W a ⟨jO p0 p1 p2 p3 p4 p5 p6 p7 p8 p9 p10 p11 p12 p13 p14 p15 sw po n18 n19 n20 n21 n22 n23 n24 n25 n26 n27 n28 n29 n30 n31 n32 n33 n34 st,sw,pl,n18,n19,n20,n21,n22⟩ e/\Inv ⟨jO p0 p1 p2 p3 p4 p5 p6 p7 p8 p9 p10 p11 p12 p13 p14 p15 sw po n18 n19 n20 n21 n22 n23 n24 n25 n26 n27 n28 n29 n30 n31 n32 n33 n34 st,sw,pl,n18,n19,n20,n21,n22⟩ e/\NoS e/\Maps ⟨jO p0 p1 p2 p3 p4 p5 p6 p7 p8 p9 p10 p11 p12 p13 p14 p15 sw po n18 n19 n20 n21 n22 n23 n24 n25 n26 n27 n28 n29 n30 n31 n32 n33 n34 st,sw,pl,n18,n19,n20,n21,n22⟩ (e0 sw.len n21.toNat n22.toNat) ((tl.take j).map toB) e/\(∀k b,own a k b->w.heap.size<=b)/\a.x=x)
  (λs _=>(st.len - s.1).toNat) ⟨0,_,_,by omega,rfl,az,hE,hI,hS,Maps.nil,N,rfl⟩ ?_
 rintro⟨i,⟨⟩⟩ W ⟨j,aj,ej,hj,hi,hx,R,U,ao,ae,I,af⟩ next J
 simp only at hi;subst hi;by_cases hl:(j:Int)<(st.len:Int)
 ·simp only[hl,acI,abt];have hg:=adP (show j<tl.length by omega);generalize tl[j]=y at hg;obtain⟨y0,y1,y2,y3,y4,y5,y6,⟨⟩⟩:=y;refine SlN_ix xw (by omega) (ah.ext hx) (by omega) (by rw[abu];exact hg) λad hc=> ?_;have c0:=hc 0 _ rfl;have c1:=hc 1 _ rfl;have c2:=hc 2 _ rfl;have c3:=hc 3 _ rfl;have c4:=hc 4 _ rfl;have c5:=hc 5 _ rfl;have c6:=hc 6 _ rfl;simp only[XP,c0,c1,c2,c3,c4,c5,c6,gJ,ϫ];refine gU λt w14 aB e14 z14 f14=> ?_;refine gZ aB rfl rfl λaC aD aq z15=> ?_;have xx:Ext W aC:=f14.new (aq (·=t) rfl) λb hb e=>by omega
  simp only[sx,aD.cell];have av:(tl.take (j+1)).map toB=(tl.take j).map toB++[toB (y0,y1,y2,y3,y4,y5,y6,())]:=by
   have aE:j<tl.length:=(afg.1 hg).1;rw[akx aE,al4,(afg.1 hg).2];rfl
  rw[<- af];refine cmS1 (map_ok (R.ext xx) U (toB (y0,y1,y2,y3,y4,y5,y6,())) rfl) ?_;rintro r w16 ⟨rfl,⟨aF,f16⟩|⟨he,_,f16,A,i,Mi,Mo,Q,G,Y,aG,hE',hI'⟩⟩
  ·rw[Α];have:=(R.ext xx).ext f16;refine J _ _ ⟨j+1,aj,ej,by omega,by simp,(hx.trans xx).trans f16,this,U,ao,?_,I,af⟩ (by omega);rw[av];exact Maps.no ae U R.db.good aF
  ·rw[Α];refine J _ _ ⟨j+1,{aj with B:=A},_,by omega,by simp,(hx.trans xx).new f16 λb hb ⟨k,hk⟩=>by grind,hE',hI',ao,?_,?_,af⟩ (by omega)
   ·rw[av];exact Maps.yes ae U R.db.good he Y
   ·intro k b hk;have zz:=(hx.trans xx).size
    match k,hk with
    |0,ho=>exact I 0 b ho
    |1,ho=>exact I 1 b ho
    |2,ho=>exact I 2 b ho
    |3,ho=>
     rcases aG b ho with h|h
     ·exact I 3 b h
     ·omega
    |4,ho=>exact I 4 b ho
    |5,ho=>exact I 5 b ho
    |(n+6),ho=>exact ho.elim
 ·simp only[hl,acR,aaf];have:j=tl.length:=by omega
  subst this;rw[alo] at ae;rw[<- af];exact hK W aj ej hx R U ao ae I
end Go.Proofs.EN
end
section
namespace Go.Proofs.EN
open Gp Go.Proofs Go.Proofs.CN
theorem ahb {w:θ} {p0 p1 p2 p3 p4 p5 p6 p7 p8 p9 p10 p11 p12 p13 p14 p15:Int} {sw po:gG} {n18 n19 n20 n21 n22 n23 n24 n25 n26 n27 n28 n29 n30 n31 n32 n33 n34:Int} {st:gG}:Eb p0 p1 p2 p3 p4 p5 p6 p7 p8 p9 p10 p11 p12 p13 p14 p15 sw po n18 n19 n20 n21 n22 n23 n24 n25 n26 n27 n28 n29 n30 n31 n32 n33 n34 st w λr w'=>r=decide (sw.len<=8/\po.len<=4/\st.len<=12)/\Ext w w':=by
 apply U_;refine gU λa w1 r1 e1 z1 f1=> ?_;intro J;have hJ:∀q,q=decide (sw.len<=8/\po.len<=4/\st.len<=12)->J q:=λq hq=>⟨hq,f1⟩;clear_value J;refine Ld_s 16 sw r1 ?_;by_cases c1:(sw.len:Int)<=8;rotate_left
 ·rw[adX c1,aaf];exact hJ _ (adX λh=>by omega).symm
 rw[aff c1,abt];refine Ld_s 17 po r1 ?_;by_cases c2:(po.len:Int)<=4;rotate_left
 ·rw[adX c2,aaf];exact hJ _ (adX λh=>by omega).symm
 rw[aff c2,abt];refine Ld_s 35 st r1 ?_;refine hJ _ (amJ.2 ?_);omega
theorem zY {w:θ} {p0 p1 p2 p3 p4 p5 p6 p7 p8 p9 p10 p11 p12 p13 p14 p15:Int} {sw po:gG} {n18 n19 n20 n21 n22 n23 n24 n25 n26 n27 n28 n29 n30 n31 n32 n33 n34:Int} {st:gG} {sl:List T16} {pl:List Int} {tl:List T7} (h:ny 16 e16 w sw sl) (u:ny 1 eI w po pl) (I:ny 7 e7 w st tl) {K:Bool->b_}
  (h0:∀w',Ext w w'->K false w')
  (h1:∀w',Ext w w'->sw.len<=8->po.len<=4->st.len<=12->chk (p0,p1,p2,p3,p4,p5,p6,p7,p8,p9,p10,p11,p12,p13,p14,p15,()) sw.len po.len st.len n18 n19 n20 n21 n22 n23 n24 n25 n26 n27 n28 n29 n30 n31 n32 n33 n34 sw.len sl pl tl 0->K true w'):
  Ea p0 p1 p2 p3 p4 p5 p6 p7 p8 p9 p10 p11 p12 p13 p14 p15 sw po n18 n19 n20 n21 n22 n23 n24 n25 n26 n27 n28 n29 n30 n31 n32 n33 n34 st w K:=by
 apply U9;refine gU λa w1 r1 e1 z1 f1=> ?_;have rd:∀W (Q:_),Row W a (jO p0 p1 p2 p3 p4 p5 p6 p7 p8 p9 p10 p11 p12 p13 p14 p15 sw po n18 n19 n20 n21 n22 n23 n24 n25 n26 n27 n28 n29 n30 n31 n32 n33 n34 st)->Q p0 p1 p2 p3 p4 p5 p6 p7 p8 p9 p10 p11 p12 p13 p14 p15 sw po n18 n19 n20 n21 n22 n23 n24 n25 n26 n27 n28 n29 n30 n31 n32 n33 n34 st->tC W ⟨a,0,none⟩ Q:=by
  intro W Q hr hq;simp only[sx,hr.cell];exact hq
 intro J;have hJ0:∀W,Ext w W->J false W:=λW hW=>h0 W hW;have hJ1:∀W,Ext w W->sw.len<=8->po.len<=4->st.len<=12->chk (p0,p1,p2,p3,p4,p5,p6,p7,p8,p9,p10,p11,p12,p13,p14,p15,()) sw.len po.len st.len n18 n19 n20 n21 n22 n23 n24 n25 n26 n27 n28 n29 n30 n31 n32 n33 n34 sw.len sl pl tl 0->J true W:=λW hW=>h1 W hW;clear_value J;refine rd _ _ r1 ?_;refine cmS0 ahb ?_;rintro _ w2 ⟨rfl,f2⟩;by_cases hs:sw.len<=8/\po.len<=4/\st.len<=12;rotate_left
 ·rw[adX hs,aaf];exact hJ0 _ (f1.trans f2)
 rw[aff hs,abt];have x2:=f1.trans f2;refine rd _ _ (r1.ext f2) ?_;refine cmS1 (aaY (h.ext x2) (u.ext x2) (I.ext x2) (by omega) (by omega) (by omega)) ?_;rintro r w3 ⟨hc,f3⟩;by_cases hr:r=0
 ·subst hr;exact hJ1 _ (x2.trans f3) hs.1 hs.2.1 hs.2.2 hc
 ·have:(r==0)=false:=by simpa using hr
  rw[this];exact hJ0 _ (x2.trans f3)
end Go.Proofs.EN
end
section
namespace Go.Proofs.AN
open Gp Gp.V4 Go.Proofs Go.Proofs.VN
open Gp.Bind (In64)
variable {w w':θ}
structure Dn where
 op:Int
 sw:Int
 now:Int
 b:gG
 bl:List UInt8
 q:kZ
 o:gG
 d:gG
 t0:Int
 t1:Int
 t2:Int
 t3:Int
 t4:Int
 t5:Int
 t6:Int
def dnV (x:Dn):List Value:=Ob x.op x.sw x.now x.b x.q.tos x.q.id x.q.off x.q.ttl x.q.proto x.q.src x.q.dst x.q.df x.q.mf x.o x.d x.t0 x.t1 x.t2 x.t3 x.t4 x.t5 x.t6
theorem adf (x:Dn):(dnV x).length=22:=rfl
structure ϖ (w:θ) (s:gG) (xs:List Dn):Prop where
 sl:ny 22 dnV w s xs
 by_:∀x∈xs,iH w x.b x.bl/\iH w x.o x.q.opts/\iH w x.d x.q.data
 t:∀x∈xs,∀n∈[x.t0,x.t1,x.t2,x.t3],In64 n
theorem ϖ.ext {s:gG} {xs:List Dn} (h:ϖ w s xs) (hf:Ext w w'):ϖ w' s xs:=⟨h.sl.ext hf,λx hx=>⟨(h.by_ x hx).1.ext hf,(h.by_ x hx).2.1.ext hf,(h.by_ x hx).2.2.ext hf⟩,h.t⟩
theorem ai_ {W:θ} {s:gG} {xs:List Dn} (h:ϖ W s xs) {j:Nat} {y:Dn} (hg:xs[j]? =some y) {Q:Int->Int->Int->gG->Int->Int->Int->Int->Int->Int->Int->Bool->Bool->gG->gG->Int->Int->Int->Int->Int->Int->Int->Prop}
  (hq:Q y.op y.sw y.now y.b y.q.tos y.q.id y.q.off y.q.ttl y.q.proto y.q.src y.q.dst y.q.df y.q.mf y.o y.d y.t0 y.t1 y.t2 y.t3 y.t4 y.t5 y.t6):iK s 22 (j:Int) λa5=>TG W a5 Q:=by
 refine CN.SlN_ix adf (by omega) h.sl (by omega) (by rw[abu];exact hg) λad hc=> ?_;refine aje (λi hi=> ?_) hq;have h22:(dnV y).length=22:=rfl;rw[hc i _ (adP (by trivial))];exact(adP (by trivial)).symm
theorem ajK {s:gG} {xs:List Dn} (hs:ϖ w s xs):Ir s w λr w'=>(r=true->xs.length<=40/\∀x∈xs,x.bl.length<=1500/\x.q.data.length<=1500/\x.q.opts.length<=100)/\Ext w w':=by
 apply ZE;have hl:=hs.sl.len;refine g_ (λq W=>∃j:Nat,j<=xs.length/\j<=40/\q.2.1=(j:Int)/\Ext w W/\∀x∈xs.take j,x.bl.length<=1500/\x.q.data.length<=1500/\x.q.opts.length<=100) (λq _=>(s.len - q.2.1).toNat) ⟨0,by omega,by omega,rfl,Ext.refl _,by simp⟩ ?_;rintro⟨n,i,⟨⟩⟩ W ⟨j,hj,hj40,hi,hW,hall⟩ next u
 dsimp -zeta only at hi ⊢;subst hi;by_cases R:(j:Int)<(s.len:Int);rotate_left
 ·have O:=adX R;rw[O,aaf]
  grind
 have O:=aff R;simp -zeta only[O,abt];have hg:=adP (show j<xs.length by omega);have I:=akU (show j<xs.length by omega);generalize xs[j]=y at hg I;refine ai_ (hs.ext hW) hg ?_;refine gU λa w1 r1 e1 z1 f1=> ?_;refine gZ r1 rfl rfl λw2 r2 f2' z2=> ?_;have f2:=f2' _ rfl;have x2:=(hW.trans f1).new f2 λy hy e=>by have:=hW.size;omega
 obtain⟨y1,y2,y3⟩:=hs.by_ y I;have l1:=y1.1;have l2:=y2.1;have l3:=y3.1;intro J;have N:J true:=⟨λh=>Bool.noConfusion h,x2⟩;have U:j<40->y.bl.length<=1500/\y.q.data.length<=1500/\y.q.opts.length<=100->J false:=by
  intro h40 hy;simp -zeta only[J];rw[aaf];refine iF r2 rfl ?_;rw[show ο.wrap ((j:Int)+1)=((j+1:Nat):Int) by rw[Α];rfl];refine u _ _ ⟨j+1,by omega,by omega,rfl,x2,λx hx=> ?_⟩ (by grind);rw[akx (by omega),alj,alk] at hx
  grind
 clear_value J;by_cases c1:(j:Int)>=40
 ·rw[aff c1,abt];exact N
 rw[adX c1,aaf];refine iF r2 rfl ?_;by_cases c2:(y.b.len:Int)>1500
 ·rw[aff c2,abt];exact N
 rw[adX c2,aaf];refine iO (by rw[gY,gY,r2.cell];rfl) ?_;by_cases c3:(y.d.len:Int)>1500
 ·rw[aff c3,abt];exact N
 rw[adX c3,aaf];refine iO (by rw[gY,gY,r2.cell];rfl) ?_;by_cases c4:(y.o.len:Int)>100
 ·rw[aff c4];exact N
 rw[adX c4];exact U (by omega) ⟨by omega,by omega,by omega⟩
end Go.Proofs.AN
namespace Go.Proofs.EN
open Gp Go.Proofs Go.Proofs.AN Go.Proofs.CN
open Gp.Bind (Bnd Slots live GoodB freeN getS In64)
variable {c:Cf} {e e1:ES}
theorem Maps.rest {l:List Bnd} (h:Maps c e l e1):e1.now=e.now/\e1.SS=e.SS/\e1.l=e.l/\e1.wn=e.wn/\e1.tn=e.tn:=by
 induction h with
 |nil=>trivial
 |no _ _ _ _ ih=>exact ih
 |yes _ _ _ _ _ ih=>exact ih
theorem gd0 {n nb ns:Nat} {l:List Bnd} (h:Maps c (e0 n nb ns) l e1) (hi:Inv c e1):Gd c e1:=by
 obtain⟨q1,q2,q3,q4,q5⟩:=h.rest;have hn:∀(k:Nat) (s:Gp.Ses.Ses),¬e1.SS[k]? =some (some s):=by
  intro k s hs;rw[q2] at hs;have hs:(List.replicate ns (none:Option Gp.Ses.Ses))[k]? =some (some s):=hs
  grind
 refine⟨hi,λk s hs=>absurd hs (hn k s),λid t ht=> ?_,λk s hs=>absurd hs (hn k s),?_,?_,?_⟩
 ·rw[q3] at ht;cases ht
 ·rw[q3,q2];show 0=(Gp.Ses.live 0 (List.replicate ns none)).length;rw[QH];rfl
 ·rw[q4,q1];rfl
 ·rw[q1];exact Nat.zero_le _
theorem cfm {p:T16} {lt n18 n19 n20 n21 n22 n23 n24 n25 n26 n27 n28 n29 n30 n31 n32 n33 n34:Int} {sw po st:gG} {sl:List T16} {pl:List Int} {tl:List T7} {p0 p1 p2 p3 p4 p5 p6 p7 p8 p9 p10 p11 p12 p13 p14 p15:Int} (hpl:po.len=pl.length)
  (h:OkP p sw.len po.len lt n18 n19 n20 n21 n22 n23 n24 n25 n26 n27 n28 n29 n30 n31 n32 n33 n34 sw.len sl pl tl) (_:fineP p sl pl tl sw.len n20):
  CfM ⟨jO p0 p1 p2 p3 p4 p5 p6 p7 p8 p9 p10 p11 p12 p13 p14 p15 sw po n18 n19 n20 n21 n22 n23 n24 n25 n26 n27 n28 n29 n30 n31 n32 n33 n34 st,sw,pl,n18,n19,n20,n21,n22⟩/\1<=n30/\n30<=1048576:=by
 have b:=h.nums;simp only[bnds,agI,ajr,alf,forall_eq_or_imp,forall_eq,okB] at b;obtain⟨b1,b2,b3,b4,b5,b6,b7,b8,_,_,_,_,_,_,b30,b31,b32,b33,_⟩:=b;refine⟨⟨by grind,by simp_all,by simp_all,by grind,_,_,_,_,_,_,_,_,_,_,_,_,_,_,_,_,_,_,_,_,_,_,_,_,_,_,_,_,_,_,_,_,_,_,_,_,rfl,?_,?_,?_,?_⟩,by omega,by omega⟩<;>omega
end Go.Proofs.EN
end
section
namespace Go.Proofs.AN
open Gp Gp.V4 Go.Proofs Go.Proofs.VN
open Gp.Bind (In64)
variable {w w':θ}
theorem ale (p:kZ) {o d:gG} (ho:iH w o p.opts) (hd:iH w d p.data) (h1:p.opts.length<=2^40) (h2:p.data.length<=2^40) (ad po:Int)
  {K:Int->Int->Int->Int->Int->Int->Int->Bool->Bool->gG->gG->Int->b_}
  (hK:∀x0 x1 x2 x3 x4 x5 x6 x7 x8 x9 h e w',Ext w w'->(afo p p.src ad (-1) po->ajp w.heap.size w' p p.src ad (-1) po x0 x1 x2 x3 x4 x5 x6 x7 x8 x9 h e)->K x0 x1 x2 x3 x4 x5 x6 x7 x8 x9 h e w'):
  MV p.tos p.id p.off p.ttl p.proto p.src p.dst p.df p.mf o d ad po w K:=by
 apply aaD;refine gU λg0 w1 r1 e1 z1 f1=> ?_;refine gU λg1 w2 r2 e2 z2 f2=> ?_;have x2:=f1.trans f2;have u:=r1.ext f2;have za:=f1.size;have zb:=f2.size;refine lu u (iF u rfl ?_);refine aao p (ho.ext x2) (hd.ext x2) h1 h2 _ _ _ _ λy0 y1 y2 y3 y4 y5 y6 y7 y8 y9 y10 e W hW hR=> ?_;refine StN_f (r2.ext hW) λw4 r4 f4 z4=> ?_;refine lu r4 ?_;refine hK _ _ _ _ _ _ _ _ _ _ _ e w4 ((x2.trans hW).nw f4) λhm=> ?_;obtain⟨q1,⟨q2,b3,q3⟩,q4⟩:=hR hm;exact⟨q1,⟨q2,b3.fr f4 λad ha h0 e=>jo (r2.ext hW) (by simp) b3 ha h0 e,q3.fr f4 λad ha h0 e=>jo (r2.ext hW) (by simp) q3 ha h0 e⟩,λx hx=>by have:=q4 x hx;omega⟩
def e2 (x:Int×Int):List Value:=[Β x.1,Β x.2]
theorem Uk (x:Int×Int):(e2 x).length=2:=rfl
theorem ajD (x:Int×Int):∀v∈e2 x,iP v=true:=by
 intro v hv;simp only[e2,agI,ajr,alf] at hv;rcases hv with rfl|rfl<;>rfl
def alw (f:Int) (ra rp:Int) (l:List (Int×Int)):Prop:=f=0\/(f=1/\∃x∈l,x.1=ra)\/(f=2/\(ra,rp)∈l)
theorem X_ {s:gG} {l:List (Int×Int)} {P:Int×Int->Prop} (hl:s.len=l.length) (hn:l.length<=2^40) {body:Int×Unit->θ->(Int×Unit->b_)->Prop} {K:Int->b_}
  (hK:∀r w',Ext w w'->(decide (r>=0)=true↔∃x∈l,P x)->K r w')
  (hb:∀(j:Nat) x W next,l[j]? =some x->Ext w W->(P x->∀W',Ext w W'->K (j:Int) W')->(¬P x->∀W',Ext w W'->next ((((j+1:Nat):Int)),()) W')->body ((j:Int),()) W next):
  iQ (λs3 W next=>bif decide (s3.1<(s.len:Int)) then body s3 W next else K (-1) W) (0,()) w:=by
 refine g_ (λq W=>∃j:Nat,j<=l.length/\q.1=(j:Int)/\Ext w W/\∀x∈l.take j,¬P x) (λq _=>(s.len - q.1).toNat) ⟨0,by omega,rfl,Ext.refl _,by simp⟩ ?_;rintro⟨i,⟨⟩⟩ W ⟨j,hj,hi,hW,u⟩ next I
 dsimp only at hi ⊢;subst hi;by_cases O:(j:Int)<(s.len:Int)
 ·rw[aff O,abt];have J:j<l.length:=by omega
  have hg:=adP J;have N:=akU J;refine hb j _ W next hg hW (λhp W' hW'=>hK _ W' hW' ⟨λ_=>⟨_,N,hp⟩,λ_=>by rw[aff];omega⟩) λhp W' hW'=>I _ _ ⟨j+1,J,rfl,hW',λx hx=> ?_⟩ (by omega)
  rw[akx J,alj,alk] at hx
  grind
 ·rw[adX O,aaf];rw[ali (by omega)] at u;exact hK _ W hW ⟨λh=>by simp at h,λ⟨x,hx,hp⟩=>absurd hp (u x hx)⟩
theorem afv (f ra rp:Int) {s:gG} {l:List (Int×Int)} (hs:ny 2 e2 w s l) (hn:l.length<=2^40):BG f ra rp s w λr w'=>(r=true↔alw f ra rp l)/\Ext w w':=by
 apply RV;refine gU λa w1 r1 e1 z1 f1=> ?_;have hl:=hs.len;by_cases h0:f=0
 ·subst h0;exact⟨⟨λ_=> .inl rfl,λ_=>rfl⟩,f1⟩
 rw[show (f==0)=false by simp_all,aaf];have hi:∀j:Nat,j<l.length->ο.wrap ((j:Int)+1)=((j+1:Nat):Int):=λj hj=>by rw[Α];rfl
 by_cases h1:f=1
 ·subst h1;show cond true _ _;rw[abt];apply qw;apply rH;refine X_ (K:=λr w'=>(decide (r>=0)=true↔alw 1 ra rp l)/\Ext w w') hl hn (λr w' hx hr=>⟨hr.trans ⟨λh=> .inr (.inl ⟨rfl,h⟩),λh=> ?_⟩,f1.trans hx⟩) ?_
  ·rcases h with h|⟨_,h⟩|⟨h,_⟩
   ·cases h
   ·exact h
   ·cases h
  intro j x W next hg hW hy I
  refine CN.SlN_ix Uk (by omega) (hs.ext (f1.trans hW)) (by omega) (by rw[abu];exact hg) λad hc=> ?_;refine iO (hc 0 _ rfl) (iO (hc 1 _ rfl) ?_);refine CN.kJ (by kernel_rfl) ?_;refine Calls.mono (OU (K:=λr W'=>r=(x.1==ra)/\Ext W W') ?_) ?_
  ·refine gU λb w2 r2 e2 z2 f2=> ?_;exact iF r2 rfl (iF ((r1.ext hW).ext f2) rfl ⟨rfl,f2⟩)
  rintro ev W' ⟨r,he,rfl,hW'⟩;refine⟨_,he,_,rfl,?_⟩;by_cases hp:x.1=ra
  ·rw[show (x.1==ra)=true by simp_all,abt];exact hy hp W' (hW.trans hW')
  ·rw[show (x.1==ra)=false by simp_all,aaf,hi j (afg.1 hg).1];exact I hp W' (hW.trans hW')
 rw[show (f==1)=false by simp_all,aaf];by_cases h2:f=2
 ·subst h2;show cond true _ _;rw[abt];refine iF r1 rfl (iF r1 rfl ?_);apply sF;refine gU λb w2 r2 e2 z2 f2=> ?_;refine iF r2 rfl (iF r2 rfl ?_);apply uJ;refine gU λc w3 r3 e3 z3 f3=> ?_;have x3:=(f1.trans f2).trans f3;refine X_ (K:=λr w'=>(decide (r>=0)=true↔alw 2 ra rp l)/\Ext w w') (P:=λx=>x=(ra,rp)) hl hn (λr w' hx hr=>⟨hr.trans ⟨λ⟨x,h,e⟩=> .inr (.inr ⟨rfl,e ▸ h⟩),λh=> ?_⟩,x3.trans hx⟩) ?_
  ·rcases h with h|⟨h,_⟩|⟨_,h⟩
   ·cases h
   ·cases h
   simp_all
  intro j x W next hg hW hy I
  have u:=hW.trans (Ext.drew W);have r3d:=r3.ext u;refine iF r3d rfl (iF r3d rfl ?_);refine CN.SlN_ix Uk (by omega) (hs.ext (x3.trans u)) (by omega) (by rw[abu];exact hg) λad hc=> ?_;refine iO (hc 0 _ rfl) (iO (hc 1 _ rfl) ?_);by_cases hp:x=(ra,rp)
  ·rw[show ((ra==x.1) && ((rp==x.2) && true))=true by simp_all,abt];exact hy hp _ u
  ·rw[show ((ra==x.1) && ((rp==x.2) && true))=false by
    grind,aaf,hi j (afg.1 hg).1]
   exact I hp _ u
 ·rw[show (f==2)=false by simp_all,aaf];exact⟨⟨λh=>Bool.noConfusion h,λh=>absurd h (by rintro(h|⟨h,_⟩|⟨h,_⟩)<;>omega)⟩,f1⟩
end Go.Proofs.AN
end
section
namespace Go.Proofs.EN
open Gp Gp.V4 Go.Proofs Go.Proofs.AN Go.Proofs.VN
open Gp.Bind (Bnd Slots live GoodB freeN getS In64)
open Gp.Ses (Ses)
variable {w w':θ} {a:EA} {c:Cf} {e:ES}
def rem (e:ES) (id:Int):List (Int×Int):=(SN.zH e.SS id).map λx=>(x.2.ra,x.2.rp)
theorem aiG (h:lS w a c e) (id:Int):wo (some ⟨a.x,0,none⟩) id w λr w'=>ny 2 e2 w' r (rem e id)/\Ext w w':=by
 apply LC;refine gU λq w1 r1 e1 z1 f1=> ?_;have h1:=h.ext f1;refine jS.2 (iO (by rw[gY];exact h1.c3) ?_);refine cmS4 (acS w1 _ _) ?_;rintro v w5 ⟨f5,g0,g1,rfl,p0,p1,_⟩;have h5:=h1.ext f5;have r5:=r1.ext f5;have hz5:=r5.lt;have hll:(SN.zH e.SS id).length<=4096:=by
  refine akK (anf _ _) ?_;have:=Gp.Ses.jL e.SS 0;have:=h.sl;have:=h.cf.s1;omega
 have O:(SN.yS (SN.zH e.SS id)).length=(rem e id).length:=by unfold SN.yS rem;simp
 have hrl:(rem e id).length<=4096:=by unfold rem;simp_all
 refine QG (SN.aat c.ns.toNat e.SS a.T g0 g1 id) (λN i W=>w5.heap.size+1<N/\∃t,Row W q [Δ t]/\jc 2 e2 W t ((rem e id).take i)/\ig w5 W (·=q)/\∀b,gG.at t b->N<=b) ?_ ?_ ?_ ?_ ?_
 ·intro W hx hz;exact⟨by omega,⟨none,0,0⟩,r5.ext hx,by simpa using jc.nil,hx _,λb ⟨o,hb⟩=>by cases hb⟩
 ·rintro N i W ⟨_,t,k1,k2,k3,k4⟩;have ne:∀{b v},Row w5 b [v]->(∀t:gG,v≠Δ t)->b≠q:=by
   rintro b v hr hv rfl;have c1:=hr.cell 0;rw[r5.cell] at c1;simp only[afe,aho] at c1;exact hv ⟨none,0,0⟩ c1.symm
  refine⟨p0.fr k3 (ne p0 (by simp)),p1.fr k3 (ne p1 (by simp)),a.T,e.SS,e.M,h5.se.fr k3 λb hb e=>by have:=h.lt 4 b hb;omega,rfl,λ_=>rfl,λx hx=> ?_⟩;obtain⟨j,q1,q2,_⟩:=UU (amD hx);rw[q1];exact Gp.Ses.lX.2 ⟨by omega,by trivial⟩
 ·rintro N i W W' ⟨hN,t,k1,k2,k3,k4⟩ hf;exact⟨hN,t,k1.fr hf (by omega),k2.fr hf λb hb e=>by grind,k3.trans hf λb hb e=>by omega,k4⟩
 ·rintro N i x W Kb hx ⟨_,t,k1,k2,k3,k4⟩ hN hNW hk;have hb:∃p,(SN.zH e.SS id)[i]? =some p/\x=(p.1,(p.2.bd,p.2.st,p.2.un,p.2.ra,p.2.rp,()),()):=by
   unfold SN.yS at hx;rw[aiK] at hx
   grind
  obtain⟨p,hp,rfl⟩:=hb;have hil:=(afg.1 hp).1;have hr:(rem e id)[i]? =some (p.2.ra,p.2.rp):=by unfold rem;simp_all
  have R:=(afg.1 hr).1;refine gU λu w6 r6 e6 z6 f6=> ?_;refine gZ r6 rfl rfl λw7 r7 f7' z7=> ?_;have x7:=f6.new (f7' (·=u) rfl) λy hy e=>by omega
  refine⟨(x7 λ_=>False).same _ (by omega) (by simp),?_⟩;have fb:=ig.gQ w7 (w5.heap.size+1);have zb:(gQ w7 (w5.heap.size+1)).heap.size=w7.heap.size:=by simp[gQ]
  have q8:=(k1.ext x7).fr fb (by omega);have b8:=(k2.ext x7).fr fb λb hb e=>by grind
  have u8:=r7.fr fb (by omega);refine iF q8 rfl ?_;refine iO (by rw[gY,gY,u8.cell];rfl) (iO (by rw[gY,gY,u8.cell];rfl) ?_);refine gU λy w8 r8 e8 z8 f8=> ?_;have sl:=(jc.row (xs:=[(p.2.ra,p.2.rp)]) (by simpa [e2] using r8)).sl Uk (by omega);refine mO Uk (b8.ext f8) sl rfl (by omega) ajD (by simp;omega) (by simp;omega) λs' w9 b9 f9 n9=> ?_;have U:¬gG.at t q:=λhb=>by grind
  have q9:=(q8.ext f8).fr f9 U;refine iC q9 rfl (by simp) λI Y J z10=> ?_;have f10:ig w9 I (·=q):=J _ rfl;have hz7:=x7.size;have hs':∀b,gG.at s' b->N<=b:=λb hb=>by
   grind
  have fr:ig (gQ W (w5.heap.size+1)) I (λb=>b=q\/gG.at t b):=
   (((CN.Dh (x7 _) _).ext f8).trans f9 λb _ hb=> .inr hb).trans f10 λb _ hb=> .inl hb
  refine hk I _ fr ?_ ⟨by omega,s',Y,?_,?_,hs'⟩
  ·grind
  ·rw[akx R,(afg.1 hr).2];exact b9.fr f10 λb hb e=>by grind
  ·refine(k3.trans (ig.gQ W _) λb hb e=>by omega).trans fr ?_
   grind
 ·rintro N W ⟨hN,t,k1,k2,k3,k4⟩ hm;refine iF k1 rfl ⟨hm rfl,?_⟩;have fp:=ig.nG W w5.heap.size (.deferred none);have k2':=k2.fr fp λb hb e=>by grind
  rw[O,alo] at k2';refine⟨k2'.sl Uk (by omega),?_⟩;exact((((f1.trans f5).fr k3).ext (Ext.refl _)).trans (fp.mono (S':=λb=>b=q\/b=w5.heap.size) λb e=> .inr e) λb hb e=>by omega).new λb hb e=>by omega
end Go.Proofs.EN
end
