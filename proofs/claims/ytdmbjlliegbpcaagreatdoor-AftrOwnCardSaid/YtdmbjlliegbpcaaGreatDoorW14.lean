import Derived.Test.YtdmbjlliegbpcaaGreatDoorW13
import Derived.Test.YtdmbjlliegbpcaaGreatDoorW9
import Derived.Test.YtdmbjlliegbpcaaGreatDoorW11
import Derived.Test.YtdmbjlliegbpcaaGreatDoorW3
import Derived.Test.YtdmbjlliegbpcaaGreatDoorW2
open List (drop_append_of_le_length drop_of_length_le drop_take exists_cons_of_length_eq_add_one length_drop mem_cons nil_append not_mem_nil take_of_length_le take_take)
set_option maxRecDepth 100000
set_option maxHeartbeats 2000000
section
open List (getElem?_cons_succ getElem?_cons_zero length_take)
open Int (tmod_eq_emod_of_nonneg toNat_natCast)
namespace Go.Proofs.RN
open Gp Gp.V4 Go.Proofs.VN
theorem JL (a0 a1 a2 a3 a4 a5 a6:Int) (a7 a8:Bool) (a9 u:fU) (h:a9.len<=2^60) (w:θ):yR a0 a1 a2 a3 a4 a5 a6 a7 a8 a9 u w λr w'=>r=20+(a9.len:Int)/\Ext w w':=by
 apply U9;refine gq λa w1 r1 _ _ f1=> ?_;simp only[sx,getElem?_cons_zero,getElem?_cons_succ,r1.cell];exact⟨by rw[Α],f1⟩
theorem CW (a0 a1 a2 a3 a4 a5 a6:Int) (a7 a8:Bool) (a9 u:fU) (h:a9.len<=2^60) (h':u.len<=2^60) (w:θ):vT a0 a1 a2 a3 a4 a5 a6 a7 a8 a9 u w λr w'=>r=20+(a9.len:Int)+(u.len:Int)/\Ext w w':=by
 apply U_;refine gq λa w1 r1 _ _ f1=> ?_;simp only[sx,getElem?_cons_zero,getElem?_cons_succ,r1.drew.cell];refine cmS1 (JL _ _ _ _ _ _ _ _ _ _ _ h _) ?_;rintro r w2 ⟨rfl,f2⟩;refine⟨by rw[(r1.drew.ext f2).cell];rfl,?_,(f1.trans (Ext.drew _)).trans f2⟩;rw[Α]
theorem MI (a b:Int):(a==b)=decide (a=b):=rfl
theorem acT {w:θ} (p:jG) {o d:fU} (ho:o.len=p.opts.length) (hd:d.len=p.data.length) (h1:p.opts.length<=2^46) (h2:p.data.length<=2^46):
  B_ p.tos p.id p.off p.ttl p.proto p.src p.dst p.df p.mf o d w λr w'=>r=p.check/\Ext w w':=by
 apply Tn;refine gq λa w1 r1 _ _ f1=> ?_;intro J4;have hJ:∀b,b=decide (iK p.tos 1/\iK p.ttl 1/\iK p.proto 1/\iK p.id 2)->J4 b w1:=by
  rintro b hb;simp -zeta only[J4];intro J7;have h7:∀c,c=decide ((kD p.src/\kD p.dst)/\(0<=p.off/\p.off<=65528/\Int.tmod p.off 8=0))->J7 c w1:=by
   rintro c hc;simp -zeta only[J7];intro J;have N:∀e,e=decide (p.opts.length<=40/\p.opts.length % 4=0)->J e:=by
    rintro e he;simp -zeta only[J];intro O;have I:∀g,g=(!decide p.fine)->O g:=by
     rintro g rfl;simp only[sx,O,getElem?_cons_zero,getElem?_cons_succ,r1.cell];by_cases hf:p.fine
     ·simp only[hf,decide_true,Bool.not_true,cond_false];refine cmS1 (CW _ _ _ _ _ _ _ _ _ _ _ (show o.len<=2^60 by omega) (show d.len<=2^60 by omega) _) ?_;rintro _ w8 ⟨rfl,f8⟩;have r9:=r1.ext f8;simp only[getElem?_cons_zero,getElem?_cons_succ,f_,gQ,gJ,r9.cell];rw[Α];by_cases hs:20+p.opts.length+p.data.length<=65535
      ·have:¬(20+(o.len:Int)+(d.len:Int)>65535):=by omega
       simp only[this,decide_false,cond_false];by_cases hs2:p.off<=65535 - (p.data.length:Int)
       ·have:¬(p.off>65535 - (d.len:Int)):=by omega
        simp only[this,decide_false,cond_false];exact⟨by simp[jG.check,hf,jG.short,hs,hs2],f1.trans f8⟩
       ·have:(p.off>65535 - (d.len:Int)):=by omega
        simp only[this,decide_true,cond_true];exact⟨by simp[jG.check,hf,jG.short,hs2],f1.trans f8⟩
      ·have:(20+(o.len:Int)+(d.len:Int)>65535):=by omega
       simp only[this,decide_true,cond_true];exact⟨by simp[jG.check,hf,jG.short,hs],f1.trans f8⟩
     ·simp only[hf,decide_false,Bool.not_false,cond_true];exact⟨by simp[jG.check,hf],f1⟩
    cases b with
    |false=>
     simp only[Bool.not_false,cond_true];exact I _ (by rw[decide_eq_false λh:p.fine=>(of_decide_eq_false hb.symm) h.1];rfl)
    |true=>
    cases c with
    |false=>
     simp only[Bool.not_true,Bool.not_false,cond_false,cond_true];exact I _ (by rw[decide_eq_false λh:p.fine=>(of_decide_eq_false hc.symm) ⟨h.2.1,h.2.2.1.1,h.2.2.1.2.1,h.2.2.1.2.2.1⟩];rfl)
    |true=>
    cases e with
    |false=>
     simp only[Bool.not_true,Bool.not_false,cond_false,cond_true];exact I _ (by rw[decide_eq_false λh:p.fine=>(of_decide_eq_false he.symm) h.2.2.2];rfl)
    |true=>
    have hb':=of_decide_eq_true hb.symm;have hc':=of_decide_eq_true hc.symm;have he':=of_decide_eq_true he.symm;simp -zeta only[sx,Bool.not_true,getElem?_cons_zero,getElem?_cons_succ,r1.cell]
    cases hm:p.mf with
    |false=>
     simp only[cond_false];have u:p.fine:=⟨hb',hc'.1,⟨hc'.2.1,hc'.2.2.1,hc'.2.2.2,λh=>by rw[hm] at h;cases h⟩,he'⟩;exact I _ (by rw[decide_eq_true u];rfl)
    |true=>
     simp only[cond_true];refine⟨by omega,I _ ?_⟩;rw[hd,tmod_eq_emod_of_nonneg (by omega)];by_cases hx:p.data.length % 8=0
     ·have u:p.fine:=⟨hb',hc'.1,⟨hc'.2.1,hc'.2.2.1,hc'.2.2.2,λ_=>hx⟩,he'⟩;rw[decide_eq_true u];simp;omega
     ·have u:¬p.fine:=λh=>hx (h.2.2.1.2.2.2 hm);rw[decide_eq_false u];simp;omega
   simp -zeta only[sx,getElem?_cons_zero,getElem?_cons_succ,r1.cell];by_cases hx:p.opts.length<=40
   ·have:((o.len:Int)<=40):=by omega
    simp -zeta only[this,decide_true,cond_true];refine⟨by omega,N _ ?_⟩;rw[ho,tmod_eq_emod_of_nonneg (by omega),MI];exact decide_eq_decide.2 ⟨λh=>⟨hx,by omega⟩,λh=>by omega⟩
   ·have:¬((o.len:Int)<=40):=by omega
    simp -zeta only[this,decide_false,cond_false];exact N _ (decide_eq_false λh=>hx h.1).symm
  simp -zeta only[sx,getElem?_cons_zero,getElem?_cons_succ,r1.cell];refine cmS0 (PI _ _) ?_;rintro _ W ⟨rfl,hW⟩;subst hW;by_cases c1:kD p.src
  ·simp -zeta only[c1,decide_true,cond_true,getElem?_cons_zero,getElem?_cons_succ,f_,gJ,r1.cell];refine cmS0 (PI _ _) ?_;rintro _ W ⟨rfl,hW⟩;subst hW;by_cases c2:kD p.dst
   ·simp -zeta only[c2,decide_true,cond_true,getElem?_cons_zero,getElem?_cons_succ,f_,gJ,r1.cell];by_cases c3:p.off>=0
    ·simp -zeta only[c3,decide_true,cond_true];by_cases c4:p.off<=65528
     ·simp -zeta only[c4,decide_true,cond_true];refine⟨by omega,h7 _ ?_⟩;rw[MI];exact decide_eq_decide.2 ⟨λh=>⟨⟨c1,c2⟩,c3,c4,h⟩,λh=>h.2.2.2⟩
     ·simp -zeta only[c4,decide_false,cond_false];exact h7 _ (decide_eq_false λh=>c4 h.2.2.1).symm
    ·simp -zeta only[c3,decide_false,cond_false];exact h7 _ (decide_eq_false λh=>c3 h.2.1).symm
   ·simp -zeta only[c2,decide_false,cond_false];exact h7 _ (decide_eq_false λh=>c2 h.1.2).symm
  ·simp -zeta only[c1,decide_false,cond_false];exact h7 _ (decide_eq_false λh=>c1 h.1.1).symm
 simp -zeta only[sx,getElem?_cons_zero,r1.cell];refine cmS0 (AB _ _ _) ?_;rintro _ W ⟨rfl,hW⟩;subst hW;by_cases c1:iK p.tos 1
 ·simp -zeta only[c1,decide_true,cond_true,getElem?_cons_zero,getElem?_cons_succ,f_,gJ,r1.cell];refine cmS0 (AB _ _ _) ?_;rintro _ W ⟨rfl,hW⟩;subst hW;by_cases c2:iK p.ttl 1
  ·simp -zeta only[c2,decide_true,cond_true,getElem?_cons_zero,getElem?_cons_succ,f_,gJ,r1.cell];refine cmS0 (AB _ _ _) ?_;rintro _ W ⟨rfl,hW⟩;subst hW;by_cases c3:iK p.proto 1
   ·simp -zeta only[c3,decide_true,cond_true,getElem?_cons_zero,getElem?_cons_succ,f_,gJ,r1.cell];refine cmS0 (AB _ _ _) ?_;rintro _ W ⟨rfl,hW⟩;subst hW;exact hJ _ (decide_eq_decide.2 ⟨λh=>⟨c1,c2,c3,h⟩,λh=>h.2.2.2⟩)
   ·simp -zeta only[c3,decide_false,cond_false];exact hJ _ (decide_eq_false λh=>c3 h.2.2.1).symm
  ·simp -zeta only[c2,decide_false,cond_false];exact hJ _ (decide_eq_false λh=>c2 h.2.1).symm
 ·simp -zeta only[c1,decide_false,cond_false];exact hJ _ (decide_eq_false λh=>c1 h.1).symm
theorem Qv (n:Nat):jD 1 n=[UInt8.ofNat n]:=by simp[jD]
theorem Ub {n:Nat}:IntKind.u8.wrap (n:Int)=((UInt8.ofNat n).toNat:Int):=by
 rw[IntKind.wrap_u8];simp
theorem Z8 {w:θ} {p:jG} (hc:p.check=0) {o d:fU} (ho:iq w o p.opts) (_:d.len=p.data.length) {z s:Nat} (hz:z=20+p.opts.length+p.data.length) (hs:s<65536):
  yT p.tos p.id p.off p.ttl p.proto p.src p.dst p.df p.mf o d (z:Int) (s:Int) w λr w'=>Buf w' r (bytesV (p.head s))/\Ext w w'/\∀b,fU.at r b->w.heap.size<=b:=by
 apply Va;obtain⟨hf,R⟩:=lN hc;have hbl:=WJ hf;obtain⟨⟨g1,g2,g3,g4⟩,⟨q1,q2⟩,⟨o1,o2,o3,o4⟩,p1,p2⟩:=id hf;have g1':=Dw g1;have g2':=Dw g2;have g3':=Dw g3;have g4':=ag_ g4;have hsh1:=R.1;refine gq λa w1 r1 e1 _ f1=> ?_;simp -zeta only[sx,getElem?_cons_zero,getElem?_cons_succ,r1.cell];refine⟨by omega,?_⟩;intro J7;have main:∀j8:Int,(bif p.mf then ο.wrap (j8+8192) else j8)=(p.bits:Int)->J7 j8:=by
  intro j8 hj8;simp -zeta only[J7];intro J9;have m9:∀N,N=(p.bits:Int)->J9 N:=by
   rintro _ rfl;have r1d:=r1.drew;simp only[J9,getElem?_cons_zero,getElem?_cons_succ,f_,gQ,gJ,iY,r1d.cell];refine cmS1 (JL _ _ _ _ _ _ _ _ _ _ _ (show o.len<=2^60 by have:=ho.1;omega) _) ?_;rintro _ w2 ⟨rfl,f2⟩;have r2:=r1d.ext f2;simp only[true_and,getElem?_cons_zero,r2.cell];refine⟨by omega,gq λb w3 r3 e3 _ f3=> ?_⟩;have ol:=ho.1;rw[Int.tdiv_eq_ediv_of_nonneg (by omega),Α (n:=(20+(o.len:Int)) / 4) (by omega) (by omega),Α (n:=64+(20+(o.len:Int)) / 4) (by omega) (by omega)] at r3;have U:(64+(20+(o.len:Int)) / 4)=((64+(20+p.opts.length) / 4:Nat):Int):=by omega
   obtain⟨t,ht⟩:∃t:Nat,p.tos=(t:Int):=⟨p.tos.toNat,by omega⟩;rw[U,Ub,ht,Ub] at r3;have b3:Buf w3 ⟨some ⟨b,0,none⟩,2,2⟩ (bytesV (jD 1 (64+(20+p.opts.length) / 4)++jD 1 p.tos.toNat)):=by
    rw[Qv,Qv,ht];exact iq.row (l:=[UInt8.ofNat (64+(20+p.opts.length) / 4),UInt8.ofNat t]) (by simpa [bytesV] using r3)
   have hdr:w1.drew.heap.size=w1.heap.size:=rfl;have s2:=f2.size;have s1:=f1.size;have r3a:=(r2.ext f3).drew;simp only[getElem?_cons_zero,getElem?_cons_succ,f_,gJ,r3a.cell];have b3d:iq w3.drew ⟨some ⟨b,0,none⟩,2,2⟩ _:=(iq.iD b3).ext (Ext.drew _);have put:∀{W:θ} {t:fU} {l:List UInt8} (n:Int) (k:Nat),iq W t l->l.length<=100->iK n (k:Int)->n<2^62->jh t n (k:Int) W λr w'=>Buf w' r (bytesV (l++jD k n.toNat))/\Ext W w'/\(∀b,fU.at r b->W.heap.size<=b):=by
    intro W t l n k h1 h2 h3 h4;refine cmS2 (IK h1 (by omega) n (k:Int) h4) ?_;rintro r w' ⟨h5,h6,h7⟩;refine⟨?_,h6,h7⟩;simpa [jv,h3] using h5
   have m2:iK ((z:Nat):Int) (2:Nat):=⟨⟨by omega,by omega⟩,by omega,by simp;omega⟩;have m3:iK ((p.bits:Nat):Int) (2:Nat):=⟨⟨by omega,by omega⟩,by omega,by simp;omega⟩;have m4:iK ((s:Nat):Int) (2:Nat):=⟨⟨by omega,by omega⟩,by omega,by simp;omega⟩;have m5:iK p.src (4:Nat):=⟨⟨by omega,by omega⟩,q1.1,by have:=q1.2;simp;omega⟩;have m6:iK p.dst (4:Nat):=⟨⟨by omega,by omega⟩,q2.1,by have:=q2.2;simp;omega⟩;have q1':=q1.2;have q2':=q2.2;refine cmS2 (put (z:Int) 2 b3d (by simp[iG]) m2 (by omega)) ?_;rintro t4 w4 ⟨b4,f4,_⟩;simp only[true_and,getElem?_cons_zero,getElem?_cons_succ,(r3a.ext f4).cell];refine cmS2 (put p.id 2 (iq.iD b4) (by simp[iG]) g4 (by omega)) ?_;rintro t5 w5 ⟨b5,f5,_⟩;refine cmS2 (put (p.bits:Int) 2 (iq.iD b5) (by simp[iG]) m3 (by omega)) ?_;rintro t6 w6 ⟨b6,f6,n6⟩;have r6:=((r3a.ext f4).ext f5).ext f6;simp only[getElem?_cons_zero,getElem?_cons_succ,f_,gJ,r6.cell];refine gq λc w7 r7 e7 _ f7=> ?_;obtain⟨u,hu⟩:∃u:Nat,p.ttl=(u:Int):=⟨p.ttl.toNat,by omega⟩;obtain⟨v,hv⟩:∃v:Nat,p.proto=(v:Int):=⟨p.proto.toNat,by omega⟩;rw[hu,hv,Ub,Ub] at r7;have b7:iq w7 ⟨some ⟨c,0,none⟩,2,2⟩ (jD 1 p.ttl.toNat++jD 1 p.proto.toNat):=by
    rw[Qv,Qv,hu,hv];exact iq.iD (iq.row (l:=[UInt8.ofNat u,UInt8.ofNat v]) (by simpa [bytesV] using r7))
   refine jd (b6.ext f7) b7 (by simp[iG]) λt8 w8 b8 f8 n8 _=> ?_;have s3:=f3.size;have s4:=f4.size;have s5:=f5.size;have s6:=f6.size;have s7:=f7.size;have hdr3:w3.drew.heap.size=w3.heap.size:=rfl;have x3:Ext w w3.drew:=((f1.trans (Ext.drew _)).trans f2).trans (f3.trans (Ext.drew _));have x7:Ext w3.drew w7:=((f4.trans f5).trans f6).trans f7;have x8:Ext w3.drew w8:=x7.new f8 λy hy h=>by have:=n6 y h;omega
   refine cmS2 (put (s:Int) 2 (iq.iD b8) (by simp[iG]) m4 (by omega)) ?_;rintro t9 w9 ⟨b9,f9,_⟩;have r9:=(r3a.ext (x8.trans f9)).drew;simp only[getElem?_cons_zero,getElem?_cons_succ,f_,gJ,r9.cell];refine cmS2 (put p.src 4 ((iq.iD b9).ext (Ext.drew _)) (by simp[iG]) m5 (by omega)) ?_;rintro t10 Y ⟨Z,f10,_⟩;simp only[true_and,getElem?_cons_zero,getElem?_cons_succ,(r9.ext f10).cell];refine cmS2 (put p.dst 4 (iq.iD Z) (by simp[iG]) m6 (by omega)) ?_;rintro t11 aa ⟨ac,f11,O⟩;have af:=(r9.ext f10).ext f11;simp only[getElem?_cons_zero,getElem?_cons_succ,f_,gQ,af.cell];have J:Ext w aa:=(x3.trans x8).trans ((f9.trans (Ext.drew _)).trans (f10.trans f11));refine jd ac (ho.ext J) (by simp[iG];omega) λt12 w12 ag f12 ah _=> ?_;have s11:=J.size;have s10:w.heap.size<=Y.heap.size:=((x3.trans x8).trans ((f9.trans (Ext.drew _)).trans f10)).size;refine⟨?_,J.new f12 λy hy h=>by have:=O y h;omega,λy hy=> ?_⟩
   ·have:p.head s=jD 1 (64+(20+p.opts.length) / 4)++jD 1 p.tos.toNat++jD 2 ((z:Int)).toNat++jD 2 p.id.toNat++jD 2 ((p.bits:Int)).toNat++(jD 1 p.ttl.toNat++jD 1 p.proto.toNat)++jD 2 ((s:Int)).toNat++jD 4 p.src.toNat++jD 4 p.dst.toNat++p.opts:=by
     rw[toNat_natCast,toNat_natCast,toNat_natCast,hz];simp only[jG.head,List.append_assoc]
    rw[this];exact ag
   ·rcases ah y hy with h|h
    ·have:=O y h;omega
    ·omega
  cases hm:p.mf with
  |false=>rw[hm] at hj8;exact m9 _ hj8
  |true=>rw[hm] at hj8;exact m9 _ hj8
 have e0:Int.tdiv p.off 8=((p.off.toNat / 8:Nat):Int):=by rw[Int.tdiv_eq_ediv_of_nonneg o1];omega
 simp -zeta only[e0];have hq:p.off.toNat / 8<8192:=by omega
 rw[Α (n:=((p.off.toNat / 8:Nat):Int)) (by omega) (by omega)]
 cases I:p.df with
 |false=>
  refine main _ ?_
  cases hm:p.mf with
  |false=>simp[jG.bits,I,hm]
  |true=>simp only[cond_true];rw[Α];simp[jG.bits,I,hm]
 |true=>
  refine main _ ?_;rw[Α (n:=_+16384) (by omega) (by omega)]
  cases hm:p.mf with
  |false=>simp[jG.bits,I,hm]
  |true=>simp only[cond_true];rw[Α];simp[jG.bits,I,hm]
theorem acS {w:θ} (p:jG) {o d:fU} (ho:iq w o p.opts) (hd:iq w d p.data) (h1:p.opts.length<=2^46) (h2:p.data.length<=2^46):
  BZ p.tos p.id p.off p.ttl p.proto p.src p.dst p.df p.mf o d w λr e w'=>adQ p w w' r e:=by
 apply Tj;refine gq λa w1 r1 e1 z1 f1=> ?_;simp -zeta only[sx,h_,iC,getElem?_cons_zero,getElem?_cons_succ,r1.cell];refine cmS1 (acT p (o:=o) (d:=d) ho.1 hd.1 h1 h2) ?_;rintro _ w2 ⟨rfl,f2⟩;have r2:=(r1.ext f2).drew;by_cases hc:p.check=0
 ·have hc':(p.check !=0)=false:=by rw[hc];rfl
  simp -zeta only[cond_false,getElem?_cons_zero,getElem?_cons_succ,f_,gQ,gJ,iY,r2.cell,hc'];have hsm:=(lN hc).2.1;have ol:=ho.1;have dl:=hd.1;have ez:(20+(o.len:Int)+(d.len:Int))=((20+p.opts.length+p.data.length:Nat):Int):=by omega
  refine cmS1 (CW _ _ _ _ _ _ _ _ _ _ _ (show o.len<=2^60 by omega) (show d.len<=2^60 by omega) _) ?_;rintro _ w3 ⟨rfl,f3⟩;have r3:=r2.ext f3;simp -zeta only[true_and,getElem?_cons_zero,getElem?_cons_succ,r3.cell,ez];have x3:Ext w w3:=((f1.trans f2).trans (Ext.drew _)).trans f3;refine cmS2 (Z8 (s:=0) hc (ho.ext x3) (d:=d) hd.1 rfl (by omega)) ?_;rintro t4 w4 ⟨b4,f4,n4⟩;refine gq λc w5 r5 e5 _ f5=> ?_;have l6:(p.head 0).length=20+p.opts.length:=vX p 0;refine cmS1 (afd (zF r5 (iq.iD (b4.ext f5))) (by simp) (by intro q hq;simp only[List.mem_singleton] at hq;subst hq;simp only;omega)) ?_;rintro _ w6 ⟨rfl,f6⟩;rw[Ig];have e8:65535 - fold (tot (p.head 0))=p.sum:=rfl;rw[e8];have u:p.sum<65536:=by unfold jG.sum;omega
  have x6:Ext w3 w6.drew:=((f4.trans f5).trans f6).trans (Ext.drew _);have r6:=r3.ext x6;simp -zeta only[getElem?_cons_zero,getElem?_cons_succ,f_,gQ,gJ,iY,r6.cell];refine cmS1 (CW _ _ _ _ _ _ _ _ _ _ _ (show o.len<=2^60 by omega) (show d.len<=2^60 by omega) _) ?_;rintro _ w7 ⟨rfl,f7⟩;have r7:=r6.ext f7;simp -zeta only[true_and,getElem?_cons_zero,getElem?_cons_succ,r7.cell,ez];have x7:=x3.trans (x6.trans f7);refine cmS2 (Z8 (s:=p.sum) hc (ho.ext x7) (d:=d) hd.1 rfl u) ?_;rintro t8 w8 ⟨b8,f8,n8⟩;have r8:=r7.ext f8;simp -zeta only[true_and,getElem?_cons_zero,getElem?_cons_succ,r8.cell];have l8:(p.head p.sum).length=20+p.opts.length:=vX p _;have x8:=x7.trans f8;have z7:=x7.size;have z8:=x8.size;refine jd b8 (hd.ext x8) (by omega) λs9 w9 b9 f9 n9 _=> ?_;refine⟨hc.symm,λh=>absurd hc h,λ_=>b9,x8.new f9 λy hy h=>by have:=n8 y h;omega,λy hy=> ?_⟩;rcases n9 y hy with h|h
  ·have:=n8 y h;omega
  ·omega
 ·have hc':(p.check !=0)=true:=by simpa using hc
  simp -zeta only[cond_true,hc'];exact⟨rfl,λ_=>rfl,λh=>absurd h hc,f1.trans f2,by rintro b ⟨o,h⟩;cases h⟩
end Go.Proofs.RN
end
section
open List (getElem?_cons_succ getElem?_cons_zero length_append)
namespace Go.Proofs.RN
open Gp Gp.V4 Go.Proofs.VN
theorem Qz (a b:Int) (ha:0<=a/\a<2^62) (hb:0<b/\b<=2^40) (w:θ):uU a b w λr w'=>r=a % b/\w'=w:=by
 apply XP;refine⟨by omega,by omega,?_,rfl⟩;rw[Int.tmod_eq_emod_of_nonneg ha.1];have h1:=Int.emod_nonneg a (b:=b) (by omega);have h2:=Int.emod_lt_of_pos a hb.1;rw[Α,Int.tmod_eq_emod_of_nonneg (by omega),Int.add_emod_right,Int.emod_emod]
theorem abD {w:θ} {d:fU} {l:List UInt8} (hd:iq w d l) (hl:l.length<=65527) {src dst:Nat} (h1:src<65536) (h2:dst<65536) (b:Bool) {s:Nat} (hs:s<65536):
  xB (src:Int) (dst:Int) b d (s:Int) w λr w'=>iq w' r (jD 2 src++jD 2 dst++jD 2 (8+l.length)++jD 2 s++l)/\Ext w w':=by
 apply Tv;have dl:=hd.1;have put:∀{W:θ} {t:fU} {l:List UInt8} (n k:Nat),iq W t l->l.length<=100->iK (n:Int) (k:Int)->n<2^62->jh t (n:Int) (k:Int) W λr w'=>Buf w' r (bytesV (l++jD k n))/\Ext W w'/\(∀b,fU.at r b->W.heap.size<=b):=by
  intro W t l n k h1 h2 h3 h4;refine cmS2 (IK h1 (by omega) (n:Int) (k:Int) (by omega)) ?_;rintro r w' ⟨h5,h6,h7⟩;refine⟨?_,h6,h7⟩;simpa [jv,h3] using h5
 have fit:∀n:Nat,n<65536->iK (n:Int) ((2:Nat):Int):=λn h=>⟨⟨by omega,by omega⟩,by omega,by simp;omega⟩;refine gq λa w1 r1 e1 z1 f1=> ?_;have r1d:=r1.drew;simp only[sx,getElem?_cons_zero,getElem?_cons_succ,r1d.cell];refine cmS2 (put src 2 iq.nil (by simp) (fit _ h1) (by omega)) ?_;rintro t2 w2 ⟨b2,f2,n2⟩;simp only[true_and,getElem?_cons_zero,getElem?_cons_succ,(r1d.ext f2).cell];refine cmS2 (put dst 2 (iq.iD b2) (by simp[iG]) (fit _ h2) (by omega)) ?_;rintro t3 w3 ⟨b3,f3,n3⟩;have r3:=(r1d.ext f2).ext f3;simp only[getElem?_cons_zero,getElem?_cons_succ,f_,gQ,r3.cell];rw[Α,show (8+(d.len:Int))=((8+l.length:Nat):Int) by omega];refine cmS2 (put (8+l.length) 2 (iq.iD b3) (by simp[iG]) (fit _ (by omega)) (by omega)) ?_;rintro t4 w4 ⟨b4,f4,n4⟩;refine cmS2 (put s 2 (iq.iD b4) (by simp[iG]) (fit _ hs) (by omega)) ?_;rintro t5 w5 ⟨b5,f5,n5⟩;have r5:=(r3.ext f4).ext f5;simp only[getElem?_cons_zero,getElem?_cons_succ,f_,gQ,r5.cell];have x4:Ext w w4:=(f1.trans (Ext.drew _)).trans ((f2.trans f3).trans f4);have z4:=x4.size;refine jd b5 (hd.ext (x4.trans f5)) (by simp[iG];omega) λt6 w6 b6 f6 n6 _=> ?_;exact⟨iq.iD (by simpa using b6),(x4.trans f5).new f6 λy hy h=>by have:=n5 y h;omega⟩
end Go.Proofs.RN
end
section
namespace Go.Proofs.RN
open Gp Gp.V4 Go.Proofs Go.Proofs.VN
theorem H8 (l:List UInt8) (n k:Nat) (h0:1<=k) (h1:k<=4) (hn:n<256^k):jv l (n:Int) (k:Int)=l++jD k n:=by
 unfold jv;rw[if_pos,Int.toNat_natCast,Int.toNat_natCast];refine⟨⟨by omega,by omega⟩,by omega,?_⟩;rw[Int.toNat_natCast]
 exact_mod_cast hn
def psB (a b n:Nat):List UInt8:=jD 4 a++jD 4 b++[0]++jD 1 17++jD 2 n
theorem agC (a b n:Nat):(psB a b n).length=12:=by simp[psB,iG]
theorem aaH {a b n:Nat} (ha:a<4294967296) (hb:b<4294967296) (hn:n<65536):AN.xJ (a:Int) (b:Int) 17 (n:Int)=psB a b n:=by
 unfold AN.xJ;have e1:((a:Int) % 4294967296)=(a:Int):=by omega
 have e2:((b:Int) % 4294967296)=(b:Int):=by omega
 have e3:((17:Int) % 256)=17:=by omega
 have e4:((n:Int) % 65536)=(n:Int):=by omega
 rw[e1,e2,e3,e4];have p:∀(l:List UInt8) (n k:Nat),1<=k->k<=4->n<256^k->Proofs.jv l (n:Int) (k:Int)=l++jD k n:=H8;have q1:=p [] a 4 (by omega) (by omega) ha;have q2:=p ([]++jD 4 a) b 4 (by omega) (by omega) hb;have q3:=p ([]++jD 4 a++jD 4 b) 17 2 (by omega) (by omega) (by omega);have q4:=p ([]++jD 4 a++jD 4 b++jD 2 17) n 2 (by omega) (by omega) hn;rw[show ((4:Nat):Int)=4 from rfl] at q1 q2;rw[show ((2:Nat):Int)=2 from rfl] at q3 q4;rw[show ((17:Nat):Int)=17 from rfl] at q3;rw[q1,q2,q3,q4];simp[psB,jD]
theorem aff {w:θ} {a b z:Nat} (h1:a<4294967296) (h2:b<4294967296) (h4:z<65536):
  Ac (a:Int) (b:Int) 17 (z:Int) w λr w'=>iq w' r (psB a b z)/\Ext w w':=by
 apply Qj;have e1:((a:Int) % 4294967296)=(a:Int):=by omega
 have e2:((b:Int) % 4294967296)=(b:Int):=by omega
 have e3:((17:Int) % 256)=17:=by omega
 have e4:((z:Int) % 65536)=(z:Int):=by omega
 refine cmS1 (Qz _ _ (by omega) (by omega) w) ?_;rintro _ w0 ⟨rfl,hw⟩;subst hw;rw[e1];refine cmS2 (IK iq.nil (by simp) _ 4 (by omega)) ?_;rintro t1 w1 ⟨b1,f1,n1⟩;refine cmS1 (Qz _ _ (by omega) (by omega) w1) ?_;rintro _ w2 ⟨rfl,hw⟩;subst hw;have q1:=H8 [] a 4 (by omega) (by omega) h1;rw[show ((4:Nat):Int)=4 from rfl] at q1;rw[q1,nil_append] at b1;rw[e2];refine cmS2 (IK (iq.iD b1) (by simp[iG]) _ 4 (by omega)) ?_;rintro t2 w2 ⟨b2,f2,n2⟩;have q2:=H8 (jD 4 a) b 4 (by omega) (by omega) h2;rw[show ((4:Nat):Int)=4 from rfl] at q2;rw[q2] at b2;refine gq λc w3 r3 e3 z3 f3=> ?_;have b3:iq w3 ⟨some ⟨c,0,none⟩,1,1⟩ [0]:=iq.iD (iq.row (l:=[0]) (by simpa [bytesV] using r3));refine jd (b2.ext f3) b3 (by simp[iG]) λt4 w4 b4 f4 n4 _=> ?_;have z1':=f1.size;have x4:Ext w0 w4:=(f1.trans (f2.trans f3)).new f4 λy hy h=>by have:=n2 y h;omega
 refine cmS1 (Qz _ _ (by omega) (by omega) w4) ?_;rintro _ w5 ⟨rfl,hw⟩;subst hw;refine cmS2 (IK (iq.iD b4) (by simp[iG]) _ 1 (by omega)) ?_;rintro t5 w5 ⟨b5,f5,n5⟩;have q5:=H8 (jD 4 a++jD 4 b++[0]) 17 1 (by omega) (by omega) (by omega);rw[show ((1:Nat):Int)=1 from rfl,show ((17:Nat):Int)=17 from rfl] at q5;rw[show ((17:Int) % 256)=17 from by decide,q5] at b5;refine cmS1 (Qz _ _ (by omega) (by omega) w5) ?_;rintro _ w6 ⟨rfl,hw⟩;subst hw;rw[e4];refine cmS2 (IK (iq.iD b5) (by simp[iG]) _ 2 (by omega)) ?_;rintro t6 w6 ⟨b6,f6,n6⟩;have q6:=H8 (jD 4 a++jD 4 b++[0]++jD 1 17) z 2 (by omega) (by omega) h4;rw[show ((2:Nat):Int)=2 from rfl] at q6;rw[q6] at b6;exact⟨iq.iD b6,(x4.trans f5).trans f6⟩
def Uu (src dst s:Nat) (l:List UInt8):List UInt8:=jD 2 src++jD 2 dst++jD 2 (8+l.length)++jD 2 s++l
def Yf (a b src dst:Nat) (l:List UInt8):Nat:=if fold (tot (psB a b (8+l.length))+tot (Uu src dst 0 l))=65535 then 65535 else 65535 - fold (tot (psB a b (8+l.length))+tot (Uu src dst 0 l))
def dgB (a b src dst:Nat) (l:List UInt8):List UInt8:=Uu src dst (Yf a b src dst l) l
theorem IB (src dst s:Nat) (l:List UInt8):(Uu src dst s l).length=8+l.length:=by simp[Uu,iG];omega
theorem aby (a b src dst:Nat) (l:List UInt8):1<=Yf a b src dst l/\Yf a b src dst l<=65535:=by
 unfold Yf;split
 ·omega
 ·have:=MG (tot (psB a b (8+l.length))+tot (Uu src dst 0 l));omega
theorem WV (src dst s:Nat) (l:List UInt8):Uu src dst s l=UInt8.ofNat (src / 256)::UInt8.ofNat src::UInt8.ofNat (dst / 256)::UInt8.ofNat dst::UInt8.ofNat ((8+l.length) / 256)::UInt8.ofNat (8+l.length)::UInt8.ofNat (s / 256)::UInt8.ofNat s::l:=by
 simp[Uu,jD]
theorem agR {src dst s:Nat} (l:List UInt8) (hs:s<65536):tot (Uu src dst s l)=tot (Uu src dst 0 l)+s:=by
 rw[WV,WV];simp only[tot,UInt8.toNat_ofNat'];omega
theorem adh {src dst s:Nat} {l:List UInt8} (h1:src<65536) (h2:dst<65536) (h3:8+l.length<65536) (h4:s<65536):
  VN.wordAt (Uu src dst s l) 0=src/\VN.wordAt (Uu src dst s l) 2=dst/\VN.wordAt (Uu src dst s l) 4=8+l.length/\VN.wordAt (Uu src dst s l) 6=s:=by
 rw[WV];unfold VN.wordAt;simp only[d_,Option.getD_some,UInt8.toNat_ofNat'];omega
theorem afN {a b src dst:Nat} {l:List UInt8} (ha:a<4294967296) (hb:b<4294967296) (h1:src<65536) (h2:dst<65536) (h3:l.length<=60000):
  AN.Vp (a:Int) (b:Int) (dgB a b src dst l)/\VN.wordAt (dgB a b src dst l) 0=src/\VN.wordAt (dgB a b src dst l) 2=dst/\(dgB a b src dst l).drop 8=l:=by
 obtain⟨s1,s2⟩:=aby a b src dst l;obtain⟨w0,w2,w4,w6⟩:=adh (l:=l) (s:=Yf a b src dst l) h1 h2 (by omega) (by omega);have hlen:=IB src dst (Yf a b src dst l) l;unfold dgB;refine⟨⟨by omega,by rw[w4,hlen],by omega,?_⟩,w0,w2,by rw[WV];rfl⟩;rw[hlen,aaH ha hb (by omega),agR l (by omega)];have h:=VD (tot (psB a b (8+l.length))+tot (Uu src dst 0 l));unfold Yf;split
 ·rename_i h5;unfold fold at h5 ⊢;split at h5
  ·omega
  ·rw[if_neg (by omega)];omega
 ·rw[<- Nat.add_assoc];exact h
theorem agU {w:θ} {d:fU} {l:List UInt8} (hd:iq w d l) (hl:l.length<=60000) {a b src dst:Nat} (ha:a<4294967296) (hb:b<4294967296) (h1:src<65536) (h2:dst<65536):
  Cb (a:Int) (b:Int) (src:Int) (dst:Int) false d w λr e w'=>e=0/\iq w' r (dgB a b src dst l)/\Ext w w':=by
 apply Tq;have dl:=hd.1;refine gq λc w1 r1 e1 z1 f1=> ?_;have fit:∀n:Nat,n<65536->iK (n:Int) 2:=λn h=>⟨⟨by omega,by omega⟩,by omega,by simp;omega⟩;have rd:∀{W:θ} {Q:Int->Int->Bool->fU->Prop},Row W c [Β (src:Int),Β (dst:Int),.bool false,Δ d]->Q (src:Int) (dst:Int) false d->Ld ν W (Addr.add ⟨c,0,none⟩ 0) λx6=>Ld ν W (Addr.add ⟨c,0,none⟩ 1) λx7=>Ld .bool W (Addr.add ⟨c,0,none⟩ 2) λx8=>Ld .slice W (Addr.add ⟨c,0,none⟩ 3) λx9=>Q x6 x7 x8 x9:=
  λhr hq=>Ld_i 0 (src:Int) hr (Ld_i 1 (dst:Int) hr (Ld_b 2 false hr (Ld_s 3 d hr hq)))
 refine rd r1 ?_;have u:Cc (src:Int) (dst:Int) false d w1 λr w'=>r=0/\Ext w1 w':=by
  apply Tt;refine gq λc w2 r2 e2 z2 f2=> ?_;refine Ld_i 0 (src:Int) r2 ?_;refine cmS0 (AB _ _ _) ?_;rintro r w3 ⟨hr,hw⟩;rw[decide_eq_true (fit _ h1)] at hr;subst hr hw;rw[Bool.not_true,cond_false];refine Ld_i 1 (dst:Int) r2 ?_;refine cmS0 (AB _ _ _) ?_;rintro r w3 ⟨hr,hw⟩;rw[decide_eq_true (fit _ h2)] at hr;subst hr hw;rw[Bool.not_true,cond_false];refine Ld_s 3 d r2 ?_;have:¬((d.len:Int)>65527):=by omega
  rw[decide_eq_false this,cond_false];exact⟨rfl,f2⟩
 refine cmS1 u ?_;rintro _ w2 ⟨rfl,f2⟩;have r2:=r1.ext f2;rw[show ((0:Int) !=0)=false from rfl,cond_false];refine rd r2 ?_;refine cmS2 (abD (s:=0) ((hd.ext f1).ext f2) (by omega) h1 h2 false (by omega)) ?_;rintro t3 w3 ⟨b3,f3⟩;have l3:=b3.1;simp only[List.length_append,iG] at l3;refine Ld_b 2 false (r2.ext f3) ?_;rw[cond_false];rw[show ((t3.len:Nat):Int)=((8+l.length:Nat):Int) by omega];refine cmS2 (aff ha hb (by omega)) ?_;rintro t4 w4 ⟨b4,f4⟩;refine gq λg w5 r5 e5 z5 f5=> ?_;have hp:Parts w5 ⟨some ⟨g,0,none⟩,2,2⟩ [(t4,psB a b (8+l.length)),(t3,Uu src dst 0 l)]:=by
  refine⟨rfl,λi p hi=> ?_⟩
  match i with
  |0=>
   simp at hi;subst hi;exact⟨g,0,rfl,by rw[r5.cell];rfl,b4.ext f5⟩
  |1=>
   simp at hi;subst hi;exact⟨g,0,rfl,by rw[r5.cell];rfl,(b3.ext f4).ext f5⟩
  |i+2=>simp at hi
 refine cmS1 (afd hp (by simp) (by
  intro q hq;simp only[mem_cons,not_mem_nil,or_false] at hq;rcases hq with rfl|rfl
  ·simp only[agC];omega
  ·simp only[IB];omega)) ?_
 rintro _ w6 ⟨rfl,f6⟩;have y6:=f3.trans (f4.trans (f5.trans f6));have x6:=(f1.trans f2).trans y6;have ht:qE [(t4,psB a b (8+l.length)),(t3,Uu src dst 0 l)]=tot (psB a b (8+l.length))+tot (Uu src dst 0 l):=by simp[qE]
 rw[ht];obtain⟨s1,s2⟩:=aby a b src dst l;intro I;have hJ:I ((Yf a b src dst l:Nat):Int):=by
  simp only[I];refine rd (r2.ext y6) ?_;refine cmS2 (abD (d:=d) (hd.ext x6) (by omega) h1 h2 false (by omega)) ?_;rintro t7 w7 ⟨b7,f7⟩;exact⟨by trivial,b7,x6.trans f7⟩
 clear_value I;have hfl:=MG (tot (psB a b (8+l.length))+tot (Uu src dst 0 l));unfold Yf at hJ;by_cases h5:fold (tot (psB a b (8+l.length))+tot (Uu src dst 0 l))=65535
 ·rw[if_pos h5] at hJ;rw[h5];exact hJ
 ·rw[if_neg h5] at hJ;rw[show (((65535 - fold (tot (psB a b (8+l.length))+tot (Uu src dst 0 l)):Nat):Int)==0)=false by rw[beq_eq_false_iff_ne];omega,cond_false];exact hJ
end Go.Proofs.RN
end
section
namespace Go.Proofs.AN
open Gp Gp.V4 Go.Proofs Go.Proofs.VN
open Gp.Bind (In64)
variable {w w':θ}
def kS (a b src dst ttl:Nat) (l:List UInt8):jG:=⟨0,0,0,ttl,17,a,b,false,false,[],RN.dgB a b src dst l⟩
theorem Oe {a b src dst ttl:Nat} {l:List UInt8} (ha:a<4294967296) (hb:b<4294967296) (h3:ttl<256) (hl:l.length<=60000):(kS a b src dst ttl l).check=0:=by
 have lm:(RN.dgB a b src dst l).length=8+l.length:=RN.IB _ _ _ _;have fine:(kS a b src dst ttl l).fine:=
  ⟨⟨⟨⟨by omega,by omega⟩,by simp[kS],by simp[kS]⟩,⟨⟨by omega,by omega⟩,by simp[kS],by simp[kS];omega⟩,⟨⟨by omega,by omega⟩,by simp[kS],by simp[kS]⟩,⟨⟨by omega,by omega⟩,by simp[kS],by simp[kS]⟩⟩,
   ⟨⟨by simp[kS],by simp[kS];omega⟩,⟨by simp[kS],by simp[kS];omega⟩⟩,⟨by simp[kS],by simp[kS],by simp[kS],by simp[kS]⟩,by simp[kS],by simp[kS]⟩
 have sh:(kS a b src dst ttl l).short:=⟨by simp[kS];omega,by simp[kS];omega⟩;unfold jG.check;rw[if_pos fine,if_pos sh]
theorem Du {a b src dst ttl:Nat} {l:List UInt8} (ha:a<4294967296) (hb:b<4294967296) (h1:src<65536) (h2:dst<65536) (h3:ttl<256) (hl:l.length<=60000):
  qw (kS a b src dst ttl l)/\wordAt (kS a b src dst ttl l).data 0=src/\wordAt (kS a b src dst ttl l).data 2=dst/\(kS a b src dst ttl l).data.drop 8=l/\(kS a b src dst ttl l).data.length=8+l.length:=by
 obtain⟨q1,q2,q3,q4⟩:=RN.afN (l:=l) ha hb h1 h2 hl;exact⟨⟨rfl,Oe ha hb h3 hl,rfl,Int.le_refl _,q1⟩,q2,q3,q4,RN.IB _ _ _ _⟩
theorem Rj {d:fU} {l:List UInt8} (hd:iq w d l) (hl:l.length<=60000) {a b src dst ttl:Nat} (ha:a<4294967296) (hb:b<4294967296) (h1:src<65536) (h2:dst<65536) (h3:ttl<256):
  kX (a:Int) (b:Int) (src:Int) (dst:Int) (ttl:Int) d w λr w'=>iq w' r (kS a b src dst ttl l).bytes/\Ext w w'/\∀ad,r.a=some ad->w.heap.size<=ad.block:=by
 apply Nh;have lm:(RN.dgB a b src dst l).length=8+l.length:=RN.IB _ _ _ _;refine cmS3 (RN.agU hd hl ha hb h1 h2) ?_;rintro r _ w1 ⟨rfl,hm,f1⟩;refine cmS3 (RN.acS (kS a b src dst ttl l) (o:=⟨none,0,0⟩) (d:=r) iq.nil hm (by simp[kS]) (by show (RN.dgB a b src dst l).length<=2^46;omega)) ?_;rintro t e w2 ⟨he,_,hb2,f2,n2⟩;have hb2:=hb2 (Oe ha hb h3 hl);have:=f1.size;exact⟨iq.iD hb2,f1.trans f2,λad u=>by have:=n2 ad.block (QV hb2 u);omega⟩
theorem WU {a b src dst ttl:Nat} {l:List UInt8}:(kS a b src dst ttl l).bytes.length=28+l.length:=by
 have lm:(RN.dgB a b src dst l).length=8+l.length:=RN.IB _ _ _ _;unfold jG.bytes;rw[List.length_append,vX];show _+(RN.dgB a b src dst l).length=_;rw[lm];show 20+0+_=_;omega
abbrev ai_ (w w':θ) (q:jG) (o d:fU):Prop:=iq w' o q.opts/\iq w' d q.data/\(∀x,o.a=some x->w.heap.size<=x.block)/\∀x,d.a=some x->w.heap.size<=x.block
end Go.Proofs.AN
end
section
namespace Go.Proofs.EN
open Gp Go.Proofs Go.Proofs.CN
open Gp.Bind (Bnd Slots live GoodB freeN getS In64)
def toB (x:T7):Bnd:=⟨x.1,x.2.1,x.2.2.1,x.2.2.2.1,x.2.2.2.2.1,x.2.2.2.2.2.1,x.2.2.2.2.2.2.1,true⟩
inductive Maps (c:Cf) (e0:ES):List Bnd->ES->Prop
 |nil:Maps c e0 [] e0
 |no {l:List Bnd} {e:ES} {b:Bnd}:Maps c e0 l e->Inv c e->GoodB e.S e.Mi e.Mo->Xv c e b≠0->Maps c e0 (l++[b]) e
 |yes {l:List Bnd} {e:ES} {b:Bnd} {i:Nat} {Mi Mo:ByteArray->Option Int} {Q:List Int} {G:List (PN.O3×Unit)}:Maps c e0 l e->Inv c e->GoodB e.S e.Mi e.Mo->Xv c e b=0->freeN e.S=some i->Maps c e0 (l++[b]) {e with S:=e.S.set i (some b),Mi:=Mi,Mo:=Mo,Q:=Q,G:=G}
theorem tV:∀(k j:Nat),live j (List.replicate k none)=[]
 |0,_=>rfl
 |k+1,j=>by rw[List.replicate_succ,live];exact tV k _
theorem IQ:∀(k j:Nat),Gp.Ses.live j (List.replicate k none)=[]
 |0,_=>rfl
 |k+1,j=>by rw[List.replicate_succ,Gp.Ses.live];exact IQ k _
def e0 (n nb ns:Nat):ES:=⟨0,List.replicate nb none,λ_=>none,λ_=>none,List.replicate n 0,[],List.replicate ns none,λ_=>none,[],0,0,λ_ _=>[]⟩
theorem agu {ls lp lt u I J N O R U Y Z aa ac af ag ah ai aj ak:Int} {p:T16} {n:Nat} {sl:List T16} {pl:List Int} {tl:List T7} (h:OkP p ls lp lt u I J N O R U Y Z aa ac af ag ah ai aj ak n sl pl tl):
  (1<=ls/\ls<=64)/\(1<=lp/\lp<=16)/\(0<=lt/\lt<=64)/\(1<=u/\u<=65535)/\(u<=I/\I<=65535)/\(1<=J/\J<=4096)/\(1<=N/\N<=4096)/\(1<=O/\O<=4096):=by
 have b:=h.nums;simp only[abY,mem_cons,not_mem_nil,or_false,forall_eq_or_imp,forall_eq,okB] at b;obtain⟨b1,b2,b3,b4,b5,b6,b7,b8,_⟩:=b;refine⟨b1,b2,⟨b3.1,?_⟩,b4,b5,b6,b7,b8⟩;have:=b3.2;split at this<;>omega
theorem TL {p:T16} {n:Nat} {sl:List T16} {pl:List Int} {tl:List T7} (h:Az p n sl pl tl=true):∀x∈pl,rZ x:=by
 intro x hx;unfold Az at h;simp only[Bool.and_eq_true,Bool.not_eq_true',List.any_eq_false] at h;have:=h.2.2.1 x hx;simpa using this
theorem agt {w:θ} {p0 p1 p2 p3 p4 p5 p6 p7 p8 p9 p10 p11 p12 p13 p14 p15:Int} {sw po:fU} {N O J u I R U Y Z aa ac af ag ah ai ak am:Int} {st:fU} {sl:List T16} {pl:List Int} {tl:List T7} (aP:mQ 16 e16 w sw sl) (aE:mQ 1 eI w po pl) (aF:mQ 7 e7 w st tl) (lsw:sw.len<=2^40) (lpo:po.len<=2^40) (lst:st.len<=2^40)
  {K:fO->Int->b_}
  (aG:∀r w',Ext w w'->r≠0->chk (p0,p1,p2,p3,p4,p5,p6,p7,p8,p9,p10,p11,p12,p13,p14,p15,()) sw.len po.len st.len N O J u I R U Y Z aa ac af ag ah ai ak am sw.len sl pl tl r->K none r w')
  (aQ:OkP (p0,p1,p2,p3,p4,p5,p6,p7,p8,p9,p10,p11,p12,p13,p14,p15,()) sw.len po.len st.len N O J u I R U Y Z aa ac af ag ah ai ak am sw.len sl pl tl->fineP (p0,p1,p2,p3,p4,p5,p6,p7,p8,p9,p10,p11,p12,p13,p14,p15,()) sl pl tl sw.len J->
   ∀w' a e,Ext w w'->nH w' a ⟨jO p0 p1 p2 p3 p4 p5 p6 p7 p8 p9 p10 p11 p12 p13 p14 p15 sw po N O J u I R U Y Z aa ac af ag ah ai ak am st,sw,pl,N,O,J,u,I⟩ e->Inv ⟨jO p0 p1 p2 p3 p4 p5 p6 p7 p8 p9 p10 p11 p12 p13 p14 p15 sw po N O J u I R U Y Z aa ac af ag ah ai ak am st,sw,pl,N,O,J,u,I⟩ e->NoS e->Maps ⟨jO p0 p1 p2 p3 p4 p5 p6 p7 p8 p9 p10 p11 p12 p13 p14 p15 sw po N O J u I R U Y Z aa ac af ag ah ai ak am st,sw,pl,N,O,J,u,I⟩ (e0 sw.len u.toNat I.toNat) (tl.map toB) e->(∀k b,own a k b->w.heap.size<=b)->K (some ⟨a.x,0,none⟩) 0 w'):
  Ko p0 p1 p2 p3 p4 p5 p6 p7 p8 p9 p10 p11 p12 p13 p14 p15 sw po N O J u I R U Y Z aa ac af ag ah ai ak am st w K:=by
 apply Zr;refine gq λa w1 r1 e1 z1 f1=> ?_;have rd:∀W (Q:_),Row W a (jO p0 p1 p2 p3 p4 p5 p6 p7 p8 p9 p10 p11 p12 p13 p14 p15 sw po N O J u I R U Y Z aa ac af ag ah ai ak am st)->Q p0 p1 p2 p3 p4 p5 p6 p7 p8 p9 p10 p11 p12 p13 p14 p15 sw po N O J u I R U Y Z aa ac af ag ah ai ak am st->uS W ⟨a,0,none⟩ Q:=by
  intro W Q hr hq;simp only[sx,hr.cell];exact hq
 refine rd _ _ r1 ?_;refine cmS1 (Ai (aP.ext f1) (aE.ext f1) (aF.ext f1) lsw lpo lst) ?_;rintro r w2 ⟨hc,f2⟩;have x2:=f1.trans f2;by_cases hr:r=0;rotate_left
 ·have:(r !=0)=true:=by rw[bne_iff_ne];exact hr
  rw[this,cond_true];exact aG r w2 x2 hr hc
 have:(r !=0)=false:=by rw[bne_eq_false_iff_eq];exact hr
 rw[this,cond_false];subst hr;rcases hc with ⟨_,h⟩|⟨ay,⟨_,h⟩|⟨ao,_⟩⟩
 ·cases h
 ·cases h
 have hK:=aQ ay ao;have hn:=agu ay;obtain⟨b1,b2,b3,b4,b5,b6,b7,b8⟩:=hn;have r2:=r1.ext f2;refine rd _ _ r2 ?_;refine gq λx w3 r3 e3 z3 f3=> ?_;have x3:=x2.trans f3;have r2:=r2.ext f3;refine Ld_s 17 po r2 (Ld_i 18 N r2 (Ld_i 19 O r2 ?_));have hpl:=(aE.ext x3).len;refine cmS6 (PN.aaq (aE.ext x3) (by omega) (by omega) ao.2.1 (TL ay.parts) (by omega) (by omega) (by omega)) ?_;rintro _ _ w4 ⟨rfl,f4,p,g,ps,rfl,hP,nP⟩;have lP:∀b,PN.fp p g ps b->b<w4.heap.size:=λb hb=>by
  rcases hb with h|h|h
  ·rw[h];exact hP.hd.lt
  ·rw[h];exact hP.gv.lt
  ·exact hP.ad.lt h
 have r2:=r2.ext f4;refine iI.2 (g_ (i:=0) (r3.ext f4) rfl (by simp) λw5 r5 f5' z5=> ?_);have f5:gW w4 w5 (·=x):=f5' _ rfl;have zx:x<w3.heap.size/\a<x:=by have:=f2.size;omega
 have hP:=hP.fr f5 λb hb e=>by have:=nP b hb;omega
 have r2:=r2.fr f5 (by omega);refine Ld_s 16 sw r2 (Ld_i 20 J r2 ?_);refine cmS6 (QN.aaq (sw.len:Int) J w5) ?_;rintro q _ w6 ⟨f6,hq⟩;have f6:Ext w5 w6:=f6;rcases hq with ⟨ar,rfl,qb,qs,rfl,nq1,nq2,hQ⟩|⟨au,_,_⟩;rotate_left
 ·exact absurd ⟨by omega,by omega,by omega,by omega⟩ au
 have lQ:qb<w6.heap.size/\qs<w6.heap.size:=⟨hQ.hd.lt,hQ.row.lt⟩;have hP:=hP.ext f6;have r2:=r2.ext f6;refine iI.2 (g_ (i:=1) (r5.ext f6) rfl (by simp) λw7 r7 f7' z7=> ?_);have f7:gW w6 w7 (·=x):=f7' _ rfl;have s4:=f4.size;have s6:=f6.size;have hP:=hP.fr f7 λb hb e=>by have:=nP b hb;omega
 have hQ:=hQ.fr f7 (by omega) (by omega);have r2:=r2.fr f7 (by omega);refine Ld_i 21 u r2 ?_;refine cmS6 (afQ u w7) ?_;rintro _ _ w8 ⟨f8,⟨au,_,_⟩|⟨_,_,rfl,B,rfl,nB,hB⟩⟩
 ·exact absurd ⟨by omega,by omega⟩ au
 have hP:=hP.ext f8;have hQ:=hQ.fr (f8 λ_=>False) (by simp) (by simp);have r2:=r2.ext f8;refine iI.2 (g_ (i:=2) (r7.ext f8) rfl (by simp) λw9 r9 f9' z9=> ?_);have f9:gW w8 w9 (·=x):=f9' _ rfl;have s8:=f8.size;have hP:=hP.fr f9 λb hb e=>by have:=nP b hb;omega
 have hQ:=hQ.fr f9 (by omega) (by omega);have hB:=hB.fr f9 λb hb e=>by have:=(nB b hb).1;omega
 have r2:=r2.fr f9 (by omega);refine Ld_i 22 I r2 ?_;refine cmS6 (SN.agP I w9) ?_;rintro _ _ aH ⟨f10,⟨au,_,_⟩|⟨_,_,rfl,T,rfl,nT,hT⟩⟩
 ·exact absurd ⟨by omega,by omega⟩ au
 have hP:=hP.ext f10;have hQ:=hQ.fr (f10 λ_=>False) (by simp) (by simp);have hB:=hB.ext f10;have r2:=r2.ext f10;refine iI.2 (g_ (i:=3) (r9.ext f10) rfl (by simp) λaz aR aI z11=> ?_);have f11:gW aH az (·=x):=aI _ rfl;have s10:=f10.size;have lT:∀b,SN.fp T b->b<aH.heap.size:=λb hb=>hT.lt hb;have hP:=hP.fr f11 λb hb e=>by have:=nP b hb;omega
 have hQ:=hQ.fr f11 (by omega) (by omega);have hB:=hB.fr f11 λb hb e=>by have:=(nB b hb).1;omega
 have hT:=hT.fr f11 λb hb e=>by have:=nT b hb;omega
 have r2:=r2.fr f11 (by omega);refine Ld_i 22 I r2 ?_;refine cmS6 (WN.ag2 I ⟨by omega,by omega⟩ az) ?_;rintro _ _ aA ⟨f12,rfl,d,m,ss,rfl,hW,nW⟩;have f12:Ext az aA:=f12;have hP:=hP.ext f12;have hQ:=hQ.fr (f12 λ_=>False) (by simp) (by simp);have hB:=hB.ext f12;have hT:=hT.ext f12;have r2:=r2.ext f12;refine iI.2 (g_ (i:=4) (aR.ext f12) rfl (by simp) λaB aM aJ z13=> ?_);have f13:gW aA aB (·=x):=aJ _ rfl;have s12:=f12.size;have lW:∀b,WN.Fz d m ss b->b<aA.heap.size:=λb hb=>hW.wm.lt hb;have hP:=hP.fr f13 λb hb e=>by have:=nP b hb;omega
 have hQ:=hQ.fr f13 (by omega) (by omega);have hB:=hB.fr f13 λb hb e=>by have:=(nB b hb).1;omega
 have hT:=hT.fr f13 λb hb e=>by have:=nT b hb;omega
 have hW:=hW.fr f13 λb hb e=>by have:=nW b hb;omega
 have r2:=r2.fr f13 (by omega);simp only[List.set_cons_zero,List.set_cons_succ] at aM;have aS:Ext w aB:=by
  have q5:=(x3.trans f4).new f5 λb hb e=>by have:=x2.size;omega
  have q7:=(q5.trans f6).new f7 λb hb e=>by have:=x2.size;omega
  have q9:=(q7.trans f8).new f9 λb hb e=>by have:=x2.size;omega
  have aT:=(q9.trans f10).new f11 λb hb e=>by have:=x2.size;omega
  exact(aT.trans f12).new f13 λb hb e=>by have:=x2.size;omega
 have aN:=QN.agp ar;rw[Int.toNat_natCast] at aN;have hQ':QN.QR aB qb qs (List.replicate sw.len 0) J:=by simpa using hQ
 have key:∀k b,own ⟨x,p,g,ps,qb,qs,B,T,d,m,ss⟩ k b->(k=0/\b=x)\/(k=1/\w3.heap.size<=b/\b<w4.heap.size)\/(k=2/\w5.heap.size<=b/\b<w6.heap.size)\/(k=3/\w7.heap.size<=b/\b<w8.heap.size)\/(k=4/\w9.heap.size<=b/\b<aH.heap.size)\/(k=5/\az.heap.size<=b/\b<aA.heap.size):=by
  intro k b ho
  match k,ho with
  |0,ho=>exact .inl ⟨rfl,ho⟩
  |1,ho=>exact .inr (.inl ⟨rfl,nP b ho,lP b ho⟩)
  |2,ho=>
   refine .inr (.inr (.inl ⟨rfl,?_⟩));rcases ho with h|h<;>simp only at h<;>omega
  |3,ho=>exact .inr (.inr (.inr (.inl ⟨rfl,nB b ho⟩)))
  |4,ho=>exact .inr (.inr (.inr (.inr (.inl ⟨rfl,nT b ho,lT b ho⟩))))
  |5,ho=>exact .inr (.inr (.inr (.inr (.inr ⟨rfl,nW b ho,lW b ho⟩))))
  |(n+6),ho=>exact ho.elim
 have hE:nH aB ⟨x,p,g,ps,qb,qs,B,T,d,m,ss⟩ ⟨jO p0 p1 p2 p3 p4 p5 p6 p7 p8 p9 p10 p11 p12 p13 p14 p15 sw po N O J u I R U Y Z aa ac af ag ah ai ak am st,sw,pl,N,O,J,u,I⟩ (e0 sw.len u.toNat I.toNat):=by
  refine⟨⟨rfl,rfl,rfl,rfl,rfl,by simp only;omega,by simp only;omega,by simp only;omega,by simp only;omega,TL ay.parts⟩,aM,hP,hQ',aN,hB,hT,hW,?_,?_⟩
  ·intro k k' b h1 h2;have h1:=key k b h1;have h2:=key k' b h2;omega
  ·intro k b h1;have h1:=key k b h1;omega
 have hI:Inv ⟨jO p0 p1 p2 p3 p4 p5 p6 p7 p8 p9 p10 p11 p12 p13 p14 p15 sw po N O J u I R U Y Z aa ac af ag ah ai ak am st,sw,pl,N,O,J,u,I⟩ (e0 sw.len u.toNat I.toNat):=by
  refine⟨by simp[e0],λi hi=> ?_,λo=> ?_,λj b hj=> ?_⟩
  ·have h1:ϥ (e0 sw.len u.toNat I.toNat).S i=0:=by
    unfold ϥ;show ((live 0 (List.replicate u.toNat none)).filter _).length=0;rw[tV];rfl
   rw[h1];show (List.replicate sw.len (0:Int)).getD i.toNat 0=((0:Nat):Int);rw[List.getD_eq_getElem?_getD,List.getElem?_replicate];split<;>rfl
  ·constructor
   ·intro h;simp[e0] at h
   ·rintro⟨j,b,hj,_⟩;have hj:(List.replicate u.toNat (none:Option Bnd))[j]? =some (some b):=hj;rw[List.getElem?_replicate] at hj;split at hj<;>simp at hj
  ·have hj:(List.replicate u.toNat (none:Option Bnd))[j]? =some (some b):=hj;rw[List.getElem?_replicate] at hj;split at hj<;>simp at hj
 have hS:NoS (e0 sw.len u.toNat I.toNat):=IQ _ _;have ar:∀k b,own ⟨x,p,g,ps,qb,qs,B,T,d,m,ss⟩ k b->w.heap.size<=b:=λk b h=>by
  have h1:=key k b h;have:=x2.size;omega
 refine Ld_s 35 st r2 ?_;have hlt:=aF.len;refine gX (λs W=>∃(j:Nat) (a:EA) (e:ES),j<=tl.length/\s.1=(j:Int)/\Ext w W/\nH W a ⟨jO p0 p1 p2 p3 p4 p5 p6 p7 p8 p9 p10 p11 p12 p13 p14 p15 sw po N O J u I R U Y Z aa ac af ag ah ai ak am st,sw,pl,N,O,J,u,I⟩ e/\Inv ⟨jO p0 p1 p2 p3 p4 p5 p6 p7 p8 p9 p10 p11 p12 p13 p14 p15 sw po N O J u I R U Y Z aa ac af ag ah ai ak am st,sw,pl,N,O,J,u,I⟩ e/\NoS e/\Maps ⟨jO p0 p1 p2 p3 p4 p5 p6 p7 p8 p9 p10 p11 p12 p13 p14 p15 sw po N O J u I R U Y Z aa ac af ag ah ai ak am st,sw,pl,N,O,J,u,I⟩ (e0 sw.len u.toNat I.toNat) ((tl.take j).map toB) e/\(∀k b,own a k b->w.heap.size<=b)/\a.x=x)
  (λs _=>(st.len - s.1).toNat) ⟨0,_,_,by omega,rfl,aS,hE,hI,hS,Maps.nil,ar,rfl⟩ ?_
 rintro⟨i,⟨⟩⟩ W ⟨j,aj,ej,hj,hi,hx,av,aw,aK,aC,an,aD⟩ next aq
 simp only at hi;subst hi;by_cases hl:(j:Int)<(st.len:Int)
 ·simp only[hl,decide_true,cond_true];have hg:=List.getElem?_eq_getElem (show j<tl.length by omega);generalize tl[j]=y at hg;obtain⟨y0,y1,y2,y3,y4,y5,y6,⟨⟩⟩:=y;refine SlN_ix Og (by omega) (aF.ext hx) (by omega) (by rw[Int.toNat_natCast];exact hg) λad hc=> ?_;have c0:=hc 0 _ rfl;have c1:=hc 1 _ rfl;have c2:=hc 2 _ rfl;have c3:=hc 3 _ rfl;have c4:=hc 4 _ rfl;have c5:=hc 5 _ rfl;have c6:=hc 6 _ rfl;simp only[Vm,c0,c1,c2,c3,c4,c5,c6,f_,YU];refine gq λt w14 aU e14 z14 f14=> ?_;refine gY aU rfl rfl λaV aW aL z15=> ?_;have xx:Ext W aV:=f14.new (aL (·=t) rfl) λb hb e=>by omega
  simp only[sx,aW.cell];have aO:(tl.take (j+1)).map toB=(tl.take j).map toB++[toB (y0,y1,y2,y3,y4,y5,y6,())]:=by
   have aX:j<tl.length:=(List.getElem?_eq_some_iff.1 hg).1;rw[List.take_succ_eq_append_getElem aX,List.map_append,(List.getElem?_eq_some_iff.1 hg).2];rfl
  rw[<- aD];refine cmS1 (map_ok (av.ext xx) aw (toB (y0,y1,y2,y3,y4,y5,y6,())) rfl) ?_;rintro r w16 ⟨rfl,⟨aY,f16⟩|⟨he,_,f16,A,i,Mi,Mo,Q,G,ax,aZ,hE',hI'⟩⟩
  ·rw[Α];have:=(av.ext xx).ext f16;refine aq _ _ ⟨j+1,aj,ej,by omega,by simp,(hx.trans xx).trans f16,this,aw,aK,?_,an,aD⟩ (by simp only;omega);rw[aO];exact Maps.no aC aw av.db.good aY
  ·rw[Α];refine aq _ _ ⟨j+1,{aj with B:=A},_,by omega,by simp,(hx.trans xx).new f16 λb hb ⟨k,hk⟩=>by have:=an k b hk;omega,hE',hI',aK,?_,?_,aD⟩ (by simp only;omega)
   ·rw[aO];exact Maps.yes aC aw av.db.good he ax
   ·intro k b hk;have zz:=(hx.trans xx).size
    match k,hk with
    |0,ho=>exact an 0 b ho
    |1,ho=>exact an 1 b ho
    |2,ho=>exact an 2 b ho
    |3,ho=>
     rcases aZ b ho with h|h
     ·exact an 3 b h
     ·omega
    |4,ho=>exact an 4 b ho
    |5,ho=>exact an 5 b ho
    |(n+6),ho=>exact ho.elim
 ·simp only[hl,decide_false,cond_false];have:j=tl.length:=by omega
  subst this;rw[List.take_length] at aC;rw[<- aD];exact hK W aj ej hx av aw aK aC an
end Go.Proofs.EN
end
section
namespace Gp.V4
structure vF where
 tr:Int
 fl:Int
 nx:Int
 hp:Int
 src:List UInt8
 dst:List UInt8
 data:List UInt8
def z16:List UInt8:=List.replicate 16 0
def vF.fine (p:vF):Prop:=(iK p.tr 1/\iK p.nx 1/\iK p.hp 1)/\0<=p.fl/\p.fl<1048576
open Classical in
noncomputable def vF.check (p:vF):Int:=if p.fine then if p.data.length<=65535 then 0 else 6 else 1
def vF.ok (p:vF):Prop:=p.src.length=16/\p.dst.length=16
theorem Gt {p:vF} (h:p.check=0):p.fine/\p.data.length<=65535:=by
 unfold vF.check at h;split at h
 ·split at h
  ·exact⟨by assumption,by assumption⟩
  ·omega
 ·omega
def vF.first (p:vF):Nat:=1610612736+p.tr.toNat * 1048576+p.fl.toNat
def vF.head (p:vF):List UInt8:=jD 4 p.first++jD 2 p.data.length++[UInt8.ofNat p.nx.toNat,UInt8.ofNat p.hp.toNat]
def vF.bytes (p:vF):List UInt8:=p.head++(p.src++(p.dst++p.data))
theorem Dy (p:vF):p.head.length=8:=by simp[vF.head,iG]
theorem JY {p:vF} (h:p.ok):p.bytes.length=40+p.data.length:=by
 simp only[vF.bytes,List.length_append,Dy,h.1,h.2];omega
def sZ (l:List UInt8) (quoted:Bool):Int:=
 if l.length<40 then 3 else if num l 0 4 / 268435456≠6 then 4 else if quoted=false/\l.length - 40<num l 4 2 then 3 else 0
def KD (l:List UInt8):vF:=⟨(num l 0 4 / 1048576 % 256:Nat),(num l 0 4 % 1048576:Nat),(num l 6 1:Nat),(num l 7 1:Nat),(l.drop 8).take 16,(l.drop 24).take 16,(l.drop 40).take (num l 4 2)⟩
theorem BD {a b:List UInt8} {i k:Nat} (h:i+k<=a.length):num (a++b) i k=num a i k:=by
 unfold num;rw[drop_append_of_le_length (by omega),List.take_append_of_le_length (by rw[length_drop];omega)]
theorem ML {l:List UInt8} {i k m:Nat} (h:i+k<=m):num (l.take m) i k=num l i k:=by
 unfold num;rw[drop_take,take_take];congr 2;omega
theorem acV {p:vF} (h:p.check=0) (ho:p.ok) {m:Nat} (hm:40<=m):sZ (p.bytes.take m) true=0/\KD (p.bytes.take m)={p with data:=p.data.take (m - 40)}:=by
 obtain⟨⟨⟨f1,f2,f3⟩,f4,f5⟩,f6⟩:=Gt h;have g1:=Dw f1;have g2:=Dw f2;have g3:=Dw f3;have hh:=Dy p;have hb:=JY ho;have fl:p.first<4294967296:=by unfold vF.first;omega
 have n0:num (p.bytes.take m) 0 4=p.first:=by
  rw[ML (by omega),vF.bytes,BD (by omega),vF.head,List.append_assoc,BD (by rw[iG];omega)];unfold num;rw[List.drop_zero,take_of_length_le (by rw[iG];omega),DF];exact Nat.mod_eq_of_lt fl
 have n4:num (p.bytes.take m) 4 2=p.data.length:=by
  rw[ML (by omega),vF.bytes,BD (by omega),vF.head,BD (by simp[iG])];unfold num;rw[drop_append_of_le_length (by rw[iG];omega),drop_of_length_le (by rw[iG];omega),nil_append,take_of_length_le (by rw[iG];omega),DF];exact Nat.mod_eq_of_lt (by omega)
 have one:∀(x y:UInt8) (r:List UInt8),num (jD 4 p.first++jD 2 p.data.length++[x,y]) 6 1=x.toNat/\num (jD 4 p.first++jD 2 p.data.length++[x,y]) 7 1=y.toNat:=by
  intro x y r;simp only[jD,List.cons_append,nil_append];constructor<;>simp[num,nN]
 have n6:(num (p.bytes.take m) 6 1:Int)=p.nx:=by
  rw[ML (by omega),vF.bytes,BD (by omega),vF.head,(one _ _ []).1];simp;omega
 have n7:(num (p.bytes.take m) 7 1:Int)=p.hp:=by
  rw[ML (by omega),vF.bytes,BD (by omega),vF.head,(one _ _ []).2];simp;omega
 have d8:p.bytes.drop 8=p.src++(p.dst++p.data):=by
  rw[vF.bytes,drop_append_of_le_length (by omega),drop_of_length_le (by omega),nil_append]
 have d24:p.bytes.drop 24=p.dst++p.data:=by
  rw[show 24=8+16 from rfl,<- List.drop_drop,d8,drop_append_of_le_length (by rw[ho.1];omega),drop_of_length_le (by rw[ho.1];omega),nil_append]
 have d40:p.bytes.drop 40=p.data:=by
  rw[show 40=24+16 from rfl,<- List.drop_drop,d24,drop_append_of_le_length (by rw[ho.2];omega),drop_of_length_le (by rw[ho.2];omega),nil_append]
 constructor
 ·unfold sZ;rw[if_neg (by rw[List.length_take,hb];omega),n0,if_neg (by unfold vF.first;omega),if_neg (by simp)]
 ·unfold KD;rw[n0,n4,n6,n7,drop_take,drop_take,drop_take,d8,d24,d40];have e1:(((p.first / 1048576 % 256:Nat)):Int)=p.tr:=by unfold vF.first;omega
  have e2:(((p.first % 1048576:Nat)):Int)=p.fl:=by unfold vF.first;omega
  have e3:((p.src++(p.dst++p.data)).take (m - 8)).take 16=p.src:=by
   rw[take_take,show min 16 (m - 8)=p.src.length by rw[ho.1];omega,List.take_left' rfl]
  have e4:((p.dst++p.data).take (m - 24)).take 16=p.dst:=by
   rw[take_take,show min 16 (m - 24)=p.dst.length by rw[ho.2];omega,List.take_left' rfl]
  have e5:(p.data.take (m - 40)).take p.data.length=p.data.take (m - 40):=by
   rw[take_take];by_cases hc:m - 40<=p.data.length
   ·rw[Nat.min_eq_right hc]
   ·rw[Nat.min_eq_left (by omega),take_of_length_le (Nat.le_refl _),take_of_length_le (by omega)]
  rw[e1,e2,e3,e4,e5]
theorem acU {p:vF} (h:p.check=0) (ho:p.ok):sZ p.bytes true=0/\KD p.bytes=p:=by
 have hb:=JY ho;have:=acV h ho (m:=p.bytes.length) (by omega);rw[List.take_length] at this;refine⟨this.1,?_⟩;rw[this.2,hb,take_of_length_le (by omega)]
end Gp.V4
end
section
namespace Go.Proofs.VN
open Gp Gp.V4
theorem ahV {l:List UInt8} {at_ k:Nat} (h:k<=4):num l at_ k<2^32:=SB (by simp;omega)
theorem abm {l:List UInt8} {i:Nat} (h:i<l.length):num l i 1=l[i].toNat:=by
 unfold num;rw[List.drop_eq_getElem_cons h,List.take_succ_cons];simp[nN]
def bi (l:List UInt8):List Int:=l.map λb=>(b.toNat:Int)
theorem Vt (l:List UInt8):bytesV l=(bi l).map λn=>Value.int .u8 n:=by unfold bytesV bi;rw[List.map_map];rfl
theorem aiG {l:List UInt8} (h:l.length=16):∃x0 x1 x2 x3 x4 x5 x6 x7 x8 x9 u I J N O R:Int,bi l=[x0,x1,x2,x3,x4,x5,x6,x7,x8,x9,u,I,J,N,O,R]/\bytesV l=[.int .u8 x0,.int .u8 x1,.int .u8 x2,.int .u8 x3,.int .u8 x4,.int .u8 x5,.int .u8 x6,.int .u8 x7,.int .u8 x8,.int .u8 x9,.int .u8 u,.int .u8 I,.int .u8 J,.int .u8 N,.int .u8 O,.int .u8 R]:=by
 obtain⟨b0,l0,rfl⟩:=exists_cons_of_length_eq_add_one h;have h0:=Nat.succ.inj h;obtain⟨b1,l1,rfl⟩:=exists_cons_of_length_eq_add_one h0;have h1:=Nat.succ.inj h0;obtain⟨b2,l2,rfl⟩:=exists_cons_of_length_eq_add_one h1;have h2:=Nat.succ.inj h1;obtain⟨b3,l3,rfl⟩:=exists_cons_of_length_eq_add_one h2;have h3:=Nat.succ.inj h2;obtain⟨b4,l4,rfl⟩:=exists_cons_of_length_eq_add_one h3;have h4:=Nat.succ.inj h3;obtain⟨b5,l5,rfl⟩:=exists_cons_of_length_eq_add_one h4;have h5:=Nat.succ.inj h4;obtain⟨b6,l6,rfl⟩:=exists_cons_of_length_eq_add_one h5;have h6:=Nat.succ.inj h5;obtain⟨b7,l7,rfl⟩:=exists_cons_of_length_eq_add_one h6;have h7:=Nat.succ.inj h6;obtain⟨b8,l8,rfl⟩:=exists_cons_of_length_eq_add_one h7;have h8:=Nat.succ.inj h7;obtain⟨b9,l9,rfl⟩:=exists_cons_of_length_eq_add_one h8;have h9:=Nat.succ.inj h8;obtain⟨af,l10,rfl⟩:=exists_cons_of_length_eq_add_one h9;have U:=Nat.succ.inj h9;obtain⟨ag,l11,rfl⟩:=exists_cons_of_length_eq_add_one U;have Y:=Nat.succ.inj U;obtain⟨ah,l12,rfl⟩:=exists_cons_of_length_eq_add_one Y;have Z:=Nat.succ.inj Y;obtain⟨ai,l13,rfl⟩:=exists_cons_of_length_eq_add_one Z;have aa:=Nat.succ.inj Z;obtain⟨aj,l14,rfl⟩:=exists_cons_of_length_eq_add_one aa;have ac:=Nat.succ.inj aa;obtain⟨ak,l15,rfl⟩:=exists_cons_of_length_eq_add_one ac;have am:=Nat.succ.inj ac;obtain rfl:=List.length_eq_zero_iff.1 am;exact⟨b0.toNat,b1.toNat,b2.toNat,b3.toNat,b4.toNat,b5.toNat,b6.toNat,b7.toNat,b8.toNat,b9.toNat,af.toNat,ag.toNat,ah.toNat,ai.toNat,aj.toNat,ak.toNat,rfl,rfl⟩
theorem LH {b o:Nat} {K:fU->Prop} (h:K ⟨some ⟨b,o,none⟩,16,16⟩):FX ⟨b,o,none⟩ 16 1 0 (16:Int) K:=by
 refine⟨by omega,by omega,by omega,?_⟩;have e:(if 16=(0:Int).toNat then (⟨b,o,none⟩:Addr) else (⟨b,o,none⟩:Addr).add ((0:Int).toNat * 1))=⟨b,o,none⟩:=by
  rw[if_neg (by decide)];rfl
 rw[e];exact h
theorem Oa (q:vF) {p0 p1 p2 p3 p4 p5 p6 p7 p8 p9 p10 p11 p12 p13 p14 p15 J N O R U Y Z aa ac af ag ah ai aj ak am:Int} {s:fU} (hs:s.len=q.data.length) (w:θ):Ah q.tr q.fl q.nx q.hp p0 p1 p2 p3 p4 p5 p6 p7 p8 p9 p10 p11 p12 p13 p14 p15 J N O R U Y Z aa ac af ag ah ai aj ak am s w λr w'=>r=q.check/\Ext w w':=by
 apply ZJ;refine gq λa w1 r1 e1 z1 f1=> ?_;intro J4;have h4t:∀W,Ext w W->¬q.fine->J4 true W:=by
  intro W hx hn;simp only[J4,cond_true];refine⟨?_,hx⟩;unfold vF.check;rw[if_neg hn]
 have h4f:∀W,Ext w1 W->(iK q.tr 1/\iK q.nx 1/\iK q.hp 1)->J4 false W:=by
  intro W hx I;have r:=r1.ext hx;simp -zeta only[J4,cond_false];intro J7;have h7t:¬q.fine->J7 true:=by
   intro hn;simp only[J7,cond_true];refine⟨?_,f1.trans hx⟩;unfold vF.check;rw[if_neg hn]
  have h7f:0<=q.fl/\q.fl<1048576->J7 false:=by
   intro an;have u:q.fine:=⟨I,an⟩;simp only[sx,J7,r.cell];by_cases hl:q.data.length<=65535
   ·rw[decide_eq_false (by omega),cond_false];refine⟨?_,f1.trans hx⟩;unfold vF.check;rw[if_pos u,if_pos hl]
   ·rw[decide_eq_true (by omega),cond_true];refine⟨?_,f1.trans hx⟩;unfold vF.check;rw[if_pos u,if_neg hl]
  clear_value J7;simp only[sx,r.cell];by_cases c1:q.fl<0
  ·rw[decide_eq_true c1,cond_true];exact h7t λhf=>by have:=hf.2.1;omega
  ·rw[decide_eq_false c1,cond_false];by_cases c2:q.fl>=1048576
   ·rw[decide_eq_true c2];exact h7t λhf=>by have:=hf.2.2;omega
   ·rw[decide_eq_false c2];exact h7f (by omega)
 clear_value J4;simp only[sx,r1.cell];refine cmS0 (mO q.tr 1 w1) ?_;rintro _ _ ⟨rfl,rfl⟩;by_cases g1:iK q.tr 1
 ·rw[decide_eq_true g1,Bool.not_true,cond_false];simp only[d_,f_,gJ,r1.cell];refine cmS0 (mO q.nx 1 _) ?_;rintro _ _ ⟨rfl,rfl⟩;by_cases g2:iK q.nx 1
  ·rw[decide_eq_true g2,Bool.not_true,cond_false];simp only[d_,f_,gJ,r1.cell];refine cmS0 (mO q.hp 1 _) ?_;rintro _ _ ⟨rfl,rfl⟩;by_cases g3:iK q.hp 1
   ·rw[decide_eq_true g3,Bool.not_true];exact h4f _ (Ext.refl _) ⟨g1,g2,g3⟩
   ·rw[decide_eq_false g3,Bool.not_false];exact h4t _ f1 λhf=>g3 hf.1.2.2
  ·rw[decide_eq_false g2,Bool.not_false,cond_true];exact h4t _ f1 λhf=>g2 hf.1.2.1
 ·rw[decide_eq_false g1,Bool.not_false,cond_true];exact h4t _ f1 λhf=>g1 hf.1.1
structure JV (w:θ) (q:vF) (t0 t1 t2 t3:Int) (ps qs:List Int) (s:fU):Prop where
 n:t0=q.tr/\t1=q.fl/\t2=q.nx/\t3=q.hp
 src:ps=bi q.src
 dst:qs=bi q.dst
 data:iq w s q.data
theorem JV.ext {w w':θ} {q:vF} {t0 t1 t2 t3:Int} {ps qs:List Int} {s:fU} (h:JV w q t0 t1 t2 t3 ps qs s) (hx:Ext w w'):JV w' q t0 t1 t2 t3 ps qs s:=⟨h.n,h.src,h.dst,h.data.ext hx⟩
theorem Qn {w:θ} {s:fU} {vs:List Value} {k:Nat} (h:Buf w s vs) (hk:∀b,fU.at s b->k<=b) (x:Addr) (hx:s.a=some x):k<=x.block:=by
 obtain⟨_,⟨h2,_⟩|⟨b,pad,h2,_⟩⟩:=h
 ·rw[hx] at h2;cases h2
 ·rw[hx] at h2;cases h2;exact hk b ⟨0,hx⟩
theorem abE {w:θ} {p0 p1 p2 p3 p4 p5 p6 p7 p8 p9 p10 p11 p12 p13 p14 p15 q0 q1 q2 q3 q4 q5 q6 q7 q8 q9 u I J N O R hop:Int} {s:fU} {l src dst:List UInt8} (hs:iq w s l) (hl:l.length<=2^46) (hp:[p0,p1,p2,p3,p4,p5,p6,p7,p8,p9,p10,p11,p12,p13,p14,p15]=bi src) (hq:[q0,q1,q2,q3,q4,q5,q6,q7,q8,q9,u,I,J,N,O,R]=bi dst):
  mZ p0 p1 p2 p3 p4 p5 p6 p7 p8 p9 p10 p11 p12 p13 p14 p15 q0 q1 q2 q3 q4 q5 q6 q7 q8 q9 u I J N O R hop s w λt0 t1 t2 t3 r0 r1 r2 r3 r4 r5 r6 r7 r8 r9 U Y Z aa ac af ag ah ai aj ak am an ao aq ar au av aw ax ay az s' e w'=>e=(⟨0,0,4,hop,src,dst,l⟩:vF).check/\(e=0->JV w' ⟨0,0,4,hop,src,dst,l⟩ t0 t1 t2 t3 [r0,r1,r2,r3,r4,r5,r6,r7,r8,r9,U,Y,Z,aa,ac,af] [ag,ah,ai,aj,ak,am,an,ao,aq,ar,au,av,aw,ax,ay,az] s'/\Yz w s')/\Ext w w':=by
 apply X5;refine gq λa w1 r1 e1 z1 f1=>gq λb w2 r2 e2 z2 f2=>gq λc w3 r3 e3 z3 f3=> ?_;have ra:=(r1.ext f2).ext f3;have rb:=r2.ext f3;simp only[sx,ra.cell,rb.cell];refine DX rfl rfl λd w4 r4 e4 z4 f4=> ?_;have x4:=(f1.trans f2).trans (f3.trans f4);refine cmS2 (kC (hs.ext x4) hl) ?_;rintro r w5 ⟨b5,_,f5,n5⟩;refine g_ (r4.ext f5) rfl (by simp) λw6 r6 f6 z6=> ?_;simp only[List.set_cons_zero,List.set_cons_succ] at r6;have f6d:=f6 (·=d) rfl;have hz4:=f4.size;have hz3:=f3.size;have hz2:=f2.size;have hz1:=f1.size;have hz5:=f5.size;have x6:Ext w w6:=(x4.trans f5).new f6d λy hy e=>by omega
 have b6:=b5.fr f6d λc hc e=>by have:=n5 c hc;omega
 simp only[sx,r6.cell];refine cmS1 (Oa ⟨0,0,4,hop,src,dst,l⟩ (iq.iD b6).1 w6) ?_;rintro _ w7 ⟨rfl,f7⟩;have r3':=((((r3.ext f4).ext f5).fr f6d (by omega)).ext f7);have x7:=x6.trans f7;by_cases hc:(⟨0,0,4,hop,src,dst,l⟩:vF).check=0
 ·rw[hc];simp only[show ((0:Int) !=0)=false from rfl,cond_false,d_,f_,gQ,gJ,(r6.ext f7).cell];refine gY r3' rfl rfl λw8 r8 f8 z8=> ?_;have f8c:=f8 (·=c) rfl;simp only[d_,f_,gQ,gJ,r8.cell];refine⟨by trivial,λ_=>⟨⟨⟨rfl,rfl,rfl,rfl⟩,hp,hq,(iq.iD ((b6.ext f7).fr f8c λy hy e=>by have:=n5 y hy;omega))⟩,Qn b5 λy hy=>by have:=n5 y hy;omega⟩,x7.new f8c λy hy e=>by omega⟩
 ·have hc':((⟨0,0,4,hop,src,dst,l⟩:vF).check !=0)=true:=by simpa using hc
  rw[hc',cond_true];refine gY r3' rfl rfl λw8 r8 f8 z8=> ?_;have f8c:=f8 (·=c) rfl;simp only[d_,f_,gQ,gJ,r8.cell];exact⟨by trivial,λh0=>absurd h0 hc,x7.new f8c λy hy e=>by omega⟩
theorem aaV {w:θ} {b o:Nat} {L A C:List Value} {l:List UInt8} (hr:Row w b L) (hL:L=A++(bytesV l++C)) (ho:A.length=o) {n:Nat} (hn:n=l.length):iq w ⟨some ⟨b,o,none⟩,n,n⟩ l:=by
 subst hn;refine⟨rfl,⟨by rw[iU],λj hj=> ?_⟩,Nat.le_refl _⟩;rw[gy,hr.cell,hL,<- ho,List.getElem?_append_right (by omega),Nat.add_sub_cancel_left,List.getElem?_append_left hj]
theorem Xh {n:Nat} (hn:n<=2^46) (w:θ):lM ⟨none,0,0⟩ (n:Int) w λr w'=>Buf w' r (bytesV [])/\Ext w w'/\∀b,fU.at r b->w.heap.size<=b:=by
 apply tZ;rw[decide_eq_false (by omega),cond_false];have e0:ο.wrap (((0:Nat):Int) - ((0:Nat):Int))=0:=rfl;simp -zeta only[e0];rw[show ((n:Int) - 0)=(n:Int) by omega,Α];intro J;by_cases hz:(n:Int)>0
 ·rw[decide_eq_true hz,cond_true];refine⟨by omega,by omega,by simp,?_⟩;show QE 5 1 1 [.int .u8 0] (⟨none,0,0⟩:fU) (n:Int) w _;refine JQ (old:=[]) (by show 0<0+n;omega) (by show (0+n) * 1<=_;omega) (by show 0+n<=_;omega) rfl λc w1 hc r1 f1 z1=> ?_;have hc:0+n<=c:=hc;refine⟨by omega,by omega,by simp,?_⟩;have u:qm (some (⟨w.heap.size,0,none⟩:Addr)) c (0:Int).toNat 1=some ⟨w.heap.size,0,none⟩:=by
   unfold qm;split<;>simp[Addr.add]
  show J ⟨qm (some (⟨w.heap.size,0,none⟩:Addr)) c (0:Int).toNat 1,0,c - 0⟩ w1;rw[u];refine⟨⟨rfl,.inr ⟨w.heap.size,gZ [.int .u8 0] n++gZ [.int .u8 0] (c - (0+n)),rfl,?_,by simpa [bytesV] using r1⟩⟩,f1,λb ⟨o,hb⟩=>by cases hb;exact Nat.le_refl _⟩;simp only[List.length_append,nD,List.length_cons,List.length_nil,bytesV,List.map_nil];omega
 ·rw[decide_eq_false hz,cond_false];exact⟨Buf.nil,Ext.refl _,λb ⟨o,hb⟩=>by cases hb⟩
def tq (ps:List (fU×List UInt8)):List UInt8:=ps.flatMap (·.2)
theorem Wv {ps:List (fU×List UInt8)} {n:Nat} (h:∀p∈ps,p.2.length<=n):(tq ps).length<=ps.length * n:=by
 induction ps with
 |nil=>simp[tq]
 |cons p ps ih=>
  have h1:=h p (by simp);have h2:=ih λq hq=>h q (by simp[hq]);unfold tq at h2 ⊢;rw[List.flatMap_cons,List.length_append,List.length_cons,Nat.add_mul];omega
theorem Df {ps:List (fU×List UInt8)} {i:Nat} {p:fU×List UInt8} (h:ps[i]? =some p):tq (ps.take (i+1))=tq (ps.take i)++p.2:=by
 unfold tq;rw[List.take_add_one,h,List.flatMap_append];simp
theorem Nq {w:θ} {s:fU} {ps:List (fU×List UInt8)} (hs:Parts w s ps) {i:Nat} {p:fU×List UInt8} (hp:ps[i]? =some p) {K:Addr->Prop} (hK:∀a,w.cell? a=some (.slice p.1.a p.1.len p.1.cap)->iq w p.1 p.2->K a):iM s 1 (i:Int) K:=by
 have hlt:=(List.getElem?_eq_some_iff.1 hp).1;have hl:=hs.1;obtain⟨b,o,ha,hc,hb⟩:=hs.2 i p hp;refine⟨_,ha,by omega,by omega,?_⟩;rw[Int.toNat_natCast,Nat.mul_one,gy];exact hK _ hc hb
theorem Oc {w:θ} {s:fU} {ps:List (fU×List UInt8)} (hs:Parts w s ps) (hn:ps.length<=8) (hl:∀p∈ps,p.2.length<=2^40):
  jP s w λr w'=>Buf w' r (bytesV (tq ps))/\Ext w w'/\∀b,fU.at r b->w.heap.size<=b:=by
 apply qQ;have hsl:=hs.1;have bnd:∀i,(tq (ps.take i)).length<=2^43:=λi=>by
  have h1:=Wv (ps:=ps.take i) (n:=2^40) λp hp=>hl p (List.mem_of_mem_take hp);have h2:(ps.take i).length<=8:=by simp;omega
  have h3:(ps.take i).length * 2^40<=8 * 2^40:=Nat.mul_le_mul_right _ h2;omega
 refine gX (λst W=>W=w/\∃i:Nat,i<=ps.length/\st.2.1=(i:Int)/\st.1=((tq (ps.take i)).length:Int)) (λst _=>ps.length - st.2.1.toNat) ⟨rfl,0,by omega,rfl,by simp[tq]⟩ ?_;rintro⟨t,x,⟨⟩⟩ W ⟨rfl,i,hi,hx,ht⟩ next J
 simp only at hx ht;subst hx ht;by_cases R:(i:Int)<(s.len:Int)
 ·rw[decide_eq_true R,cond_true];have hp:=List.getElem?_eq_getElem (show i<ps.length by omega);generalize ps[i]'(by omega)=p at hp;refine Nq hs hp λa hc hb=> ?_;simp only[sx,hc];have b1:=bnd (i+1);have e1:=Df hp;have hpl:=hb.1;rw[e1,List.length_append] at b1;rw[Α (n:=((tq (ps.take i)).length:Int)+(p.1.len:Int)) (by omega) (by omega),decide_eq_false (by omega),cond_false,Α];exact J _ _ ⟨rfl,i+1,by omega,by simp,by rw[e1,List.length_append];simp only;omega⟩ (by simp only;omega)
 ·rw[decide_eq_false R,cond_false];have b1:=bnd i;refine cmS2 (Xh (by omega) W) ?_;rintro r w1 ⟨g1,g2,g3⟩;refine gX (λst W'=>∃j:Nat,j<=ps.length/\st.2.1=(j:Int)/\Buf W' st.1 (bytesV (tq (ps.take j)))/\(∀b,fU.at st.1 b->W.heap.size<=b)/\Ext W W') (λst _=>ps.length - st.2.1.toNat) ⟨0,by omega,rfl,by simpa [tq] using g1,g3,g2⟩ ?_;rintro⟨u,x,⟨⟩⟩ W' ⟨j,hj,hx,hb,N,O⟩ next' I
  simp only at hx hb N;subst hx;by_cases U:(j:Int)<(s.len:Int)
  ·rw[decide_eq_true U,cond_true];have hp:=List.getElem?_eq_getElem (show j<ps.length by omega);generalize ps[j]'(by omega)=p at hp;refine Nq (hs.fr O) hp λa hc Y=> ?_;simp only[sx,hc];have b2:=bnd (j+1);have e1:=Df hp;rw[e1,List.length_append] at b2;refine jd hb Y (by omega) λs' w' h1 h2 h3 _=> ?_;rw[Α];have z1:=O.size;refine I _ _ ⟨j+1,by omega,by simp,by rw[e1];exact h1,λb hb'=> ?_,O.new h2 λy hy hb'=>by have:=N y hb';omega⟩ (by simp only;omega);rcases h3 b hb' with g|g
   ·exact N b g
   ·omega
  ·rw[decide_eq_false U,cond_false];rw[take_of_length_le (by omega)] at hb;exact⟨hb,O,N⟩
theorem ZU {l:List UInt8} {n k:Nat} (hk:1<=k/\k<=4) (hn:n<256^k):jv l (n:Int) (k:Int)=l++jD k n:=by
 have:iK (n:Int) (k:Int):=⟨⟨by omega,by omega⟩,by omega,by
  rw[Int.toNat_natCast];have:((256^k:Nat):Int)=(256:Int)^k:=by simp
  omega⟩
 unfold jv;rw[if_pos this];rfl
theorem MF {q:vF} (h:q.fine):Ql .i64 (Ql .i64 1610612736 (FU .i64 q.tr 20)) q.fl=(q.first:Int)/\q.first<4294967296:=by
 obtain⟨⟨f1,f2,f3⟩,f4,f5⟩:=h;have g1:=Dw f1;obtain⟨a,ha⟩:∃a:Nat,q.tr=(a:Int):=⟨q.tr.toNat,by omega⟩;obtain⟨b,hb⟩:∃b:Nat,q.fl=(b:Int):=⟨q.fl.toNat,by omega⟩;have u:q.first=1610612736+a * 1048576+b:=by unfold vF.first;rw[ha,hb];simp
 rw[u,ha,hb];refine⟨?_,by omega⟩;rw[show (20:Int)=((20:Nat):Int) from rfl,abv (by omega) (by omega),show (1610612736:Int)=((1610612736:Nat):Int) from rfl,OW (by omega) (by omega)];have e1:1610612736|||a * 2^20=1610612736+a * 2^20:=by
  rw[show (1610612736:Nat)=6 * 2^28 from rfl];exact Ll (by omega)
 rw[e1,OW (by omega) (by omega)];have e2:(1610612736+a * 2^20)|||b=1610612736+a * 2^20+b:=by
  rw[show (1610612736:Nat)+a * 2^20=(1536+a) * 2^20 by omega];exact Ll (by omega)
 rw[e2]
theorem abC {n:Int} (h:iK n 1):IntKind.u8.wrap n=((UInt8.ofNat n.toNat).toNat:Int):=by
 have:=Dw h;rw[IntKind.wrap_u8];simp;omega
theorem Vs {w:θ} {q:vF} {t0 t1 t2 t3 p0 p1 p2 p3 p4 p5 p6 p7 p8 p9 p10 p11 p12 p13 p14 p15 O R U Y Z aa ac af ag ah ai aj ak am an ao:Int} {s:fU} (h:JV w q t0 t1 t2 t3 [p0,p1,p2,p3,p4,p5,p6,p7,p8,p9,p10,p11,p12,p13,p14,p15] [O,R,U,Y,Z,aa,ac,af,ag,ah,ai,aj,ak,am,an,ao] s) (hl:q.data.length<=2^40):
  EF t0 t1 t2 t3 p0 p1 p2 p3 p4 p5 p6 p7 p8 p9 p10 p11 p12 p13 p14 p15 O R U Y Z aa ac af ag ah ai aj ak am an ao s w λr e w'=>e=q.check/\(e=0->iq w' r q.bytes/\Yz w r)/\Ext w w':=by
 obtain⟨⟨rfl,rfl,rfl,rfl⟩,J,N,u⟩:=h;apply ZI;refine gq λa w1 r1 e1 z1 f1=> ?_;simp only[sx,r1.cell];refine cmS1 (Oa q u.1 w1) ?_;rintro _ w2 ⟨rfl,f2⟩;by_cases hc:q.check=0
 ·rw[hc];obtain⟨hf,hdl⟩:=Gt hc;obtain⟨o1,o2⟩:=MF hf;obtain⟨⟨g1,g2,g3⟩,_⟩:=id hf;have hlen:=u.1;simp only[show ((0:Int) !=0)=false from rfl,cond_false,d_,f_,gJ,(r1.ext f2).cell,o1];refine⟨by omega,?_⟩;refine cmS2 (uO iq.nil (by simp) _ 4) ?_;rintro t3 w3 ⟨b3,f3,n3⟩;rw[show (4:Int)=((4:Nat):Int) from rfl,ZU (by omega) (by omega),nil_append] at b3;simp only[d_,f_,gQ,((r1.ext f2).ext f3).cell];refine cmS2 (uO (iq.iD b3) (by rw[iG];omega) _ 2) ?_;rintro t4 w4 ⟨b4,f4,n4⟩;rw[hlen,show (2:Int)=((2:Nat):Int) from rfl,ZU (by omega) (by omega)] at b4;have x4:=(f2.trans f3).trans f4;simp only[d_,f_,gJ,(r1.ext x4).cell];refine gq λc w5 r5 e5 z5 f5=> ?_;have r5':Row w5 c (bytesV [UInt8.ofNat q.nx.toNat,UInt8.ofNat q.hp.toNat]):=by
   rw[abC g2,abC g3] at r5;exact r5
  have hx5:iq w5 ⟨some ⟨c,0,none⟩,2,2⟩ [UInt8.ofNat q.nx.toNat,UInt8.ofNat q.hp.toNat]:= .iD (iq.row (l:=[UInt8.ofNat q.nx.toNat,UInt8.ofNat q.hp.toNat]) r5');refine jd (b4.ext f5) hx5 (by simp[iG]) λt6 w6 b6 f6 n6 _=> ?_;have z4:=x4.size;have z3:=(f2.trans f3).size;have z5':=f5.size;have x6:Ext w1 w6:=(x4.trans f5).new f6 λy hy hb=>by have:=n4 y hb;omega
  have x6d:=x6.trans (Ext.drew w6);have r6:=r1.ext x6d;refine LH (LH ?_);simp only[d_,f_,gQ,r6.cell];refine gq λg w7 r7 e7 z7 f7=> ?_;have x7:=x6d.trans f7;have av:bytesV q.src=[.int .u8 p0,.int .u8 p1,.int .u8 p2,.int .u8 p3,.int .u8 p4,.int .u8 p5,.int .u8 p6,.int .u8 p7,.int .u8 p8,.int .u8 p9,.int .u8 p10,.int .u8 p11,.int .u8 p12,.int .u8 p13,.int .u8 p14,.int .u8 p15]:=by rw[Vt,<- J];rfl
  have aq:bytesV q.dst=[.int .u8 O,.int .u8 R,.int .u8 U,.int .u8 Y,.int .u8 Z,.int .u8 aa,.int .u8 ac,.int .u8 af,.int .u8 ag,.int .u8 ah,.int .u8 ai,.int .u8 aj,.int .u8 ak,.int .u8 am,.int .u8 an,.int .u8 ao]:=by rw[Vt,<- N];rfl
  have ls:q.src.length=16:=by have:=congrArg List.length J;simp[bi] at this;exact this.symm
  have ld:q.dst.length=16:=by have:=congrArg List.length N;simp[bi] at this;exact this.symm
  have au:=r1.ext x7;have hs7:iq w7 ⟨some ⟨a,4,none⟩,16,16⟩ q.src:=aaV (o:=4) au (A:=[Β q.tr,Β q.fl,Β q.nx,Β q.hp]) (C:=[.int .u8 O,.int .u8 R,.int .u8 U,.int .u8 Y,.int .u8 Z,.int .u8 aa,.int .u8 ac,.int .u8 af,.int .u8 ag,.int .u8 ah,.int .u8 ai,.int .u8 aj,.int .u8 ak,.int .u8 am,.int .u8 an,.int .u8 ao]++[Δ s]) (by rw[av];rfl) rfl ls.symm;have hd7:iq w7 ⟨some ⟨a,20,none⟩,16,16⟩ q.dst:=aaV (o:=20) au (A:=[Β q.tr,Β q.fl,Β q.nx,Β q.hp]++[.int .u8 p0,.int .u8 p1,.int .u8 p2,.int .u8 p3,.int .u8 p4,.int .u8 p5,.int .u8 p6,.int .u8 p7,.int .u8 p8,.int .u8 p9,.int .u8 p10,.int .u8 p11,.int .u8 p12,.int .u8 p13,.int .u8 p14,.int .u8 p15]) (C:=[Δ s]) (by rw[aq];rfl) (by simp) ld.symm;have hb7:iq w7 t6 q.head:=by
   have:=iq.iD ((b6.ext (Ext.drew w6)).ext f7);exact this
  have ar:iq w7 s q.data:=u.ext (f1.trans x7);have I:Parts w7 ⟨some ⟨g,0,none⟩,4,4⟩ [(t6,q.head),(⟨some ⟨a,4,none⟩,16,16⟩,q.src),(⟨some ⟨a,20,none⟩,16,16⟩,q.dst),(s,q.data)]:=by
   refine⟨rfl,λi p hp=> ?_⟩;refine⟨g,0,rfl,?_⟩;rw[Nat.zero_add,r7.cell]
   match i,hp with
   |0,hp=>cases hp;exact⟨rfl,hb7⟩
   |1,hp=>cases hp;exact⟨rfl,hs7⟩
   |2,hp=>cases hp;exact⟨rfl,hd7⟩
   |3,hp=>cases hp;exact⟨rfl,ar⟩
   |n+4,hp=>simp at hp
  refine cmS2 (Oc I (by simp) λp hp=> ?_) ?_
  ·have hh:=Dy q;simp only[mem_cons,not_mem_nil,or_false] at hp;rcases hp with rfl|rfl|rfl|rfl<;>simp only<;>omega
  ·rintro r8 w8 ⟨b8,f8,n8⟩;have zx7:=x7.size;have zf1:=f1.size;refine⟨by trivial,λ_=> ?_,f1.trans (x7.trans f8)⟩;have e8:tq [(t6,q.head),(⟨some ⟨a,4,none⟩,16,16⟩,q.src),(⟨some ⟨a,20,none⟩,16,16⟩,q.dst),(s,q.data)]=q.bytes:=by
    unfold tq vF.bytes;simp
   rw[e8] at b8;exact⟨iq.iD b8,Qn b8 λy hy=>by have:=n8 y hy;omega⟩
 ·have hc':(q.check !=0)=true:=by simpa using hc
  rw[hc',cond_true];exact⟨rfl,λh0=>absurd h0 hc,f1.trans f2⟩
theorem aaU {w:θ} {s:fU} {l:List UInt8} (h:iq w s l) {n:Nat} (hn:n<=l.length):mF w s.a (n * 1) (bytesV (l.take n)):=by
 cases ha:s.a with
 |none=>
  have:=h.empty ha;subst this;simp only[List.length_nil] at hn;obtain rfl:n=0:=by omega
  rfl
 |some a=>
  have hc:=h.2.1;rw[ha] at hc;refine⟨by rw[iU,List.length_take];omega,λj hj=> ?_⟩;rw[iU,List.length_take] at hj;rw[hc.2 j (by rw[iU];omega)];unfold bytesV;rw[List.getElem?_map,List.getElem?_map,List.getElem?_take,if_pos (by omega)]
theorem aiy (l:List UInt8) (n:Nat):(l.take (min l.length (40+n))).drop 40=(l.drop 40).take n:=by
 rw[drop_take];by_cases h:40+n<=l.length
 ·rw[Nat.min_eq_right h];congr 1;omega
 ·rw[Nat.min_eq_left (by omega),take_of_length_le (by rw[length_drop];omega),take_of_length_le (by rw[length_drop];omega)]
theorem ae_ {w:θ} {s:fU} {l:List UInt8} (hs:iq w s l) (hl:l.length<=2^40) (b:Bool):
  N9 s b w λt0 t1 t2 t3 r0 r1 r2 r3 r4 r5 r6 r7 r8 r9 I O aa ac af ag ah ai aj ak am an ao aq ar au av aw ax ay az aA s' e w'=>e=sZ l b/\(e=0->JV w' (KD l) t0 t1 t2 t3 [r0,r1,r2,r3,r4,r5,r6,r7,r8,r9,I,O,aa,ac,af,ag] [ah,ai,aj,ak,am,an,ao,aq,ar,au,av,aw,ax,ay,az,aA] s'/\Yz w s')/\Ext w w':=by
 apply aaC;have hlen:=hs.1;refine gq λa w1 r1 e1 z1 f1=> ?_;by_cases R:(s.len:Int)<40
 ·have er:sZ l b=3:=by unfold sZ;rw[if_pos (by omega)]
  rw[decide_eq_true R,cond_true];refine gY r1 rfl rfl λw5 r5 f5 _=> ?_;simp only[sx,r5.cell];exact⟨er.symm,λh0=>by omega,f1.new (f5 (·=a) rfl) λy hy e=>by omega⟩
 rw[decide_eq_false R,cond_false];have N:¬l.length<40:=by omega
 refine cmS9 (GK (hs.ext f1) (by omega) 0 4) ?_;rintro n0 e0 w2 ⟨hw,hg0⟩;subst hw;have hn0:=Xf (at_:=0) (k:=4) (by omega) (by omega) hg0;refine cmS9 (GK (hs.ext f1) (by omega) 4 2) ?_;rintro n4 e4 w3 ⟨hw,hg4⟩;subst hw;have hn4:=Xf (at_:=4) (k:=2) (by omega) (by omega) hg4;subst hn0 hn4;have l0:num l 0 4<2^32:=ahV (by omega);have l4:num l 4 2<65536:=EH l 4;refine⟨by omega,?_⟩;rw[show (28:Int)=((28:Nat):Int) from rfl,xM (by omega)];by_cases hv:num l 0 4 / 268435456=6
 ·have:((((num l 0 4 / 2^28:Nat)):Int) !=6)=false:=by rw[bne_eq_false_iff_eq];omega
  rw[this,cond_false];intro J;have jt:sZ l b=3->J true:=by
   intro er;simp only[J,cond_true];refine gY r1 rfl rfl λw5 r5 f5 _=> ?_;simp only[sx,r5.cell];exact⟨er.symm,λh0=>by omega,f1.new (f5 (·=a) rfl) λy hy e=>by omega⟩
  have jf:sZ l b=0->J false:=by
   intro er;simp only[J,cond_false];refine⟨by omega,?_⟩;have hs1:=(hs.ext f1).ext (Ext.drew w3);refine byte_at hs1 (i:=6) (by omega) λa6 c6 k6=> ?_;simp only[sx,c6];refine byte_at hs1 (i:=7) (by omega) λa7 c7 k7=> ?_;simp only[f_,gJ,c7];refine gq λd w4 r4 e4 z4 f4=> ?_;refine⟨mJ c7 f4,mJ c6 f4,?_⟩;refine gY r4 rfl rfl λw5 r5 f5 z5=> ?_;have f5d:=f5 (·=d) rfl;have zd:w3.drew.heap.size=w3.heap.size:=rfl;have z1':=f1.size;have x5:Ext w3 w5:=((Ext.drew w3).trans f4).new f5d λy hy e=>by omega
   have x5d:=x5.trans (Ext.drew w5);have hs5:=(hs.ext f1).ext x5d;have r5d:=r5.drew;simp only[sx];refine LH ?_;refine kN hs5 (by omega) (by omega) (by omega) λs6 hs6 _=> ?_;rw[Int.toNat_natCast,hlen,take_of_length_le (Nat.le_refl _)] at hs6;have hs6:iq w5.drew s6 (l.drop 8):=hs6;have ls6:=hs6.1;rw[length_drop] at ls6;have U:((l.drop 8).take 16).length=16:=by rw[List.length_take,length_drop];omega
   obtain⟨xa0,xa1,xa2,xa3,xa4,xa5,xa6,xa7,xa8,xa9,xa10,xa11,xa12,xa13,xa14,xa15,hb1,hv1⟩:=aiG U;refine uq (m:=16) (vs:=bytesV ((l.drop 8).take 16)) (by show min (_:Nat) _=_;omega) (aaU hs6 (by rw[length_drop];omega)) r5d (by rw[iU,U];simp) (D9 _) λw6 r6 f6=> ?_;rw[hv1] at r6;have r6:Row w6 d [Β (kF .i64 (jH .i64 (num l 0 4:Int) 20) 255),Β (kF .i64 (num l 0 4:Int) 1048575),Β (ο.wrap (l[6].toNat:Int)),Β (ο.wrap (l[7].toNat:Int)),.int .u8 xa0,.int .u8 xa1,.int .u8 xa2,.int .u8 xa3,.int .u8 xa4,.int .u8 xa5,.int .u8 xa6,.int .u8 xa7,.int .u8 xa8,.int .u8 xa9,.int .u8 xa10,.int .u8 xa11,.int .u8 xa12,.int .u8 xa13,.int .u8 xa14,.int .u8 xa15,.int .u8 0,.int .u8 0,.int .u8 0,.int .u8 0,.int .u8 0,.int .u8 0,.int .u8 0,.int .u8 0,.int .u8 0,.int .u8 0,.int .u8 0,.int .u8 0,.int .u8 0,.int .u8 0,.int .u8 0,.int .u8 0,.slice none 0 0]:=r6;have x6:Ext w3 w6.drew:=(x5d.new f6 λy hy e=>by omega).trans (Ext.drew w6);have zd6:w6.drew.heap.size=w6.heap.size:=rfl;refine LH ?_;refine kN ((hs.ext f1).ext x6) (by omega) (by omega) (by omega) λs7 hs7 _=> ?_;rw[Int.toNat_natCast,hlen,take_of_length_le (Nat.le_refl _)] at hs7;have hs7:iq w6.drew s7 (l.drop 24):=hs7;have ls7:=hs7.1;rw[length_drop] at ls7;have Y:((l.drop 24).take 16).length=16:=by rw[List.length_take,length_drop];omega
   obtain⟨ya0,ya1,ya2,ya3,ya4,ya5,ya6,ya7,ya8,ya9,ya10,ya11,ya12,ya13,ya14,ya15,hb2,hv2⟩:=aiG Y;refine uq (m:=16) (vs:=bytesV ((l.drop 24).take 16)) (by show min (_:Nat) _=_;omega) (aaU hs7 (by rw[length_drop];omega)) r6.drew (by rw[iU,Y];simp) (D9 _) λw7 r7 f7=> ?_;rw[hv2] at r7;have r7:Row w7 d [Β (kF .i64 (jH .i64 (num l 0 4:Int) 20) 255),Β (kF .i64 (num l 0 4:Int) 1048575),Β (ο.wrap (l[6].toNat:Int)),Β (ο.wrap (l[7].toNat:Int)),.int .u8 xa0,.int .u8 xa1,.int .u8 xa2,.int .u8 xa3,.int .u8 xa4,.int .u8 xa5,.int .u8 xa6,.int .u8 xa7,.int .u8 xa8,.int .u8 xa9,.int .u8 xa10,.int .u8 xa11,.int .u8 xa12,.int .u8 xa13,.int .u8 xa14,.int .u8 xa15,.int .u8 ya0,.int .u8 ya1,.int .u8 ya2,.int .u8 ya3,.int .u8 ya4,.int .u8 ya5,.int .u8 ya6,.int .u8 ya7,.int .u8 ya8,.int .u8 ya9,.int .u8 ya10,.int .u8 ya11,.int .u8 ya12,.int .u8 ya13,.int .u8 ya14,.int .u8 ya15,.slice none 0 0]:=r7;have x7:Ext w3 w7:=x6.new f7 λy hy e=>by omega
   have ehi:(if (s.len:Int)<ο.wrap (40+(num l 4 2:Int)) then (s.len:Int) else ο.wrap (40+(num l 4 2:Int)))=((min l.length (40+num l 4 2):Nat):Int):=by
    rw[Α];split<;>omega
   rw[ehi];refine kN ((hs.ext f1).ext x7) (by omega) (by omega) (by omega) λs8 hs8 _=> ?_;rw[Int.toNat_natCast,show Int.toNat 40=40 from rfl,aiy] at hs8;refine cmS2 (kC hs8 (by rw[List.length_take,length_drop];omega)) ?_;rintro r9 w9 ⟨b9,_,f9,n9⟩;have r9r:=r7.ext f9;refine g_ r9r rfl (by simp) λaB I f10 z10=> ?_;simp only[List.set_cons_zero,List.set_cons_succ] at I;have f10d:=f10 (·=d) rfl;have z7:=x7.size;have zf6:=f6.size;have zf7:=f7.size;have hz5:w5.drew.heap.size=w5.heap.size:=rfl;have aC:=b9.fr f10d λc hc e=>by have:=n9 c hc;omega
   have Z:Ext w3 aB:=(x7.trans f9).new f10d λy hy e=>by omega
   simp only[d_,f_,gQ,gJ,I.cell];refine gY (r1.ext Z) rfl rfl λw11 O f11 z11=> ?_;have f11a:=f11 (·=a) rfl;simp only[d_,f_,gQ,gJ,O.cell];have zf9:=f9.size;refine⟨er.symm,λ_=>⟨⟨⟨?_,?_,?_,?_⟩,hb1.symm,hb2.symm,?_⟩,Qn b9 λc hc=>by have:=n9 c hc;omega⟩,(f1.trans Z).new f11a λy hy e=>by omega⟩
   ·rw[show (20:Int)=((20:Nat):Int) from rfl,xM (by omega),show (255:Int)=((2^8 - 1:Nat):Int) from rfl,D7 (by omega) (by decide),AZ];rfl
   ·rw[show (1048575:Int)=((2^20 - 1:Nat):Int) from rfl,D7 (by omega) (by decide),AZ];rfl
   ·have:=l[6].toNat_lt;rw[Α];show _=((num l 6 1:Nat):Int);rw[abm (by omega)]
   ·have:=l[7].toNat_lt;rw[Α];show _=((num l 7 1:Nat):Int);rw[abm (by omega)]
   ·exact iq.iD (aC.fr f11a λc hc e=>by have:=n9 c hc;omega)
  clear_value J;rw[Α];by_cases u:((num l 4 2:Nat):Int)>(s.len:Int) - 40
  ·rw[decide_eq_true u,cond_true]
   cases b with
   |true=>exact jf (by unfold sZ;rw[if_neg N,if_neg (by omega),if_neg (by simp)])
   |false=>exact jt (by unfold sZ;rw[if_neg N,if_neg (by omega),if_pos ⟨rfl,by omega⟩])
  ·rw[decide_eq_false u,cond_false];exact jf (by unfold sZ;rw[if_neg N,if_neg (by omega),if_neg (by omega)])
 ·have er:sZ l b=4:=by unfold sZ;rw[if_neg N,if_pos hv]
  have:((((num l 0 4 / 2^28:Nat)):Int) !=6)=true:=by
   rw[bne_iff_ne];omega
  rw[this,cond_true];refine gY r1 rfl rfl λw5 r5 f5 _=> ?_;simp only[sx,r5.cell];exact⟨er.symm,λh0=>by omega,f1.new (f5 (·=a) rfl) λy hy e=>by omega⟩
theorem afh {w:θ} (t0 t1 t2 t3 v0 v1 v2 v3 v4 v5 v6 v7 v8 v9 u I J N O R U Y Z aa ac af ag ah ai aj ak am an ao aq ar:Int) {s:fU} (hs:s.len<=2^46):N8 t0 t1 t2 t3 v0 v1 v2 v3 v4 v5 v6 v7 v8 v9 u I J N O R U Y Z aa ac af ag ah ai aj ak am an ao aq ar s w λr w'=>r=40+(s.len:Int)/\Ext w w':=by
 apply aaB;refine gq λa w1 r1 e1 z1 f1=> ?_;simp only[sx,r1.cell];exact⟨by rw[Α],f1⟩
theorem acN {w:θ} {s:fU} {l:List UInt8} (hs:iq w s l) (hl:l.length<=2^40):
  Kz s w λt0 t1 t2 t3 r0 r1 r2 r3 r4 r5 r6 r7 r8 r9 u I J N O R U Y Z aa ac af ag ah ai aj ak am an ao aq ar s' e w'=>e=sZ l false/\(e=0->JV w' (KD l) t0 t1 t2 t3 [r0,r1,r2,r3,r4,r5,r6,r7,r8,r9,u,I,J,N,O,R] [U,Y,Z,aa,ac,af,ag,ah,ai,aj,ak,am,an,ao,aq,ar] s'/\Yz w s')/\Ext w w':=by
 apply ZK;refine gq λa w1 r1 e1 z1 f1=> ?_;refine cmS8 (ae_ (hs.ext f1) hl false) ?_;rintro u0 u1 u2 u3 v0 v1 v2 v3 v4 v5 v6 v7 v8 v9 v10 v11 v12 v13 v14 v15 v16 v17 v18 v19 v20 v21 v22 v23 v24 v25 v26 v27 v28 v29 v30 v31 s' e w2 ⟨he,hp,f2⟩;refine gY (r1.ext f2) rfl rfl λw3 r3 f3 _=> ?_;have f3a:=f3 (·=a) rfl;have z1':=f1.size;have z2:=f2.size;simp only[sx,r3.cell];refine⟨he,λh0=> ?_,(f1.trans f2).new f3a λy hy e=>by omega⟩;obtain⟨h,hn⟩:=hp h0;exact⟨⟨h.n,h.src,h.dst,h.data.fr f3a λx hx _ e=>by have:=hn x hx;omega⟩,λx hx=>by have:=hn x hx;omega⟩
theorem ahG {w:θ} (p:jG) {o d:fU} (ho:iq w o p.opts) (hd:iq w d p.data) (h1:p.opts.length<=2^40) (h2:p.data.length<=2^40) (ht:0<=p.ttl/\p.ttl<=255):
  KA p.tos p.id p.off p.ttl p.proto p.src p.dst p.df p.mf o d w λt i o' l' p' s d' df mf op da ok w'=>ok=decide (1<p.ttl)/\(1<p.ttl->adw w' {p with ttl:=p.ttl - 1} t i o' l' p' s d' df mf op da/\∀x,da.a=some x->w.heap.size<=x.block)/\Ext w w':=by
 apply ZL;refine gq λa w1 r1 e1 z1 f1=>gq λb w2 r2 e2 z2 f2=> ?_;have r1':=r1.ext f2;have s1:=f1.size;have s2:=f2.size;have x2:=f1.trans f2;simp only[sx,r1'.cell];by_cases hb:p.ttl<=1
 ·rw[decide_eq_true hb,cond_true];refine gY r2 rfl rfl λw3 r3 f3 z3=> ?_;simp only[d_,f_,gQ,gJ,iY,r3.cell];exact⟨by rw[decide_eq_false (by omega)],λh=>by omega,x2.new (f3 (·=b) rfl) λy hy e=>by omega⟩
 rw[decide_eq_false hb,cond_false];refine g_ r1' rfl (by simp) λw3 r3 f3 z3=> ?_;simp only[List.set_cons_zero,List.set_cons_succ] at r3;have f3a:=f3 (·=a) rfl;have x3:Ext w w3:=x2.new f3a λy hy e=>by omega
 have x3d:=x3.trans (Ext.drew w3);have r3d:=r3.drew;have zd:w3.drew.heap.size=w3.heap.size:=rfl;simp only[d_,f_,gQ,r3d.cell];refine cmS2 (kC (ho.ext x3d) (by omega)) ?_;rintro so w4 ⟨b4,_,f4,n4⟩;have s4:=f4.size;have r4:=r3d.ext f4;simp only[true_and,d_,r4.cell];refine cmS2 (kC ((hd.ext x3d).ext f4) (by omega)) ?_;rintro sd w5 ⟨b5,_,f5,n5⟩;have s5:=f5.size;refine g_ (r4.ext f5) rfl (by simp) λw6 r6 f6 z6=> ?_;simp only[List.set_cons_zero,List.set_cons_succ] at r6;have f6a:=f6 (·=a) rfl;refine g_ r6 rfl (by simp) λw7 r7 f7 z7=> ?_;simp only[List.set_cons_zero,List.set_cons_succ] at r7;have f7a:=f7 (·=a) rfl;simp only[d_,f_,gQ,gJ,iY,r7.cell];have r2b:=(((((r2.fr f3a (by omega)).drew.ext f4).ext f5).fr f6a (by omega)).fr f7a (by omega));refine gY r2b rfl rfl λw8 r8 f8 z8=> ?_;have f8b:=f8 (·=b) rfl;simp only[d_,f_,gQ,gJ,iY,r8.cell];refine⟨by rw[decide_eq_true (by omega)],λ_=>⟨⟨rfl,rfl,rfl,by rw[Α],rfl,rfl,rfl,rfl,rfl,?_,?_⟩,λx hx=>by have:=Qn b5 (k:=w4.heap.size) (λy hy=>n5 y hy) x hx;omega⟩,?_⟩
 ·exact iq.iD ((((b4.ext f5).fr f6a λc hc e=>by have:=n4 c hc;omega).fr f7a λc hc e=>by have:=n4 c hc;omega).fr f8b λc hc e=>by have:=n4 c hc;omega)
 ·exact iq.iD (((b5.fr f6a λc hc e=>by have:=n5 c hc;omega).fr f7a λc hc e=>by have:=n5 c hc;omega).fr f8b λc hc e=>by have:=n5 c hc;omega)
 ·exact(((((x3d.trans f4).trans f5).new f6a λy hy e=>by omega).new f7a λy hy e=>by omega).new f8b λy hy e=>by omega)
end Go.Proofs.VN
end
section
namespace Gp.V4
theorem Z5 {p:vF} (h:p.check=0) (ho:p.ok):sZ p.bytes false=0/\KD p.bytes=p:=by
 obtain⟨h1,h2⟩:=acU h ho;refine⟨?_,h2⟩;have hl:=JY ho;have hn:num p.bytes 4 2=p.data.length\/num p.bytes 4 2<=p.bytes.length - 40:=by
  have:=congrArg (λq:vF=>q.data.length) h2;simp only[KD,List.length_take,length_drop] at this;by_cases hc:num p.bytes 4 2<=p.bytes.length - 40
  ·exact .inr hc
  ·left;obtain⟨_,_,hN⟩:True/\True/\num p.bytes 4 2=p.data.length:=by
    refine⟨trivial,trivial,?_⟩;have hh:=Dy p;rw[vF.bytes,BD (by omega),vF.head,BD (by simp[iG])];unfold num;rw[drop_append_of_le_length (by rw[iG];omega),drop_of_length_le (by rw[iG];omega),nil_append,take_of_length_le (by rw[iG];omega),DF];exact Nat.mod_eq_of_lt (by have:=(Gt h).2;omega)
   exact hN
 unfold sZ at h1 ⊢;split at h1
 ·omega
 rename_i c1;split at h1
 ·omega
 rename_i c2;rw[if_neg c1,if_neg c2,if_neg (by omega)]
end Gp.V4
end
section
namespace Go.Proofs.AN
open Gp Gp.V4 Go.Proofs Go.Proofs.VN
variable {w w':θ}
theorem aaL {s:fU} {l:List UInt8} (h:iq w s l) {ad:Addr} (ha:s.a=some ad) (h0:0<l.length):ad.block<w.heap.size:=by
 obtain⟨a,h1,h2⟩:=h.at_ (List.getElem?_eq_getElem h0);rw[ha] at h1
 cases h1
 exact cell_lt h2
theorem ajh {w:θ} {ad:Addr} {x0 x1 x2 x3 d4 d5 d6 d7 d8 d9 d10 d11 d12 d13 d14 d15 d16 d17 d18 d19 d20 d21 d22 d23 d24 d25 d26 d27 d28 d29 d30 d31 d32 d33 d34 d35:Int} {s:fU} {K:Int->Int->Int->Int->Int->Int->Int->Int->Int->Int->Int->Int->Int->Int->Int->Int->Int->Int->Int->Int->Int->Int->Int->Int->Int->Int->Int->Int->Int->Int->Int->Int->Int->Int->Int->Int->fU->Prop}
  (hc:∀j,j<37->w.cell? (ad.add j)=(jc x0 x1 x2 x3 d4 d5 d6 d7 d8 d9 d10 d11 d12 d13 d14 d15 d16 d17 d18 d19 d20 d21 d22 d23 d24 d25 d26 d27 d28 d29 d30 d31 d32 d33 d34 d35 s)[j]?) (hK:K x0 x1 x2 x3 d4 d5 d6 d7 d8 d9 d10 d11 d12 d13 d14 d15 d16 d17 d18 d19 d20 d21 d22 d23 d24 d25 d26 d27 d28 d29 d30 d31 d32 d33 d34 d35 s):n_ w ad K:=by
 unfold n_;refine⟨x0,hc 0 (by omega),?_⟩;refine⟨x1,hc 1 (by omega),?_⟩;refine⟨x2,hc 2 (by omega),?_⟩;refine⟨x3,hc 3 (by omega),?_⟩;refine⟨d4,hc 4 (by omega),?_⟩;refine⟨d5,hc 5 (by omega),?_⟩;refine⟨d6,hc 6 (by omega),?_⟩;refine⟨d7,hc 7 (by omega),?_⟩;refine⟨d8,hc 8 (by omega),?_⟩;refine⟨d9,hc 9 (by omega),?_⟩;refine⟨d10,hc 10 (by omega),?_⟩;refine⟨d11,hc 11 (by omega),?_⟩;refine⟨d12,hc 12 (by omega),?_⟩;refine⟨d13,hc 13 (by omega),?_⟩;refine⟨d14,hc 14 (by omega),?_⟩;refine⟨d15,hc 15 (by omega),?_⟩;refine⟨d16,hc 16 (by omega),?_⟩;refine⟨d17,hc 17 (by omega),?_⟩;refine⟨d18,hc 18 (by omega),?_⟩;refine⟨d19,hc 19 (by omega),?_⟩;refine⟨d20,hc 20 (by omega),?_⟩;refine⟨d21,hc 21 (by omega),?_⟩;refine⟨d22,hc 22 (by omega),?_⟩;refine⟨d23,hc 23 (by omega),?_⟩;refine⟨d24,hc 24 (by omega),?_⟩;refine⟨d25,hc 25 (by omega),?_⟩;refine⟨d26,hc 26 (by omega),?_⟩;refine⟨d27,hc 27 (by omega),?_⟩;refine⟨d28,hc 28 (by omega),?_⟩;refine⟨d29,hc 29 (by omega),?_⟩;refine⟨d30,hc 30 (by omega),?_⟩;refine⟨d31,hc 31 (by omega),?_⟩;refine⟨d32,hc 32 (by omega),?_⟩;refine⟨d33,hc 33 (by omega),?_⟩;refine⟨d34,hc 34 (by omega),?_⟩;refine⟨d35,hc 35 (by omega),?_⟩;refine⟨s,hc 36 (by omega),?_⟩;exact hK
theorem Z4 {a:Nat} {x0 x1 x2 x3 d4 d5 d6 d7 d8 d9 d10 d11 d12 d13 d14 d15 d16 d17 d18 d19 d20 d21 d22 d23 d24 d25 d26 d27 d28 d29 d30 d31 d32 d33 d34 d35:Int} {s:fU} {K:Int->Int->Int->Int->Int->Int->Int->Int->Int->Int->Int->Int->Int->Int->Int->Int->Int->Int->Int->Int->Int->Int->Int->Int->Int->Int->Int->Int->Int->Int->Int->Int->Int->Int->Int->Int->fU->Prop}
  (hr:Row w a (jc x0 x1 x2 x3 d4 d5 d6 d7 d8 d9 d10 d11 d12 d13 d14 d15 d16 d17 d18 d19 d20 d21 d22 d23 d24 d25 d26 d27 d28 d29 d30 d31 d32 d33 d34 d35 s)) (hK:K x0 x1 x2 x3 d4 d5 d6 d7 d8 d9 d10 d11 d12 d13 d14 d15 d16 d17 d18 d19 d20 d21 d22 d23 d24 d25 d26 d27 d28 d29 d30 d31 d32 d33 d34 d35 s):n_ w ⟨a,0,none⟩ K:=
 ajh (λj _=>by rw[gy,Nat.zero_add,hr.cell]) hK
theorem afJ (p:jG) {o d:fU} (ho:iq w o p.opts) (hd:iq w d p.data) (hc:p.check=0) (h1:p.opts.length<=2^40) (h2:p.data.length<=2^40) {mtu:Int} (hm:68<=mtu/\mtu<=65535) (hs:(20+p.opts.length+p.data.length:Int)<=mtu)
  {K:fU->Int->b_} (hK:∀b o' d' w',Ext w w'->Row w' b (gu p.tos p.id p.off p.ttl p.proto p.src p.dst p.df p.mf o' d')->iq w' o' p.opts->iq w' d' p.data->K ⟨some ⟨b,0,none⟩,1,1⟩ 0 w'):
  J5 p.tos p.id p.off p.ttl p.proto p.src p.dst p.df p.mf o d mtu w K:=by
 apply Zm;refine gq λa w1 r1 e1 z1 f1=> ?_;intro J;rw[decide_eq_false (by omega),cond_false,decide_eq_false (show ¬mtu>65535 by omega)];simp -zeta only[J];rw[cond_false];have h1':=ho.1;have h2':=hd.1;refine jF r1 ?_;refine cmS1 (Ai p ho.1 hd.1 (by omega) (by omega)) ?_;rintro _ w2 ⟨rfl,f2⟩;rw[hc,show ((0:Int) !=0)=false from rfl,cond_false];refine jF (r1.ext f2) ?_;refine cmS1 (Yl _ _ _ _ _ _ _ _ _ _ _ (by omega) (by omega) w2) ?_;rintro _ w3 ⟨rfl,f3⟩;rw[decide_eq_true (by omega),cond_true];have g3:=(f1.trans f2).trans (f3.trans (Ext.drew w3));have r3:=r1.ext (f2.trans (f3.trans (Ext.drew w3)));refine Ld_s 9 o r3 (Ld_s 10 d r3 ?_);refine cmS2 (kC (ho.ext g3) (by omega)) ?_;rintro so w4 ⟨b4,_,f4,n4⟩;refine⟨by rw[gy,(r3.ext f4).cell];rfl,?_⟩;refine cmS2 (kC (hd.ext (g3.trans f4)) (by omega)) ?_;rintro sd w5 ⟨b5,_,f5,n5⟩;have z3:=g3.size;have z4:=f4.size;have z5:=f5.size;have lt:=r3.lt;refine g_ (i:=9) (r3.ext (f4.trans f5)) rfl (by simp) λw6 r6 f6' z6=> ?_;have f6:gW w5 w6 (·=a):=f6' _ rfl;refine g_ (i:=10) r6 rfl (by simp) λw7 r7 f7' z7=> ?_;have f7:gW w6 w7 (·=a):=f7' _ rfl;simp only[List.set_cons_zero,List.set_cons_succ] at r7;refine jF r7 ?_;refine gq λb w8 r8 e8 z8 f8=> ?_;have f67:gW w5 w7 (·=a):=f6.trans f7 λ_ _ h=>h;exact hK b so sd w8 (((g3.trans (f4.trans f5)).nw f67).trans f8) r8
  (((iq.iD (b4.ext f5)).fr f67 λad ha _ e=>by have:=n4 ad.block (QV b4 ha);omega).ext f8)
  (((iq.iD b5).fr f67 λad ha _ e=>by have:=n5 ad.block (QV b5 ha);omega).ext f8)
end Go.Proofs.AN
end
