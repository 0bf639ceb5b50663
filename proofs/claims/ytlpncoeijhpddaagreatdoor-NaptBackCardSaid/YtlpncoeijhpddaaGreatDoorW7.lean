import Derived.Test.YtlpncoeijhpddaaGreatDoorW6
import Derived.Test.YtlpncoeijhpddaaGreatDoorW3
import Derived.Test.YtlpncoeijhpddaaGreatDoorW2
set_option maxRecDepth 100000
section
namespace Go.Proofs.SN
open Gp Gp.Hash
open Gp.Ses (Ses Slots live GoodS freeN getS ids)
open Gp.Bind (In64)
section
variable {w w':θ} {A:Rn} {most:Nat} {S:Slots} {M:ByteArray->Option Int}
def wS (S:Slots) (M:ByteArray->Option Int) (b:Ses):Int×Int:=
 if (M (Bind.keyS b.k)).isSome then (0,9) else match freeN S with
  |none=>(0,7)
  |some i=>((i:Int),0)
theorem aiT (h:TA w A most S M) (id st un:Int):
  vk (some ⟨A.d,0,none⟩) id st un w λr w'=>r=(getS S id).isSome/\ig w w' (fp A)/\∃S',TA w' A most S' M/\S'=(match getS S id with|none=>S|some b=>S.set id.toNat (some {b with st:=st,un:=un})):=by
 apply JC;have hl:=h.len;refine cmS0 (Χ h id) ?_;rintro _ w1 ⟨rfl,hw⟩;subst hw
 cases hg:getS S id with
 |none=>
  simp only[alH,afk,abt];exact⟨by trivial,ig.refl _ _,S,h,rfl⟩
 |some b=>
  obtain⟨g0,g1⟩:=Gp.Ses.lX.1 hg;have gl:=(afg.1 g1).1;simp only[sx,akt,adt,h.hd.cell];refine⟨by omega,by omega,?_⟩;have I:=h.row;have e0:S.flatMap iV=(S.flatMap iV).take (id.toNat * 6)++iV (some b)++(S.flatMap iV).drop (id.toNat * 6+6):=by
   have J:S.set id.toNat (some b)=S:=by
    apply am5;intro j;rw[Gp.Ses.jl gl];split
    ·rename_i e;subst e;exact g1.symm
    ·rfl
   rw[P9 gl,J]
  have hl6:((S.flatMap iV).take (id.toNat * 6)).length=id.toNat * 6:=by rw[ajH,jh iV 6 lY];omega
  rw[e0] at I;refine iC I rfl (by simp[lY,hl6];omega) λw2 r2 f2 z2=> ?_;refine iC r2 rfl (by simp[lY,hl6];omega) λw3 r3 f3 z3=> ?_;have f23:ig w1 w3 (·=A.sl):=(f2 (·=A.sl) rfl).trans (f3 (·=A.sl) rfl) λ_ _ e=>e;refine⟨by trivial,f23.mono λx hx=> .inr (.inl hx),_,?_,rfl⟩;obtain⟨⟨n1,n2,n3,n4,n5,n6,n7,n8,n9⟩,no⟩:=h.ne;obtain⟨L,t,c⟩:=h.tb;have u:(live 0 (S.set id.toNat (some {b with st:=st,un:=un}))).length=(live 0 S).length:=by rw[Gp.Ses.UK _ 0 g1];simp
  refine⟨by rw[u];exact h.hd.fr f23 n1,?_,by rw[alP];exact hl,h.mx,⟨L,t.fr f23 (air n5) (air n6),by rw[u];exact c⟩,?_,h.good.put g1 rfl,h.ne⟩
  ·rw[<- P9 gl];have e3:∀(X Y:List Value),((X++iV (some b)++Y).set (X.length+1) (Β st)).set (X.length+2) (Β un)=X++iV (some {b with st:=st,un:=un})++Y:=by
    intro X Y;rw[aky,ami _ _ (by omega),ami _ _ (by omega),aky];congr 1;rw[Nat.add_sub_cancel_left,Nat.add_sub_cancel_left];rfl
   have:=e3 ((S.flatMap iV).take (id.toNat * 6)) ((S.flatMap iV).drop (id.toNat * 6+6));rw[hl6] at this;rw[<- this];exact r3
  ·have o:=h.own.fr f23 (λe=>n7 e.symm) λx hx e=>(no x hx).2.1 e;exact⟨o.mp,o.nd,λk s hk=>by rw[Gp.Ses.adr (b':={b with st:=st,un:=un}) g1 rfl];exact o.has k s hk,λk hk=>by rw[Gp.Ses.adr (b':={b with st:=st,un:=un}) g1 rfl];exact o.non k hk,o.ap,o.ne⟩
theorem aiO (h:TA w A most S M) (b:Ses) (hb:b.ok):
  uZ (some ⟨A.d,0,none⟩) b.bd b.st b.un b.ra b.rp w λn e w'=>(n,e)=wS S M b/\ig w w' (fp A)/\
   ∃A' S' M',TA w' A' most S' M'/\A'.d=A.d/\(∀x,fp A' x->fp A x\/w.heap.size<=x)/\S'=(if (wS S M b).2=0 then S.set (wS S M b).1.toNat (some b) else S):=by
 apply Jy;refine gU λp w1 r1 e1 z1 f1=> ?_;have h1:=h.ext f1;refine cmS0 (yO h1) ?_;rintro _ w2 ⟨rfl,hw⟩;subst hw;simp only[sx,Cs,Cw,adt,r1.cell];refine cmS3 (aa9 h1 _ _ _ hb) ?_;rintro n2 t2 w3 ⟨ht2,_,f3⟩;have ht2:t2=(M (Bind.keyS b.k)).isSome:=ht2;have x3:Ext w w3:=f1.trans f3;have h3:=h.ext x3;have r3:=r1.ext f3
 cases U:t2 with
 |true=>
  rw[U] at ht2;simp only[abt];have e:wS S M b=(0,9):=by unfold wS;rw[<- ht2];rfl
  rw[e];exact⟨rfl,x3 _,A,S,M,h3,rfl,λx hx=> .inl hx,by rw[acZ (by simp)]⟩
 |false=>
 rw[U] at ht2;simp only[aaf,afe,gJ,h_,h3.hd.cell];refine cmS1 (agx h3) ?_;rintro r5 w5 ⟨f5,(⟨J,rfl⟩|⟨i,J,rfl⟩)⟩
 ·simp only[show decide ((-1:Int)<0)=true from rfl,abt];have e:wS S M b=(0,7):=by unfold wS;rw[<- ht2,J];rfl
  rw[e];exact⟨rfl,(x3.trans f5) _,A,S,M,h3.ext f5,rfl,λx hx=> .inl hx,by rw[acZ (by simp)]⟩
 ·have e:wS S M b=((i:Int),0):=by unfold wS;rw[<- ht2,J];rfl
  rw[e];obtain⟨g1,g2,g3,g4,g5,g6,g7⟩:=Gp.Ses.jE 0 J;have hm:=h.mx;have hl:=h.len;have x5:Ext w w5.drew:=(x3.trans f5).trans (Ext.drew _);have h5:=h.ext x5;have r5:=(r3.ext f5).drew;have i0:¬((i:Int)<0):=by omega
  simp only[sx,i0,acR,h5.hd.cell,r5.cell,abu];refine⟨by omega,by omega,?_⟩;refine Oa h5.row g1 (some b) λw6 row6 f6 z6=> ?_;obtain⟨⟨n1,n2,n3,n4,n5,n6,n7,n8,n9⟩,no⟩:=h.ne;have hp:∀x,fp A x->x≠p:=λx hx=>by have:=h.lt hx;omega
  have hd6:=(h5.hd.fr f6 n1).drew;have r6:=(r5.fr f6 (hp _ (.inr (.inl rfl))).symm).drew;simp only[d_,gJ,gK,pR,hd6.cell,r6.cell];refine cmS9 (Μ _ _ _ hb _) ?_;rintro _ w7 ⟨rfl,f7⟩;have hd7:=hd6.ext f7;have r7:=r6.ext f7;simp only[afp,d_,hd7.cell];obtain⟨L,tb,cL⟩:=h5.tb;have f57:ig w5.drew w7 (·=A.sl):=(f6.ext (Ext.drew _)).ext f7;have tb7:=tb.fr f57 (air n5) (air n6);have hM:M (Bind.keyS b.k)=none:=by cases hx:M (Bind.keyS b.k) with
   |none=>rfl
   |some v=>rw[hx] at ht2;cases ht2
  refine cmS1 (Zd tb7 (Bind.keyS b.k) (i:Int) (rU _ (by simp[Ses.k]))) ?_;rintro e8 w8 (⟨rfl,hlt8,s8,L8,t8,c8,f8,hs8⟩|⟨_,_,N,_⟩);rotate_left
  ·exfalso;rw[cL] at N;omega
  have hd8:=(hd7.fr f8 (by rintro(h|h);exact n2 h;exact n3 h)).drew;have r8:Row w8.drew p _:=(r7.fr f8 (by rintro(h|h);exact hp _ (.inr (.inr (.inl rfl))) h.symm;exact hp _ (.inr (.inr (.inr (.inl rfl)))) h.symm)).drew;simp only[d_,gJ,gK,Dy,hd8.cell,r8.cell];have f58:ig w5.drew w8.drew (λx=>x=A.sl\/x=A.ti\/x=A.si):=((f57.mono λx hx=> .inl hx).trans f8 λx _ hx=>by
   rcases hx with hx|hx
   ·exact .inr (.inl hx)
   ·exact .inr (.inr hx)).ext (Ext.drew _)
  have own8:FD w8.drew A.m A.l S:=h5.own.fr f58 (by rintro(h|h|h);exact n7 h.symm;exact n8 h.symm;exact n9 h.symm) λx hx=>by
   have:=no x hx;rintro(h|h|h)
   ·exact this.2.1 h
   ·exact this.2.2.1 h
   ·exact this.2.2.2 h
  refine own8.get b.bd ?_;have O:=own8.buf b.bd;have hil:=Gp.Ses.SQ S b.bd;have srt:=Gp.Ses.qU S b.bd;refine cmS3 (ajA (O.sl jJ (by omega)) (by omega) srt (i:Int)) ?_;rintro _ _ w9 ⟨⟨q,rfl,hq,q1,q2⟩,hw⟩;subst hw;have own9:=own8.fr (Ext.drew _ λ_=>False) (by simp) (by simp);have hd9:=hd8.drew;have r9:=r8.drew;simp only[d_,gJ,gK,Dy,hd9.cell,r9.cell];refine gU λv Z aa e10 z10 f10=> ?_;have own10:=own9.fr (f10 λ_=>False) (by simp) (by simp);have hd10:=hd9.ext f10;have r10p:=r9.ext f10;simp only[afp,d_,hd10.cell,r10p.cell];have vlt:∀x,gG.at (lkS A.l b.bd) x->x≠v:=λx hx e=>by
   obtain⟨s,g1,_,g2⟩:=Qg hx;have:=own9.lt ⟨_,s,g1,g2⟩;omega
  have lold:∀x,gG.at (lkS A.l b.bd) x->ownB A.l x:=λx hx=>by
   obtain⟨s,g1,_,g2⟩:=Qg hx;exact⟨_,s,g1,g2⟩
  refine cmS2 (aev (own10.buf b.bd) (y:=(i:Int)) aa vlt hq (by omega)) ?_;rintro R w11 ⟨W,f11,n11⟩;have hd11:=hd10.fr f11 λhx=>(no _ (lold _ hx)).1 rfl;have ab:=r10p.fr f11 λhx=>hp _ (.inr (.inr (.inr (.inr (.inr (lold _ hx)))))) rfl;simp only[afp,d_,hd11.cell,ab.cell];rw[<- Gp.Ses.ah1 g2 (λj v hj hv=>q1 j v hj hv) (λj v hj hv=>q2 j v hj hv) hq] at W;refine own10.set (S':=S.set i (some b)) f11 (λhx=>own10.ne _ (lold _ hx) rfl) (λx _ hx=>hx) W n11 (λk hk=>Gp.Ses.WV g2 hk) λY own12 f12 z12=> ?_;have hd12:=hd11.fr f12 n4;simp only[d_,gJ,gK,hd12.cell];have hll:=Gp.Ses.jL S 0;rw[Α];refine iC hd12 rfl (by simp) λI hd13 f13 z13=> ?_;simp only[af5,ahm] at hd13;have f13d:=f13 (·=A.d) rfl;have u:(live 0 (S.set i (some b))).length=(live 0 S).length+1:=by
   rw[g7 b];simp only[ahP,ajg,ajH,al2];omega
  have f8x:ig w8 Y (λx=>x=A.m\/ownB A.l x):=((((Ext.drew w8).trans (Ext.drew _)).trans f10) _).trans ((f11.mono λx hx=> .inr (lold x hx)).trans f12 λx _ hx=> .inl hx) λ_ _ hx=>hx;have hs8':s8≠A.d/\s8≠A.sl/\s8≠A.m/\¬ownB A.l s8:=by
   rcases hs8 with h8|h8
   ·rw[h8];exact⟨air n3,air n6,n9,λho=>(no _ ho).2.2.2 rfl⟩
   ·have big:∀x,fp A x->s8≠x:=λx hx e=>by
     have l1:=h.lt hx;have l2:w.heap.size<=w7.heap.size:=akK x5.size f57.size;rw[e] at h8;exact am2 _ (alA l1 (akK l2 h8))
    exact⟨big _ (.inl rfl),big _ (.inr (.inl rfl)),big _ (.inr (.inr (.inr (.inr (.inl rfl))))),λho=>big _ (.inr (.inr (.inr (.inr (.inr ho))))) rfl⟩
  have tb13:TB I A.ti s8 L8 most (Go.Proofs.upd M (Bind.keyS b.k) (some (i:Int))):=(t8.fr f8x (by rintro(h|h);exact n8 h;exact(no _ h).2.2.1 rfl) (by rintro(h|h);exact hs8'.2.2.1 h;exact hs8'.2.2.2 h)).fr f13d (air n2) hs8'.1;have row13:Row I A.sl ((S.set i (some b)).flatMap iV):=(((((row6.ext (Ext.drew _)).ext f7).fr f8 (by rintro(h|h);exact n5 h;exact n6 h))).fr f8x (by rintro(h|h);exact n7 h;exact(no _ h).2.1 rfl)).fr f13d (air n1);have eu:∀M k v,Go.Proofs.upd M k v=Gp.Bind.upd M k v:=λ_ _ _=>rfl;rw[eu] at tb13;have f512:ig w Y (fp A):=((x5 (fp A)).trans (f58.mono (S':=fp A) λx hx=>by
    rcases hx with hx|hx|hx
    ·exact .inr (.inl hx)
    ·exact .inr (.inr (.inl hx))
    ·exact .inr (.inr (.inr (.inl hx)))) λ_ _ hx=>hx).trans (((((Ext.drew w8.drew).trans f10) _).trans ((f11.mono (S':=λx=>x=A.m\/ownB A.l x) λx hx=> .inr (lold x hx)).trans f12 λx _ hx=> .inl hx) λ_ _ hx=>hx)) λx _ hx=>by
    rcases hx with hx|hx
    ·exact .inr (.inr (.inr (.inr (.inl hx))))
    ·exact .inr (.inr (.inr (.inr (.inr hx))))
  have ftot:ig w I (fp A):=f512.trans f13d λx _ hx=> .inl hx;have s11new:∀x,gG.at R x->ownB A.l x\/(w.heap.size<=x/\w8.heap.size<=x):=λx hx=>by
   rcases n11 x hx with h|h
   ·exact .inl (lold x h)
   ·right;have a1:w5.drew.heap.size<=w8.heap.size:=f58.size;have a2:w8.heap.size<=Z.heap.size:=(((Ext.drew w8).trans (Ext.drew _)).trans f10).size;exact⟨akK x5.size (akK a1 (akK a2 h)),akK a2 h⟩
  have own13:FD I A.m (CS A.l b.bd R) (S.set i (some b)):=own12.fr f13d n4.symm λx hx e=>by
   rcases S9 hx with h1|h1
   ·rcases s11new x h1 with h2|h2
    ·exact(no x h2).1 e
    ·have:=h.lt (.inl rfl:fp A A.d);omega
   ·exact(no x h1).1 e
  have ta:TA I ⟨A.d,A.sl,A.ti,s8,A.m,CS A.l b.bd R⟩ most (S.set i (some b)) (Gp.Bind.upd M (Bind.keyS b.k) (some (i:Int))):=by
   refine⟨?_,row13,by rw[alP];exact hl,hm,⟨L8,tb13,?_⟩,own13,h.good.add g2 hb hM,⟨⟨n1,n2,air hs8'.1,n4,n5,air hs8'.2.1,n7,n8,hs8'.2.2.1⟩,λx hx=> ?_⟩⟩
   ·rw[u];simpa using hd13
   ·rw[c8,u,hM,cL];rfl
   ·rcases S9 hx with h1|h1
    ·rcases s11new x h1 with h2|⟨h2,h4⟩
     ·have:=no x h2;exact⟨this.1,this.2.1,this.2.2.1,λe=>hs8'.2.2.2 ((show x=s8 from e) ▸ h2)⟩
     ·have k1:=h.lt (.inl rfl:fp A A.d);have k2:=h.lt (.inr (.inl rfl):fp A A.sl);have k3:=h.lt (.inr (.inr (.inl rfl)):fp A A.ti);have k4:=ajh t8;exact⟨λe=>by rw[e] at h2;exact am2 _ (alA k1 h2),λe=>by rw[e] at h2;exact am2 _ (alA k2 h2),λe=>by rw[e] at h2;exact am2 _ (alA k3 h2),λe=>by rw[e] at h4;exact am2 _ (alA k4 h4)⟩
    ·have:=no x h1;exact⟨this.1,this.2.1,this.2.2.1,λe=>hs8'.2.2.2 ((show x=s8 from e) ▸ h1)⟩
  refine⟨ftot,_,_,_,ta,rfl,?_,by simp⟩;intro x hx;rcases hx with hx|hx|hx|hx|hx|hx
  ·exact .inl (.inl hx)
  ·exact .inl (.inr (.inl hx))
  ·exact .inl (.inr (.inr (.inl hx)))
  ·have hx:x=s8:=hx;rcases hs8 with h8|h8
   ·exact .inl (.inr (.inr (.inr (.inl (hx.trans h8)))))
   ·right;rw[hx];exact akK x5.size (akK f57.size h8)
  ·exact .inl (.inr (.inr (.inr (.inr (.inl hx)))))
  ·rcases S9 hx with h1|h1
   ·rcases s11new x h1 with h2|h2
    ·exact .inl (.inr (.inr (.inr (.inr (.inr h2)))))
    ·exact .inr h2.1
   ·exact .inl (.inr (.inr (.inr (.inr (.inr h1)))))
end
end Go.Proofs.SN
end
section
namespace Go.Proofs.SN
open Gp Gp.Hash
open Gp.Ses (Ses Slots live GoodS freeN getS ids)
open Gp.Bind (In64)
section
variable {w w':θ} {A:Rn} {most:Nat} {S:Slots} {M:ByteArray->Option Int}
theorem isId (p:Nat) (id:Int):FnI (Value.func (.func Eu) #[] #[.pointer (some ⟨p,0,none⟩)]) (λW=>Row W p [Β id]) (λx=>x==id):=by
 intro x W K hC hK;refine kJ (by kernel_rfl) ?_;have:vM x ⟨p,0,none⟩ W λr W'=>r=(x==id)/\W'=W:=by
  apply CZ;simp only[sx,hC.cell];trivial
 refine Calls.mono this ?_;rintro e W' ⟨r,he,rfl,hw⟩;subst hw;exact⟨_,he,hK⟩
theorem Wn (h:TA w A most S M) (id:Int):
  nU (some ⟨A.d,0,none⟩) id w λr w'=>r=(getS S id).isSome/\ig w w' (fp A)/\∃A' S' M',TA w' A' most S' M'/\A'.d=A.d/\(∀x,fp A' x->fp A x)/\S'=(if (getS S id).isSome then S.set id.toNat none else S):=by
 apply Fa;have hl:=h.len;have hm:=h.mx;refine⟨rfl,gU λp4 w1 q1 e1 z1 f1=> ?_⟩;have h1:=h.ext f1;simp -zeta only[sx,Ci,Cj,Cs,Cw,q1.cell];refine cmS0 (Χ h1 id) ?_;rintro _ w2 ⟨rfl,hw⟩;subst hw
 cases hg:getS S id with
 |none=>
  simp -zeta only[alH,afk,abt]
  grind
 |some b=>
  obtain⟨g0,g1⟩:=Gp.Ses.lX.1 hg;have gl:=(afg.1 g1).1;have hb:=h.good.ok _ _ g1;obtain⟨i,rfl⟩:∃i:Nat,id=(i:Int):=⟨id.toNat,by omega⟩;rw[abu] at g1 gl;have x1:=f1.trans (Ext.drew _);have h1d:=h.ext x1;have q1d:=q1.drew;have c:=h1d.slot g1;have c0:=c 0 (by omega);have c1:=c 1 (by omega);have c2:=c 2 (by omega);have c3:=c 3 (by omega);have c4:=c 4 (by omega);simp only[akC,iV,d_] at c0 c1 c2 c3 c4;simp -zeta only[sx,akt,adt,h1d.hd.cell,q1d.cell,abu,c0,c1,c2,c3,c4];refine⟨by omega,by omega,gU λp3 w3 r3 e3 z3 f3=> ?_⟩;have h3:=h1d.ext f3;have q3:=q1d.ext f3;have d:=h3.slot g1;have d0:=d 0 (by omega);have d1:=d 1 (by omega);have d2:=d 2 (by omega);have d3:=d 3 (by omega);have d4:=d 4 (by omega);simp only[akC,iV,d_] at d0 d1 d2 d3 d4;simp -zeta only[sx,afp,h3.hd.cell,q3.cell,d0,d1,d2,d3,d4];refine gZ r3 rfl rfl λw4 r4 f4 z4=> ?_;have z31:w2.drew.heap.size=w2.heap.size:=rfl;have zx1:=x1.size;have p34:p4≠p3:=by omega
  have x4:=((Ext.drew w2).trans f3).new (f4 (·=p3) rfl) λy hy e=>by omega
  have x4d:=(f1.trans x4).trans (Ext.drew _);have h4:=h.ext x4d;have q4:=(q1.ext x4).drew;have r4d:=r4.drew;simp -zeta only[d_,gJ,gK,pR,h4.hd.cell,r4d.cell];refine cmS9 (Μ _ _ _ hb _) ?_;rintro _ w5 ⟨rfl,f5⟩;have h5:=h4.ext f5;have q5:=q4.ext f5;have r5:=r4d.ext f5;simp -zeta only[afp,d_,h5.hd.cell];obtain⟨L,tb,cL⟩:=h5.tb;obtain⟨⟨n1,n2,n3,n4,n5,n6,n7,n8,n9⟩,no⟩:=h.ne;have hp3:∀x,fp A x->x≠p3:=λx hx=>by have:=h1d.lt hx;omega
  have hp4:∀x,fp A x->x≠p4:=λx hx=>by have:=h.lt hx;omega
  refine cmS0 (Nj tb (Bind.keyS b.k) (rU _ (by simp[Ses.k]))) ?_;rintro _ w6 ⟨_,⟨L6,t6,c6⟩,f6⟩;have hM:=(h.good.k _ _).2 ⟨_,b,g1,rfl,rfl⟩;have hd6:=(h5.hd.fr f6 (by omega)).drew;have q6:=(q5.fr f6 (by rintro(h|h);exact hp4 _ (.inr (.inr (.inl rfl))) h.symm;exact hp4 _ (.inr (.inr (.inr (.inl rfl)))) h.symm)).drew;have r6:=(r5.fr f6 (by rintro(h|h);exact hp3 _ (.inr (.inr (.inl rfl))) h.symm;exact hp3 _ (.inr (.inr (.inr (.inl rfl)))) h.symm)).drew;have row6:=(h5.row.fr f6 (by omega)).drew;have own6:=(h5.own.fr f6 (by omega) λx hx=>by
   simp_all).fr (Ext.drew _ λ_=>False) (by simp) (by simp)
  have t6d:=t6.Md (Ext.drew w6);have f6d:=f6.ext (Ext.drew _);simp -zeta only[d_,gJ,gK,Dy,hd6.cell,r6.cell];refine own6.get b.bd ?_;have lold:∀x,gG.at (lkS A.l b.bd) x->ownB A.l x:=λx hx=>by
   obtain⟨s,g1,_,g2⟩:=Qg hx;exact⟨_,s,g1,g2⟩
  have hil:=Gp.Ses.SQ S b.bd;refine cmS2 (ahG (own6.buf b.bd) (by omega) (isId p4 (i:Int)) λW hf=>q6.fr hf λhx=>hp4 _ (.inr (.inr (.inr (.inr (.inr (lold _ hx)))))) rfl) ?_;rintro s7 w7 ⟨b7,f7,n7'⟩;have e7:(ids S b.bd).filter (λx=> !(x==(i:Int)))=ids (S.set i none) b.bd:=by rw[Gp.Ses.UC g1];rfl
  rw[e7] at b7;have hd7:=(hd6.fr f7 λhx=>(no _ (lold _ hx)).1 rfl).drew;have q7:=(q6.fr f7 λhx=>hp4 _ (.inr (.inr (.inr (.inr (.inr (lold _ hx)))))) rfl).drew;have r7:=(r6.fr f7 λhx=>hp3 _ (.inr (.inr (.inr (.inr (.inr (lold _ hx)))))) rfl).drew;have row7:=(row6.fr f7 λhx=>(no _ (lold _ hx)).2.1 rfl).drew;have t7:=(t6d.fr f7 (λhx=>(no _ (lold _ hx)).2.2.1 rfl) (λhx=>(no _ (lold _ hx)).2.2.2 rfl)).Md (Ext.drew w7);have f7d:=f7.ext (Ext.drew _);have b7d:=b7.ext (Ext.drew w7);simp -zeta only[d_,gJ,gK,Dy,hd7.cell,r7.cell];refine own6.set f7d (λhx=>own6.ne _ (lold _ hx) rfl) (λx _ hx=>hx) b7d (λx hx=> .inl (n7' x hx)) (λk hk=>Gp.Ses.Qc g1 hk) λw8 own8 f8 z8=> ?_;have up8:∀x,ownB (CS A.l b.bd s7) x->ownB A.l x:=λx hx=>by
   rcases S9 hx with h1|h1
   ·exact lold x (n7' x h1)
   ·exact h1
  have f58:=((f6d.mono (S':=fp A) λx hx=>by
   rcases hx with hx|hx
   ·exact .inr (.inr (.inl hx))
   ·exact .inr (.inr (.inr (.inl hx)))).trans f7d λx _ hx=> .inr (.inr (.inr (.inr (.inr (lold x hx)))))).trans f8 λx _ hx=> .inr (.inr (.inr (.inr (.inl hx))))
  have O:=((x4d.trans f5) (fp A)).trans f58 λ_ _ hx=>hx;have hd8:=hd7.fr f8 n4;have q8:=q7.fr f8 λhx=>hp4 _ (.inr (.inr (.inr (.inr (.inl rfl))))) hx.symm;have r8:=r7.fr f8 λhx=>hp3 _ (.inr (.inr (.inr (.inr (.inl rfl))))) hx.symm;have row8:=row7.fr f8 n7;have t8:=t7.fr f8 n8 n9;intro J;have hJ:∀W l',FD W A.m l' (S.set i none)->(∀x,ownB l' x->ownB A.l x)->ig w8 W (·=A.m)->J W:=by
   intro W l' I u hf;have N:=(hd8.fr hf n4).drew;have qW:=(q8.fr hf λhx=>hp4 _ (.inr (.inr (.inr (.inr (.inl rfl))))) hx.symm).drew;have rowW:=(row8.fr hf n7).drew;have tW:=(t8.fr hf n8 n9).Md (Ext.drew W);have ownW:=I.fr (Ext.drew _ λ_=>False) (by simp) (by simp);simp only[sx,J,N.cell,qW.cell,abu];refine⟨by omega,by omega,?_⟩;refine Oa rowW gl none λw9 row9 f9 z9=> ?_;have hd9:=N.fr f9 n1;simp only[d_,gJ,gK,hd9.cell];have hlen:=Gp.Ses.kT 0 g1;have hll:=Gp.Ses.jL S 0;rw[Α];refine iC hd9 rfl (by simp) λR hd10 f10 z10=> ?_;simp only[af5,ahm] at hd10;have f10d:=f10 (·=A.d) rfl;have t10:=(tW.fr f9 (air n5) (air n6)).fr f10d (air n2) (air n3);have own10:=(ownW.fr f9 n7.symm λx hx=>(no x (u x hx)).2.1).fr f10d n4.symm λx hx=>(no x (u x hx)).1;have eu:∀M k v,Go.Proofs.upd M k v=Gp.Bind.upd M k v:=λ_ _ _=>rfl;rw[eu] at t10;have e:((live 0 S).length:Int) - 1=((live 0 (S.set i none)).length:Int):=by omega
   rw[e] at hd10;rw[hM] at c6;simp only[akt,ajn] at c6;have ta:TA R {A with l:=l'} most (S.set i none) (Gp.Bind.upd M (Bind.keyS b.k) none):=
    ⟨hd10,row9.fr f10d (air n1),by simp_all,hm,⟨L6,t10,by omega⟩,own10,h.good.remove g1,⟨⟨n1,n2,n3,n4,n5,n6,n7,n8,n9⟩,λx hx=>no x (u x hx)⟩⟩
   refine⟨?_,_,_,_,ta,rfl,?_,by simp⟩
   ·exact(((O.trans hf λx _ hx=> .inr (.inr (.inr (.inr (.inl hx))))).ext (Ext.drew _)).trans f9 λx _ hx=> .inr (.inl hx)).trans f10d λx _ hx=> .inl hx
   ·rintro x (hx|hx|hx|hx|hx|hx)
    ·exact .inl hx
    ·exact .inr (.inl hx)
    ·exact .inr (.inr (.inl hx))
    ·exact .inr (.inr (.inr (.inl hx)))
    ·exact .inr (.inr (.inr (.inr (.inl hx))))
    ·exact .inr (.inr (.inr (.inr (.inr (u x hx)))))
  clear_value J;have l7:=b7.len;by_cases hz:((s7.len:Int)==0)=true
  ·rw[hz,abt];have hz':ids (S.set i none) b.bd=[]:=by
    simp_all
   have hd8d:=hd8.drew;have r8d:=r8.drew;simp only[d_,gJ,gK,Dy,hd8d.cell,r8d.cell];have own8d:=own8.fr (Ext.drew w8 λ_=>False) (by simp) (by simp);refine own8d.del hz' λw9 own9 f9 z9=> ?_;exact hJ w9 _ own9 (λx hx=>up8 x (agT own8.nd hx)) (((Ext.drew w8) (·=A.m)).trans f9 λ_ _ e=>e)
  ·rw[Bool.eq_false_iff.2 hz,aaf];exact hJ w8 _ own8 up8 (ig.refl _ _)
abbrev yK:List Shape:=[.one ν,.agg [ν,ν,ν,ν,ν]]
def yS (L:List (Int×Ses)):List (zZ yK):=L.map λx=>(x.1,(x.2.bd,x.2.st,x.2.un,x.2.ra,x.2.rp,()),())
theorem mG:∀(S T:Slots) (k:Nat),live k (S++T)=live k S++live (k+S.length) T
 |[],T,k=>by simp[live]
 |none::r,T,k=>by rw[alY,live,live,mG r T (k+1)];grind
 |some b::r,T,k=>by rw[alY,live,live,mG r T (k+1)];grind
theorem Zk {S:Slots} {i:Nat} {b:Ses} (h:S[i]? =some (some b)):(live 0 S)[(live 0 (S.take i)).length]? =some ((i:Int),b)/\(live 0 (S.take (i+1))).length=(live 0 (S.take i)).length+1:=by
 have u:=(afg.1 h).1;have hS:S[i]=some b:=by simp_all
 have e1:S=S.take i++some b::S.drop (i+1):=by
  conv=>lhs;rw[<- aks i S,amc u,hS]
 have hl:(S.take i).length=i:=by simp;omega
 constructor
 ·conv=>lhs;rw[e1]
  rw[mG,alh (by simp[hl])];simp[live,hl]
 ·rw[akx u,hS,mG];simp[live]
theorem Qe {S:Slots} {i:Nat} (h:S[i]? =some none):(live 0 (S.take (i+1))).length=(live 0 (S.take i)).length:=by
 have u:=(afg.1 h).1;have hS:S[i]=none:=by simp_all
 rw[akx u,hS,mG];simp[live]
theorem afu (most:Nat) (S:Slots) (M:ByteArray->Option Int) (A:Rn) (f0:Nat):
  qE υ yK (Value.func (.func xZ) #[] #[(Value.pointer (some ⟨f0,0,none⟩))])
   (λW=>Row W f0 [.pointer (some ⟨A.d,0,none⟩)]/\TA W A most S M) (yS (live 0 S)):=by
 refine⟨by kernel_rfl,λn Q D hC hQ hD hy w h0=> ?_⟩;refine Calls.mono (GX ?_) (λe w' h=>h);obtain⟨r0,h⟩:=hC _ _ h0;have hl:=h.len;have hm:=h.mx;simp only[sx,r0.cell];refine cmS0 (yO h) ?_;rintro _ w2 ⟨rfl,hw⟩;subst hw;simp only[sx,adt,r0.cell,h.hd.cell];have J:(yS (live 0 S)).length=(live 0 S).length:=by simp[yS]
 rw[J];refine g_ (λst W=>∃i:Nat,i<=most/\st.1=(i:Int)/\Q (live 0 (S.take i)).length W) (λst _=>most - st.1.toNat) ⟨0,by omega,rfl,by simpa [live] using h0⟩ ?_;rintro⟨x,⟨⟩⟩ W ⟨i,hi,rfl,hq⟩ next I
 obtain⟨r0,h⟩:=hC _ _ hq;by_cases hlt:i<most
 ·have u:((i:Int)<(most:Int)):=by omega
  have hS:S[i]? =some S[i]:=adP (by omega);generalize S[i]=o at hS;have c:=h.slot hS;have c0:=c 0 (by omega);have c1:=c 1 (by omega);have c2:=c 2 (by omega);have c3:=c 3 (by omega);have c4:=c 4 (by omega);have c5:=c 5 (by omega);simp only[akC] at c0
  cases o with
  |none=>
   simp only[u,acI,abt,d_,gJ,gK,jr,abu,c0,c1,c2,c3,c4,c5,iV];refine⟨by omega,by trivial,D5 rfl rfl λp w3 r3 e3 z3 f3=> ?_⟩;simp only[sx,r3.cell];rw[Α];refine I _ _ ⟨i+1,by omega,by simp,?_⟩ (by omega);rw[Qe hS];exact hQ _ _ _ hq f3
  |some b=>
   simp only[u,acI,abt,d_,gJ,gK,jr,abu,c0,c1,c2,c3,c4,c5,iV];refine⟨by omega,by trivial,D5 rfl rfl λp w3 r3 e3 z3 f3=> ?_⟩;simp only[sx,r3.cell];obtain⟨g1,g2⟩:=Zk hS;refine kP (hy (live 0 (S.take i)).length ((i:Int),(b.bd,b.st,b.un,b.ra,b.rp,()),()) w3 _ ?_ (hQ _ _ _ hq f3) ?_ ?_)
   ·simp only[yS,aiK,g1,ahF]
   ·intro W' hq';refine⟨true,rfl,?_⟩;simp only[adt,aaf];rw[Α];exact I _ _ ⟨i+1,by omega,by simp,by rw[g2];exact hq'⟩ (by omega)
   simp_all
 ·have u:¬((i:Int)<(most:Int)):=by omega
  simp only[u,acR,aaf]
  grind
def zH (S:Slots) (k:Int):List (Int×Ses):=(live 0 S).filter λx=>x.2.bd==k
theorem SY (S:Slots) (k:Int):(zH S k).map (·.1)=ids S k:=rfl
theorem aio (most:Nat) (S:Slots) (M:ByteArray->Option Int) (A:Rn) (f0 f1:Nat) (k:Int):
  N9 υ yK (Value.func (.func t_) #[] #[(Value.pointer (some ⟨f0,0,none⟩)),(Value.pointer (some ⟨f1,0,none⟩))])
   (λW=>Row W f0 [.pointer (some ⟨A.d,0,none⟩)]/\Row W f1 [Β k]/\TA W A most S M) (yS (zH S k)):=by
 refine⟨by kernel_rfl,λn w Q D hC hQ hD hy h0=> ?_⟩;refine Calls.mono (yc ?_) (λe w' h=>h);have up:∀{i W W'},Q i W->Ext W W'->Q i W':=λhq hx=>hQ _ _ _ hq (hx _);obtain⟨r0,r1,h⟩:=hC _ _ h0;have hl:=h.len;have hm:=h.mx;simp only[sx,r0.cell];refine cmS0 (yO h) ?_;rintro _ w2 ⟨rfl,hw⟩;subst hw;have q2:=up h0 (Ext.drew _);obtain⟨r0,r1,h⟩:=hC _ _ q2;simp only[sx,adt,r0.cell,r1.cell,h.hd.cell];refine h.own.get k ?_;have hil:=Gp.Ses.SQ S k;refine cmS2 (PZ ((h.own.buf k).sl jJ (by omega)) (by omega)) ?_;rintro s3 w3 ⟨f3,b3,n3⟩;have q3:=up q2 f3;have O:(yS (zH S k)).length=(zH S k).length:=by simp[yS]
 have hol:(zH S k).length=(ids S k).length:=by rw[<- SY,aiz]
 rw[O];have l3:=b3.len;refine g_ (λst W=>∃i:Nat,i<=(zH S k).length/\st.1=(i:Int)/\Q i W/\jc 1 eI W s3 (ids S k)) (λst _=>(zH S k).length - st.1.toNat) ⟨0,by omega,rfl,q3,b3⟩ ?_;rintro⟨x,⟨⟩⟩ W ⟨i,hi,rfl,hq,hb⟩ next I
 obtain⟨r0,r1,h⟩:=hC _ _ hq;by_cases R:i<(zH S k).length
 ·have u:((i:Int)<(s3.len:Int)):=by omega
  have hS:=adP R;generalize (zH S k)[i]=y at hS;obtain⟨v,b⟩:=y;have hv:(ids S k)[i]? =some v:=by rw[<- SY,aiK,hS];rfl
  obtain⟨J,_⟩:=al1.1 (als hS);obtain⟨j,hj,N⟩:=Gp.Ses.kY.1 J;have N:v=(j:Int):=by omega
  subst N;have gl:=(afg.1 hj).1;have c:=h.slot hj;have c0:=c 0 (by omega);have c1:=c 1 (by omega);have c2:=c 2 (by omega);have c3:=c 3 (by omega);have c4:=c 4 (by omega);simp only[akC,iV,d_] at c0 c1 c2 c3 c4;rw[aff u,abt];refine Df (hb.sl jJ (by omega)) hv λa hc=> ?_;simp only[sx,hc,r0.cell,h.hd.cell,abu,c0,c1,c2,c3,c4];refine⟨by omega,by omega,?_⟩;refine kP (hy i ((j:Int),(b.bd,b.st,b.un,b.ra,b.rp,()),()) W _ ?_ hq ?_ ?_)
  ·simp only[yS,aiK,hS,ahF]
  ·intro W' hq' hf;refine⟨true,rfl,?_⟩;simp only[adt,aaf];rw[Α];refine I _ _ ⟨i+1,by omega,by simp,hq',hb.fr hf λc hc=> ?_⟩ (by omega)
   simp_all
  simp_all
 ·have u:¬((i:Int)<(s3.len:Int)):=by omega
  rw[adX u,aaf]
  grind
theorem JW {α β:Type} {enc:α->Value} {ev:β->Value} {w:θ} {K:Addr->b_} (h:∀w1,rV enc ev w1 w.heap.size []->w1.heap.size=w.heap.size+1->Ext w w1->K ⟨w.heap.size,0,none⟩ w1):Al w (.map #[] 0) K:=
 h _ (rV.new w enc ev) (by simp) (λS=>ig.alloc w _ S)
theorem aiR (n:Int) (w:θ):Em n w λp e w'=>Ext w w'/\((¬(0<=n/\n<=4096)/\p=none/\e=1)\/(0<=n/\n<=4096/\e=0/\∃A,p=some ⟨A.d,0,none⟩/\(∀x,fp A x->w.heap.size<=x)/\TA w' A n.toNat (List.replicate n.toNat none) (λ_=>none))):=by
 apply Vy;by_cases c1:n<0
 ·simp only[c1,acI,abt];exact⟨Ext.refl _,.inl ⟨by omega,by trivial,by trivial⟩⟩
 by_cases c2:n>4096
 ·simp only[c1,c2,acI,acR,abt,aaf];exact⟨Ext.refl _,.inl ⟨by omega,by trivial,by trivial⟩⟩
 simp only[c1,c2,acR,aaf];refine cmS6 (Zc n w) ?_;rintro p1 e1 w1 ⟨f1,(⟨_,_,rfl,ti,rfl,l1,t1⟩|⟨hbad,_,_⟩)⟩;rotate_left
 ·omega
 simp only[show ((0:Int) !=0)=false from rfl,aaf];refine Ik (by omega) (by omega) (by omega) (by omega) λsl w3 r3 e3 z3 f3=> ?_;refine JW (enc:=encI) (ev:=slV) λw4 m4 z4 f4=> ?_;refine gU λd w5 r5 e5 z5 f5=> ?_;obtain⟨m,rfl⟩:∃m:Nat,n=(m:Int):=⟨n.toNat,by omega⟩;simp only[abu] at r3 r5 ⊢;have f1:Ext w w1:=f1;have f3:Ext w1 w3:=f3;have x5:=(f1.trans f3).trans (f4.trans f5);have i1:=t1.ht.hd.lt;have s1:=f1.size;have xC:∀(k j:Nat),live j (List.replicate k none)=[]:=by
  intro k
  induction k with
  |zero=>intro j;rfl
  |succ k ih=>intro j;rw[al6,live];exact ih _
 have ids_rep:∀k j,ids (List.replicate k none) j=[]:=λk j=>by unfold ids;simp_all
 have rep:∀k,iw [Β 0,Β 0,Β 0,Β 0,Β 0,Value.bool false] k=(List.replicate k (none:Option Ses)).flatMap iV:=by
  intro k
  induction k with
  |zero=>rfl
  |succ k ih=>rw[iw,ih,al6,alx];rfl
 have noB:∀x,¬ownB [] x:=λx ⟨k,s,hk,_⟩=>by cases hk
 refine⟨x5,.inr ⟨by omega,by omega,by trivial,⟨d,sl,ti,ti,w3.heap.size,[]⟩,rfl,?_,?_⟩⟩
 ·intro x hx;rcases hx with hx|hx|hx|hx|hx|hx
  ·grind
  ·simp_all
  ·simp_all
  ·simp_all
  ·grind
  simp_all
 ·refine⟨?_,?_,by simp,by omega,⟨[],?_,?_⟩,⟨?_,?_,?_,?_,?_,?_⟩,⟨λk v=> ?_,λj b hb=> ?_⟩,⟨?_,λx hx=>absurd hx (noB x)⟩⟩
  ·rw[xC];exact r5
  ·rw[<- rep];exact(r3.ext f4).ext f5
  ·exact t1.Md (f3.trans (f4.trans f5))
  ·rw[xC];rfl
  ·exact rV.ext (m4) f5
  ·simp
  ·intro k s hk;cases hk
  ·simp_all
  ·intro k k' s s' b _ hk;cases hk
  ·simp_all
  ·grind
  ·rw[amA] at hb;split at hb<;>simp at hb
  grind
end
end Go.Proofs.SN
end
section
namespace Go.Proofs.QN
open Gp
def G6 (m:Int) (x:Int):List Value:=[Β x,Β m]
structure QOk (l:List Int) (m:Int):Prop where
 lo:∀x∈l,0<=x/\x<=m
 m0:0<=m
 m1:m<=4096
 len:l.length<=64
structure QR (w:θ) (b s:Nat) (l:List Int) (m:Int):Prop where
 hd:Row w b [.slice (some ⟨s,0,none⟩) l.length l.length]
 row:Row w s (l.flatMap (G6 m))
 ne:b≠s
theorem QR.fr {w w':θ} {b s:Nat} {l:List Int} {m:Int} {S:Nat->Prop} (h:QR w b s l m) (hf:ig w w' S) (h1:¬S b) (h2:¬S s):QR w' b s l m:=⟨h.hd.fr hf h1,h.row.fr hf h2,h.ne⟩
def inR (l:List Int) (i:Int):Prop:=0<=i/\i<(l.length:Int)
instance (l:List Int) (i:Int):Decidable (inR l i):=inferInstanceAs (Decidable (_/\_))
def at_ (l:List Int) (i:Int):Int:=l.getD i.toNat 0
def Fj (l:List Int) (m i:Int):Int×List Int:=
 if inR l i then (if at_ l i>=m then (10,l) else (0,l.set i.toNat (at_ l i+1))) else (1,l)
def Me (l:List Int) (i:Int):Int×List Int:=
 if inR l i then (if at_ l i=0 then (8,l) else (0,l.set i.toNat (at_ l i - 1))) else (1,l)
def Es (l:List Int) (i:Int):Int:=if inR l i then at_ l i else 0
theorem YO {l:List Int} {i:Int} (h:inR l i):l[i.toNat]? =some (at_ l i):=by
 obtain⟨h0,h1⟩:=h;have:i.toNat<l.length:=by omega
 simp[at_,this]
theorem at_mem {l:List Int} {i:Int} (h:inR l i):at_ l i∈l:=als (YO h)
theorem uh (m x:Int):(G6 m x).length=2:=rfl
theorem QR.cell0 {w:θ} {b s:Nat} {l:List Int} {m i:Int} (h:QR w b s l m) (hi:inR l i):w.cell? ⟨s,i.toNat * 2,none⟩=some (Β (at_ l i)):=by
 rw[h.row.cell,<- akC (i.toNat * 2),flat_get _ 2 (uh m) _ _ 0 (by omega),YO hi];rfl
theorem QR.cell1 {w:θ} {b s:Nat} {l:List Int} {m i:Int} (h:QR w b s l m) (hi:inR l i):w.cell? ⟨s,i.toNat * 2+1,none⟩=some (Β m):=by
 rw[h.row.cell,flat_get _ 2 (uh m) _ _ 1 (by omega),YO hi];rfl
theorem QR.set {w w1:θ} {b s:Nat} {l:List Int} {m i y:Int} (h:QR w b s l m) (hi:inR l i) (hr:Row w1 s ((l.flatMap (G6 m)).set (i.toNat * 2) (Β y))) (hf:ig w w1 (·=s)):
  QR w1 b s (l.set i.toNat y) m:=by
 refine⟨by simpa using h.hd.fr hf h.ne,?_,h.ne⟩;rw[<- akC (i.toNat * 2),I5 _ 2 (uh m) _ _ 0 (at_ l i) y _ (by omega) (YO hi) rfl] at hr;exact hr
theorem UW {w:θ} {b s:Nat} {l:List Int} {m:Int} (h:QR w b s l m) (i:Int):
  pY (some ⟨b,0,none⟩) i w λp e w'=>w'=w/\((inR l i/\e=0/\p=some ⟨s,i.toNat * 2,none⟩)\/(¬inR l i/\e=1/\p=none)):=by
 apply Pe;simp only[sx,h.hd.cell];by_cases h1:i<0
 ·have:¬inR l i:=λx=>by have:=x.1;omega
  simp[h1,this]
 ·by_cases h2:i>=(l.length:Int)
  ·have:¬inR l i:=λx=>by have:=x.2;omega
   simp[h1,h2,this]
  ·have:inR l i:=⟨by omega,by omega⟩;simp[h1,h2,this,this.1,this.2]
theorem SK (x m:Int) (w:θ):wz x m w λr w'=>r=decide (x>=m)/\∀S,ig w w' S:=by
 apply LJ;refine uQ λa w1 hr _ _ hf=> ?_;simp only[sx,hr.cell];trivial
theorem Pv {w:θ} {b s:Nat} {l:List Int} {m:Int} (h:QR w b s l m) (hq:QOk l m) (i:Int):
  qM (some ⟨b,0,none⟩) i w λe w'=>e=(Fj l m i).1/\QR w' b s (Fj l m i).2 m/\ig w w' (·=s):=by
 apply LH;refine cmS6 (UW h i) ?_;rintro p e w' ⟨rfl,⟨hi,rfl,rfl⟩|⟨hi,rfl,rfl⟩⟩
 ·have hx:=hq.lo _ (at_mem hi);have hm:=hq.m1;simp only[sx,bne_self_eq_false,h.cell0 hi,h.cell1 hi];refine cmS0 (SK _ _ _) ?_;rintro r w1 ⟨rfl,hf⟩;have h1:=h.fr (hf λ_=>False) (by simp) (by simp);by_cases u:at_ l i>=m
  ·simp only[u,acI,abt];simp only[Fj,hi,u,ajn]
   simp_all
  ·simp only[u,acR,aaf,gJ,gK,h1.cell0 hi];have hw:ο.wrap (at_ l i+1)=at_ l i+1:=Α;rw[hw];refine iC h1.row rfl ?_ λw2 hr2 hf2 _=> ?_
   ·rw[jh _ 2 (uh m)];have:=hi.1;have:=hi.2;omega
   ·simp only[Fj,hi,u,ajn,aku];exact⟨by trivial,h1.set hi hr2 (hf2 (·=s) rfl),(hf _).trans (hf2 (·=s) rfl) λ_ _ e=>e⟩
 ·simp only[Fj,hi,aku];exact⟨by trivial,h,ig.refl _ _⟩
theorem ahW {w:θ} {b s:Nat} {l:List Int} {m:Int} (h:QR w b s l m) (hq:QOk l m) (i:Int):
  wu (some ⟨b,0,none⟩) i w λe w'=>e=(Me l i).1/\QR w' b s (Me l i).2 m/\ig w w' (·=s):=by
 apply LG;refine cmS6 (UW h i) ?_;rintro p e w' ⟨rfl,⟨hi,rfl,rfl⟩|⟨hi,rfl,rfl⟩⟩
 ·have hx:=hq.lo _ (at_mem hi);have hm:=hq.m1;simp only[sx,bne_self_eq_false,h.cell0 hi];by_cases h0:at_ l i=0
  ·simp only[h0,am7,abt];simp only[Me,hi,h0,ajn];exact⟨by trivial,h,ig.refl _ _⟩
  ·have h0':(at_ l i==0)=false:=by simp_all
   have hw:ο.wrap (at_ l i - 1)=at_ l i - 1:=Α;simp only[h0',aaf,hw];refine iC h.row rfl ?_ λw2 hr2 hf2 _=> ?_
   ·rw[jh _ 2 (uh m)];have:=hi.1;have:=hi.2;omega
   ·simp only[Me,hi,h0,ajn,aku];exact⟨by trivial,h.set hi hr2 (hf2 (·=s) rfl),hf2 (·=s) rfl⟩
 ·simp only[Me,hi,aku];exact⟨by trivial,h,ig.refl _ _⟩
theorem Ϫ {w:θ} {b s:Nat} {l:List Int} {m:Int} (h:QR w b s l m) (i:Int):
  pK (some ⟨b,0,none⟩) i w λn w'=>n=Es l i/\w'=w:=by
 apply Jv;refine cmS6 (UW h i) ?_;rintro p e w' ⟨rfl,⟨hi,rfl,rfl⟩|⟨hi,rfl,rfl⟩⟩
 ·simp only[sx,bne_self_eq_false,h.cell0 hi,Es,hi,ajn,alQ]
 ·simp only[Es,hi,aku];exact⟨by trivial,by trivial⟩
theorem af_ (m x:Int) (n:Nat):(List.replicate n x).flatMap (G6 m)=iw (G6 m x) n:=by
 induction n with
 |zero=>rfl
 |succ n ih=>simp[al6,iw,ih]
def Yl (n m:Int):Prop:=1<=n/\n<=64/\0<=m/\m<=4096
instance (n m:Int):Decidable (Yl n m):=inferInstanceAs (Decidable (_/\_))
theorem aii {n m:Int} (h:Yl n m):QOk (List.replicate n.toNat 0) m:=by
 obtain⟨h1,h2,h3,h4⟩:=h;refine⟨λx hx=> ?_,h3,h4,by simp;omega⟩
 simp_all
def Pm (m:Int) (n k:Nat):List Value:=(List.replicate k (0:Int)).flatMap (G6 m)++(List.replicate (n - k) (0:Int)).flatMap (G6 0)
theorem aeR (m:Int) (n k:Nat) (hk:k<n):(Pm m n k).set (k * 2+1) (Β m)=Pm m n (k+1):=by
 unfold Pm;have hl:((List.replicate k (0:Int)).flatMap (G6 m)).length=k * 2:=by rw[jh _ 2 (uh m)];simp
 rw[ami _ _ (by omega),hl];obtain⟨j,hj⟩:∃j,n - k=j+1:=⟨n - k - 1,by omega⟩;have hj2:n - (k+1)=j:=by omega
 rw[hj,hj2,List.replicate_succ' (n:=k),alR];simp[al6,G6]
theorem aeQ (m:Int) (n k:Nat) (hk:k<=n):(Pm m n k).length=n * 2:=by
 unfold Pm;rw[ahP,jh _ 2 (uh m),jh _ 2 (uh 0)];simp;omega
theorem acs (n m:Int) (w:θ):Iw n m w λp e w'=>
  (∀S,ig w w' S)/\((Yl n m/\e=0/\∃b s,p=some ⟨b,0,none⟩/\w.heap.size<=b/\w.heap.size<=s/\QR w' b s (List.replicate n.toNat 0) m)\/(¬Yl n m/\e=1/\p=none)):=by
 apply ZJ;by_cases hn:Yl n m
 ·obtain⟨h1,h2,h3,h4⟩:=hn;have c1:¬(n<1):=by omega
  have c2:¬(n>64):=by omega
  have c3:¬(m<0):=by omega
  have c4:¬(m>4096):=by omega
  simp only[sx,c1,c2,c3,c4,acR];refine Ik (by omega) (by omega) (by omega) (by omega) λs w1 hr0 hs _ hf1=> ?_;have hq0:iw [Β 0,Β 0] n.toNat=Pm m n.toNat 0:=by
   unfold Pm;simp only[List.replicate_zero,List.flatMap_nil,amd,amg];exact(af_ 0 0 _).symm
  rw[hq0] at hr0;subst hs;refine uQ λb w2 hr2 hb hsz hf2=> ?_;simp only[afe,gJ,h_,hr2.cell];have hb1:=hr0.lt;refine g_ (λst w'=>∃k:Nat,k<=n.toNat/\st.1=k/\Row w' b [.slice (some ⟨w.heap.size,0,none⟩) n.toNat n.toNat]/\Row w' w.heap.size (Pm m n.toNat k)/\∀S,ig w w' S)
   (λst _=>n.toNat - st.1.toNat) ⟨0,by omega,rfl,hr2,hr0.fr (hf2 λ_=>False) (by simp),λS=>(hf1 S).trans (hf2 S) λ_ _ e=>e⟩ ?_
  rintro⟨i,⟨⟩⟩ w3 ⟨k,hk,rfl,hb3,hr3,hf3⟩ next h
  simp only[sx,hb3.cell];by_cases u:k<n.toNat
  ·simp only[u,Int.ofNat_lt,acI,abt,abu];refine⟨by omega,by trivial,?_⟩;refine iC hr3 rfl (by rw[aeQ _ _ _ hk];omega) λw4 hr4 hf4 _=> ?_;rw[aeR _ _ _ u] at hr4;have e2:ο.wrap ((k:Int)+1)=((k+1:Nat):Int):=by rw[Α];omega
   rw[e2];refine h _ _ ⟨k+1,by omega,rfl,hb3.fr (hf4 (·=w.heap.size) rfl) (by omega),hr4,λS=>(hf3 S).trans (hf4 (·=w.heap.size) rfl) λx hx e=>by omega⟩ (by omega)
  ·have hk2:k=n.toNat:=by omega
   subst hk2;simp only[Int.lt_irrefl,acR,aaf];refine⟨hf3,.inl ⟨⟨h1,h2,h3,h4⟩,by trivial,b,w.heap.size,rfl,by omega,by omega,⟨by simpa using hb3,?_,by omega⟩⟩⟩;unfold Pm at hr3;simpa using hr3
 ·have key:(bif decide (n<1) then true else bif decide (n>64) then true else bif decide (m<0) then true else decide (m>4096))=true:=by
   simp only[Yl] at hn
   grind
  by_cases c1:n<1
  ·simp only[sx,c1,acI];exact⟨λS=>ig.refl _ _,.inr ⟨hn,by trivial,by trivial⟩⟩
  ·by_cases c2:n>64
   ·simp only[sx,c1,c2,acI,acR];exact⟨λS=>ig.refl _ _,.inr ⟨hn,by trivial,by trivial⟩⟩
   ·by_cases c3:m<0
    ·simp only[sx,c1,c2,c3,acI,acR];exact⟨λS=>ig.refl _ _,.inr ⟨hn,by trivial,by trivial⟩⟩
    ·have c4:m>4096:=by simp_all
     simp only[sx,c1,c2,c3,c4,acI,acR];exact⟨λS=>ig.refl _ _,.inr ⟨hn,by trivial,by trivial⟩⟩
theorem aa8 {l:List Int} {m:Int} (h:QOk l m) (i:Int):QOk (Fj l m i).2 m:=by
 unfold Fj;split
 ·split
  ·exact h
  ·rename_i hi hge;refine⟨λx hx=> ?_,h.m0,h.m1,by simpa using h.len⟩;rcases List.mem_or_eq_of_mem_set hx with hx|rfl
   ·exact h.lo x hx
   ·have:=h.lo _ (at_mem hi);omega
 ·exact h
theorem agj {l:List Int} {m:Int} (h:QOk l m) (i:Int):QOk (Me l i).2 m:=by
 unfold Me;split
 ·split
  ·exact h
  ·rename_i hi hge;refine⟨λx hx=> ?_,h.m0,h.m1,by simpa using h.len⟩;rcases List.mem_or_eq_of_mem_set hx with hx|rfl
   ·exact h.lo x hx
   ·have:=h.lo _ (at_mem hi);omega
 ·exact h
end Go.Proofs.QN
end
section
namespace Gp.Wh
structure Tm where
 id:Int
 a:Nat
 tn:Int
deriving DecidableEq
def Lv (now a n:Nat):Prop:=now / 64^(n+1)=a / 64^(n+1)/\(n=0\/now / 64^n≠a / 64^n)
def dg (a n:Nat):Nat:=a / 64^n % 64
theorem xu (a n:Nat):a / 64^(n+1)=a / 64^n / 64:=by rw[Nat.pow_succ,Nat.div_div_eq_div_mul]
theorem MZ {x y n m:Nat} (h:x / 64^n=y / 64^n) (hm:n<=m):x / 64^m=y / 64^m:=by
 obtain⟨k,rfl⟩:=Nat.exists_eq_add_of_le hm;rw[Nat.pow_add,<- Nat.div_div_eq_div_mul,<- Nat.div_div_eq_div_mul,h]
theorem Lv.uniq {now a n m:Nat} (h:Lv now a n) (g:Lv now a m):n=m:=by
 rcases al7 n m with hl|hl|hl
 ·exact absurd (MZ h.1 hl) (by rcases g.2 with e|e;omega;exact e)
 ·exact hl
 ·exact absurd (MZ g.1 hl) (by rcases h.2 with e|e;omega;exact e)
theorem Lv.self (now:Nat):Lv now now 0:=⟨rfl,.inl rfl⟩
theorem aaS {a n:Nat} (h:a<=2^40) (hn:7<=n):a / 64^n=0:=by
 refine Nat.div_eq_of_lt (alA ?_ (amB (by omega) hn));omega
theorem Lv.lt {now a n:Nat} (h:Lv now a n) (h1:now<=2^40) (h2:a<=2^40):n<7:=by
 rcases h.2 with e|e
 ·omega
 ·refine ame λhn=>e ?_;rw[aaS h1 (by omega),aaS h2 (by omega)]
theorem Lv.dig {now a n:Nat} (h:Lv now a n) (u:now<=a):dg now n<=dg a n/\(0<n->dg now n<dg a n):=by
 have h1:=h.1;rw[xu,xu] at h1;have h2:now / 64^n<=a / 64^n:=Nat.div_le_div_right u;unfold dg;refine⟨by omega,λhn=> ?_⟩;rcases h.2 with e|e
 ·omega
 ·omega
theorem Yi {x y n:Nat} (h:x / 64^n<y / 64^n):x<y:=by
 refine ame λhx=> ?_;have:=Nat.div_le_div_right (c:=64^n) (Nat.le_of_not_lt hx);omega
theorem Lv.first {now a b n m:Nat} (h:Lv now a n) (g:Lv now b m) (hn:n<m) (hb:now<=b):a<b:=by
 have h1:=MZ h.1 (show n+1<=m by omega);have h2:=(g.dig hb).2 (by omega);have g1:=g.1;rw[xu,xu] at g1;unfold dg at h2;exact Yi (n:=m) (by omega)
theorem Lv.slot {now a b n:Nat} (h:Lv now a n) (g:Lv now b n) (hd:dg a n<dg b n):a<b:=by
 have h1:=h.1;have g1:=g.1;rw[xu,xu] at h1 g1;unfold dg at hd;exact Yi (n:=n) (by omega)
abbrev Fs:=Nat->Nat->List Tm
abbrev Ps:=Int->Option Tm
def xK (F:Fs) (n k:Nat) (l:List Tm):Fs:=λn' k'=>if n'=n/\k'=k then l else F n' k'
def G9 (P:Ps) (id:Int) (o:Option Tm):Ps:=λid'=>if id'=id then o else P id'
structure WI (now:Nat) (P:Ps) (F:Fs):Prop where
 pl:∀id t,P id=some t->t.id=id/\now<=t.a/\t.a<=2^40
 nw:now<=2^40
 mem:∀n k t,n<7->k<64->(t∈F n k↔P t.id=some t/\Lv now t.a n/\dg t.a n=k)
 nd:∀n k,n<7->k<64->((F n k).map Tm.id).Nodup
variable {now:Nat} {P:Ps} {F:Fs}
theorem BU (a n:Nat):dg a n<64:=alV _ (by omega)
theorem agF (now a:Nat) (h1:now<=2^40) (h2:a<=2^40):∃n,n<7/\Lv now a n:=by
 have:∀m,now / 64^m=a / 64^m->∃n,n<=m/\Lv now a n:=by
  intro m
  induction m with
  |zero=>intro h;exact⟨0,ajq _,MZ h (by omega),.inl rfl⟩
  |succ m ih=>
   intro h;by_cases e:now / 64^m=a / 64^m
   ·grind
   ·exact⟨m,by omega,h,.inr e⟩
 obtain⟨n,_,hl⟩:=this 7 (by omega);exact⟨n,hl.lt h1 h2,hl⟩
theorem WI.at_ (h:WI now P F) {id:Int} {t:Tm} (ht:P id=some t):∃n,n<7/\Lv now t.a n/\t∈F n (dg t.a n):=by
 obtain⟨g1,g2,g3⟩:=h.pl id t ht;obtain⟨n,hn,hl⟩:=agF now t.a h.nw g3;exact⟨n,hn,hl,(h.mem n _ t hn (BU _ _)).2 ⟨by simp_all,hl,rfl⟩⟩
theorem WI.take (h:WI now P F) {id:Int} {t:Tm} {n:Nat} (ht:P id=some t) (hl:Lv now t.a n):WI now (G9 P id none) (xK F n (dg t.a n) ((F n (dg t.a n)).filter λx=> !(x.id==id))):=by
 obtain⟨g1,g2,g3⟩:=h.pl id t ht;refine⟨λid' u hu=> ?_,h.nw,λn' k' u hn hk=> ?_,λn' k' hn hk=> ?_⟩
 ·unfold G9 at hu;split at hu
  ·cases hu
  ·exact h.pl id' u hu
 ·unfold xK G9;split
  ·rename_i e;obtain⟨rfl,rfl⟩:=e;rw[al1,h.mem n' _ u hn hk]
   grind
  ·rename_i e;rw[h.mem n' k' u hn hk];by_cases eu:u.id=id
   ·rw[adZ eu];constructor
    ·rintro⟨h1,h2,h3⟩;rw[eu,ht] at h1
     cases h1
     exact absurd ⟨h2.uniq hl,by rw[<- h3,h2.uniq hl]⟩ e
    simp
   simp_all
 ·unfold xK;split
  ·rename_i e;obtain⟨rfl,rfl⟩:=e;exact(h.nd n' _ hn hk).sublist (List.filter_sublist.map _)
  ·exact h.nd n' k' hn hk
theorem WI.put (h:WI now P F) {t:Tm} {n:Nat} (hp:P t.id=none) (h1:now<=t.a) (h2:t.a<=2^40) (hl:Lv now t.a n):WI now (G9 P t.id (some t)) (xK F n (dg t.a n) (F n (dg t.a n)++[t])):=by
 refine⟨λid' u hu=> ?_,h.nw,λn' k' u hn hk=> ?_,λn' k' hn hk=> ?_⟩
 ·unfold G9 at hu;split at hu
  ·simp_all
  ·exact h.pl id' u hu
 ·unfold xK G9;split
  ·rename_i e;obtain⟨rfl,rfl⟩:=e;rw[alj,alk,h.mem n' _ u hn hk]
   grind
  ·rename_i e;rw[h.mem n' k' u hn hk];by_cases eu:u.id=t.id
   ·rw[adZ eu];constructor
    ·simp_all
    ·rintro⟨g1,g2,g3⟩;cases g1;exact absurd ⟨g2.uniq hl,by rw[<- g3,g2.uniq hl]⟩ e
   simp_all
 ·unfold xK;split
  ·rename_i e;obtain⟨rfl,rfl⟩:=e;rw[al4,amy];refine⟨h.nd n' _ hn hk,by simp,λx hx y hy e=> ?_⟩;simp only[akh,List.map_nil,alk] at hy;subst hy;subst e;obtain⟨u,hu,hx⟩:=alp.1 hx;have:=((h.mem n' _ u hn hk).1 hu).1
   simp_all
  ·exact h.nd n' k' hn hk
theorem WI.next (h:WI now P F) {n k:Nat} {t:Tm} (hn:n<7) (hk:k<64) (e1:∀n' k',n'<n->k'<64->dg now n'<=k'->F n' k'=[]) (e2:∀k',k'<k->dg now n<=k'->F n k'=[])
  (ht:t∈F n k) (hm:∀u∈F n k,t.a<=u.a):P t.id=some t/\now<=t.a/\∀id u,P id=some u->t.a<=u.a:=by
 obtain⟨g1,g2,g3⟩:=(h.mem n k t hn hk).1 ht;refine⟨g1,(h.pl _ _ g1).2.1,λid u hu=> ?_⟩;obtain⟨_,p2,p3⟩:=h.pl id u hu;obtain⟨m,hm7,hl,hmem⟩:=h.at_ hu;rcases al7 m n with I|rfl|I
 ·have:=e1 m (dg u.a m) I (BU _ _) (hl.dig p2).1
  simp_all
 ·rcases al7 (dg u.a m) k with hd|hd|hd
  ·have:=e2 (dg u.a m) hd (hl.dig p2).1
   simp_all
  ·simp_all
  ·exact Nat.le_of_lt (g2.slot hl (by omega))
 ·exact Nat.le_of_lt (g2.first hl I p2)
theorem WI.none (h:WI now P F) (e1:∀n' k',n'<7->k'<64->dg now n'<=k'->F n' k'=[]) (id:Int):P id=none:=by
 cases hp:P id with
 |none=>rfl
 |some u=>
  obtain⟨m,hm7,hl,hmem⟩:=h.at_ hp;have:=e1 m (dg u.a m) hm7 (BU _ _) (hl.dig (h.pl _ _ hp).2.1).1
  simp_all
theorem WI.low (h:WI now P F) {to m:Nat} (h1:now<=to) (hto:∀id u,P id=some u->to<=u.a) (hm:Lv now to m) {n k:Nat} (hn:n<m) (hn7:n<7) (hk:k<64):F n k=[]:=by
 cases hf:F n k with
 |nil=>rfl
 |cons u r=>
  obtain⟨g1,g2,_⟩:=(h.mem n k u hn7 hk).1 (by rw[hf];simp);have:=g2.first hm hn h1
  grind
def rest (P:Ps) (M:List Tm):Ps:=λid=>match P id with|some t=>if t∈M then none else some t|none=>none
theorem wO {P:Ps} {M:List Tm} {id:Int} {t:Tm}:rest P M id=some t↔P id=some t/\t∉M:=by
 unfold rest
 grind
theorem ag4 (P:Ps):rest P []=P:=by
 funext id;unfold rest
 cases P id<;>simp
theorem WI.turn (h:WI now P F) {to m:Nat} (h1:now<=to) (h2:to<=2^40) (R:∀id u,P id=some u->to<=u.a) (hm:Lv now to m):
  WI to (rest P (if m=0 then [] else F m (dg to m))) (if m=0 then F else xK F m (dg to m) []):=by
 have m7:=hm.lt h.nw h2;have low:=λ{n k:Nat}=>h.low (n:=n) (k:=k) h1 R hm;have lvl:∀u n,(∃id,P id=some u)->Lv now u.a n->n<7->(n<m->False)/\(m<n->Lv to u.a n)/\(n=m->(m=0\/dg u.a m≠dg to m)->Lv to u.a n):=by
  rintro u n ⟨id,hu⟩ hl hn7;refine⟨λN=> ?_,λN=> ?_,λe hd=> ?_⟩
  ·have:=(h.mem n (dg u.a n) u hn7 (BU _ _)).2 ⟨by rw[(h.pl _ _ hu).1];exact hu,hl,rfl⟩;rw[low N hn7 (BU _ _)] at this;simp at this
  ·refine⟨?_,.inr ?_⟩
   ·rw[<- hl.1];exact(MZ hm.1 (by omega)).symm
   ·rw[<- MZ hm.1 (show m+1<=n by omega)];rcases hl.2 with e|e
    ·omega
    ·exact e
  ·subst e;refine⟨?_,?_⟩
   ·rw[<- hl.1];exact hm.1.symm
   ·rcases hd with e|e
    ·exact .inl e
    ·refine .inr λhe=>e ?_;unfold dg;rw[he]
 have back:∀u n,(∃id,P id=some u)->Lv to u.a n->n<7->(m<n->Lv now u.a n)/\(n=m->m=0\/Lv now u.a m):=by
  rintro u n ⟨id,hu⟩ hl hn7;obtain⟨k,hk7,hk⟩:=agF now u.a h.nw (h.pl _ _ hu).2.2;have:=lvl u k ⟨id,hu⟩ hk hk7;refine⟨λN=> ?_,λe=> ?_⟩
  ·rcases al7 k m with J|J|J
   ·exact(this.1 J).elim
   ·by_cases hz:m=0\/dg u.a m≠dg to m
    ·have:=(this.2.2 J hz).uniq hl;omega
    ·exfalso;simp only[not_or,Classical.not_not] at hz;have e1:=hk.1;rw[J] at e1;have e2:to / 64^m=u.a / 64^m:=by
      have e3:=hm.1;rw[xu,xu] at e1 e3;unfold dg at hz;omega
     have:=MZ e2 (show m<=n by omega);rcases hl.2 with e|e
     ·omega
     trivial
   ·have:=(this.2.1 J).uniq hl;rw[<- this];exact hk
  ·subst e;rcases al7 k n with J|J|J
   ·simp_all
   ·simp_all
   ·have:=(this.2.1 J).uniq hl;omega
 refine⟨λid u hu=> ?_,h2,λn k u hn hk=> ?_,λn k hn hk=> ?_⟩
 ·obtain⟨g1,_⟩:=wO.1 hu;exact⟨(h.pl id u g1).1,R id u g1,(h.pl id u g1).2.2⟩
 ·rw[wO];by_cases hz:m=0
  ·rw[adZ hz,adZ hz,h.mem n k u hn hk];constructor
   ·rintro⟨g1,g2,g3⟩;refine⟨⟨g1,by simp⟩,?_,g3⟩;rcases al7 n m with I|I|I
    ·omega
    ·exact(lvl u n ⟨_,g1⟩ g2 hn).2.2 I (.inl hz)
    ·exact(lvl u n ⟨_,g1⟩ g2 hn).2.1 I
   ·rintro⟨⟨g1,_⟩,g2,g3⟩;refine⟨g1,?_,g3⟩;rcases al7 n m with I|I|I
    ·omega
    ·subst I;subst hz;refine⟨?_,.inl rfl⟩;rw[hm.1];exact g2.1
    ·exact(back u n ⟨_,g1⟩ g2 hn).1 I
  ·rw[acZ hz,acZ hz];have inM:∀u,u∈F m (dg to m)↔P u.id=some u/\Lv now u.a m/\dg u.a m=dg to m:=λu=>h.mem m _ u m7 (BU _ _);unfold xK;split
   ·grind
   ·rename_i U;rw[h.mem n k u hn hk];constructor
    ·rintro⟨g1,g2,g3⟩;have O:u∉F m (dg to m):=λhx=>by
      obtain⟨_,q2,q3⟩:=(inM u).1 hx;have:=g2.uniq q2
      simp_all
     refine⟨⟨g1,O⟩,?_,g3⟩;rcases al7 n m with I|I|I
     ·exact((lvl u n ⟨_,g1⟩ g2 hn).1 I).elim
     ·refine(lvl u n ⟨_,g1⟩ g2 hn).2.2 I (.inr λe=>U ⟨I,?_⟩)
      simp_all
     ·exact(lvl u n ⟨_,g1⟩ g2 hn).2.1 I
    ·rintro⟨⟨g1,g2⟩,g3,g4⟩;refine⟨g1,?_,g4⟩;rcases al7 n m with I|I|I
     ·exfalso;obtain⟨j,hj7,hj⟩:=agF now u.a h.nw (h.pl _ _ g1).2.2;have:=lvl u j ⟨_,g1⟩ hj hj7;rcases al7 j m with q|q|q
      ·simp_all
      ·by_cases hd:dg u.a m=dg to m
       ·simp_all
       ·have:=(this.2.2 q (.inr hd)).uniq g3;omega
      ·have:=(this.2.1 q).uniq g3;omega
     ·rcases(back u n ⟨_,g1⟩ g3 hn).2 I with e|e
      ·exact absurd e hz
      ·rw[I];exact e
     ·exact(back u n ⟨_,g1⟩ g3 hn).1 I
 ·by_cases hz:m=0
  ·rw[adZ hz];exact h.nd n k hn hk
  ·rw[acZ hz];unfold xK;split
   ·simp
   ·exact h.nd n k hn hk
theorem aeU {P:Ps} {t:Tm} {M:List Tm} (hp:P t.id=some t) (hid:∀id u,P id=some u->u.id=id) (ht:t∉M):G9 (rest P (t::M)) t.id (some t)=rest P M:=by
 funext id;unfold G9;split
 ·rename_i e;subst e;exact(wO.2 ⟨hp,ht⟩).symm
 ·rename_i e;unfold rest
  grind
theorem WI.adh (h:WI now P F) {t:Tm}:t∈F 0 (dg now 0)↔P t.id=some t/\t.a=now:=by
 rw[h.mem 0 _ t (by omega) (BU _ _)];constructor
 ·rintro⟨h1,h2,h3⟩;refine⟨h1,?_⟩;have:=h2.1;unfold dg at h3;omega
 ·rintro⟨h1,h2⟩;rw[h2];exact⟨h1,Lv.self now,rfl⟩
theorem WI.due (h:WI now P F):WI now (rest P (F 0 (dg now 0))) (xK F 0 (dg now 0) []):=by
 refine⟨λid u hu=>h.pl id u (wO.1 hu).1,h.nw,λn k u hn hk=> ?_,λn k hn hk=> ?_⟩
 ·rw[wO];unfold xK;split
  ·rename_i e;obtain⟨rfl,rfl⟩:=e;constructor
   ·simp
   ·rintro⟨⟨g1,g2⟩,g3,g4⟩;exact(g2 ((h.mem 0 _ u hn hk).2 ⟨g1,g3,g4⟩)).elim
  ·rename_i hne;rw[h.mem n k u hn hk];constructor
   ·rintro⟨g1,g2,g3⟩;refine⟨⟨g1,λhx=> ?_⟩,g2,g3⟩;obtain⟨_,q2,q3⟩:=(h.mem 0 _ u (by omega) (BU _ _)).1 hx;have:=g2.uniq q2
    simp_all
   simp_all
 ·unfold xK;split
  ·simp
  ·exact h.nd n k hn hk
end Gp.Wh
end
section
namespace Go.Proofs.WN
open Gp Gp.Wh
abbrev eT (t:Tm):List Value:=[Β t.id,Β (t.a:Int),Β t.tn]
theorem qh (t:Tm):(eT t).length=3:=rfl
theorem Y2 (t:Tm):∀v∈eT t,iP v=true:=by
 intro v hv;simp only[eT,agI,ajr,alf] at hv;rcases hv with rfl|rfl|rfl<;>rfl
theorem kJ {f:FuncId} {cap:Array Value} {sh:List Shape} {args:List Value} {w:θ} {K:Value->b_} (hb:o9 υ f=true) (h:Ii υ sh f (args++cap.toList) w K):
  jF υ sh (.func (.func f) #[] cap) args w K:=by
 unfold jF;simp only[hb,abt];exact h
theorem SlN_ix {α:Type} {n:Nat} {f:α->List Value} {w:θ} {s:gG} {xs:List α} (hn:∀x,(f x).length=n) (hn0:0<n) (h:ny n f w s xs) {i:Int} {K:Addr->Prop} {x:α} (h0:0<=i) (hx:xs[i.toNat]? =some x)
  (hK:∀a:Addr,(∀j v,(f x)[j]? =some v->w.cell? (a.add j)=some v)->K a):iK s n i K:=by
 obtain⟨a,ha,hc⟩:=h.at_ hn hn0 hx;have hlt:=(afg.1 hx).1;obtain⟨sa,sl,sc⟩:=s;simp only at ha;subst ha;have hl:sl=xs.length:=h.len;refine(yg ..).2 ⟨h0,by omega,hK _ λj v hj=> ?_⟩;rw[<- hc j v hj];congr 1;obtain⟨b,o,t⟩:=a;unfold Addr.add;by_cases h1:i.toNat * n=0<;>by_cases h2:j=0<;>simp[h1,h2,al8]
theorem XT {w:θ} {s:gG} {l:List Tm} (h:ny 3 eT w s l) {k:Nat} {z:Tm} (hk:l[k]? =some z) {K:Addr->Prop} (hK:∀a,w.cell? (a.add 0)=some (Β z.id)->w.cell? (a.add 1)=some (Β (z.a:Int))->w.cell? (a.add 2)=some (Β z.tn)->K a):iK s 3 (k:Int) K:=
 SlN_ix qh (by omega) h (by omega) (by trivial) λa hc=>hK a (hc 0 _ rfl) (hc 1 _ rfl) (hc 2 _ rfl)
theorem OG (a:Int) (w:θ):nD a w λr w'=>r=false/\w'=w:=by
 apply EX;simp
def YV (a b:Int):Int:=if a<b then -1 else if a>b then 1 else 0
theorem Uc (a b:Int) (w:θ):sG a b w λr w'=>r=YV a b/\w'=w:=by
 apply Nv;refine cmS0 (OG _ _) ?_;rintro r w1 ⟨rfl,hw⟩;subst hw;refine cmS0 (OG _ _) ?_;rintro r w1 ⟨rfl,hw⟩;subst hw;unfold YV;by_cases h1:a<b
 ·simp only[h1,acI,abt,aaf,ajn];trivial
 ·by_cases h2:a>b
  ·simp only[h1,h2,acI,acR,abt,aaf,ajn,aku];trivial
  ·simp only[h1,h2,acR,aaf,aku];trivial
def FnT (v:Value) (C:b_) (p:Tm->Bool):Prop:=∀x W (K:Value->b_),C W->(∀W',Ext W W'->K (.bool (p x)) W')->jF υ [.one .bool] v [.agg ⟨eT x⟩] W K
theorem oG {w:θ} {s:gG} {xs:List Tm} (hs:ny 3 eT w s xs) (hl:xs.length<=2^30):
  j_ s w λr w'=>Ext w w'/\jc 3 eT w' r xs/\∀b,gG.at r b->w.heap.size<=b:=by
 apply sV;have hlen:=hs.len
 cases ha:s.a with
 |none=>
  have hc:=hs.cells;rw[ha] at hc;have h0:=hc;have u:=jh eT 3 qh xs;rw[h0] at u;have:xs=[]:=by
   cases xs with
   |nil=>rfl
   |cons _ _=>trivial
  subst this;simp only[ana,abt];exact⟨Ext.refl _,jc.nil,λb ⟨o,hb⟩=>by cases hb⟩
 |some a=>
  simp only[amG,aaf];refine gU λt w1 rt et zt f1=> ?_;have hb:jc 3 eT w1 ⟨some ⟨t,0,none⟩,0,0⟩ ([]:List Tm):=jc.row (xs:=[]) rt;refine mO qh hb (hs.ext f1) rfl (by omega) Y2 (by grind) (by grind) λs' w' h1 h2 h3=> ?_;refine⟨f1.new h2 λb hb ⟨o,he⟩=>by simp_all,h1,λb hb=> ?_⟩;rcases h3 b hb with ⟨o,he⟩|h
  ·simp_all
  ·omega
theorem ajO {w:θ} {s:gG} {xs:List Tm} {v:Value} {p:Tm->Bool} {C:b_} (hs:ny 3 eT w s xs) (hl:xs.length<=2^30) (hp:FnT v C p) (hC:∀W,Ext w W->C W):
  jM s v w λr w'=>((r= -1/\xs.any p=false)\/∃j:Nat,r=(j:Int)/\j<xs.length/\(xs.take j).any p=false/\(xs.take (j+1)).filter (λx=> !p x)=xs.take j)/\Ext w w':=by
 apply qB;have hlen:=hs.len;refine g_ (λst W=>∃j:Nat,j<=xs.length/\st.1=(j:Int)/\Ext w W/\(xs.take j).any p=false) (λst _=>(s.len - st.1).toNat) ⟨0,by omega,rfl,Ext.refl _,by simp⟩ ?_;rintro⟨i,⟨⟩⟩ W ⟨j,hj,hi,hx,hm⟩ next h
 simp only at hi;subst hi;by_cases I:(j:Int)<(s.len:Int)
 ·simp only[I,acI,abt];have u:=adP (show j<xs.length by omega);generalize xs[j]=x at u;have htk:xs.take (j+1)=xs.take j++[x]:=by rw[al3,u];rfl
  refine XT (hs.ext hx) u λa c0 c1 c2=> ?_;simp only[sx,c0,c1,c2];refine hp x W _ (hC W hx) λW' hf=>⟨p x,rfl,?_⟩
  cases he:p x
  ·simp only[aaf];rw[Α];refine h _ _ ⟨j+1,by omega,by simp,hx.trans hf,?_⟩ (by omega)
   simp_all
  ·simp only[abt];refine⟨.inr ⟨j,rfl,by omega,hm,?_⟩,hx.trans hf⟩
   simp_all
 ·simp only[I,acR,aaf]
  grind
theorem adS {w:θ} {b o n c:Nat} {L:List Value} {K:b_} (hr:Row w b L) (ho:o+n * 3<=L.length) (hK:∀w',Row w' b (spl L o (iw anm n))->ig w w' (·=b)->K w'):JX anm ⟨some ⟨b,o,none⟩,n,c⟩ w K:=by
 have hrl:(iw [Β 0,Β 0,Β 0] n).length=n * 3:=by rw[n_];rfl
 refine⟨?_,by trivial,?_⟩
 ·rintro a ha
  cases ha
  intro j hj;simp only[ajg,amn] at hj;rw[gY,hr.cell];exact⟨by simp;omega,hr.frozen _⟩
 ·obtain⟨r,f⟩:=xJ (iw [Β 0,Β 0,Β 0] n) w L o 0 hr (by omega);refine hK _ ?_ (f (·=b) rfl);simpa [spl] using r
theorem YZ {w:θ} {s:gG} {xs:List Tm} {v:Value} {p:Tm->Bool} {C:b_} (hs:jc 3 eT w s xs) (hl:xs.length<=2^30) (hp:FnT v C p) (hC:∀W,ig w W (gG.at s)->C W):
  iR s v w λr w'=>jc 3 eT w' r (xs.filter λx=> !p x)/\ig w w' (gG.at s)/\∀b,gG.at r b->gG.at s b:=by
 apply qy;have hlen:=hs.len;have af:=hs.sl qh (by omega);have Z:=af.cap;refine cmS1 (ajO af hl hp λW hx=>hC W (hx _)) ?_;rintro r w1 ⟨h,x1⟩;have hs1:=hs.ext x1;rcases h with ⟨rfl,hno⟩|⟨i0,rfl,hi0,hany,aa⟩
 ·rw[show ((-1:Int)== -1)=true from rfl,abt];refine⟨?_,x1 _,λb hb=>hb⟩;rw[ane.2 (λy hy=>by simp_all)];exact hs1
 rw[show ((i0:Int)== -1)=false from amH.2 (by omega),aaf];obtain⟨b,pad,ha,hc,hr⟩:∃b pad,s.a=some ⟨b,0,none⟩/\s.cap * 3=xs.length * 3+pad.length/\Row w1 b (xs.flatMap eT++pad):=by
  rcases hs1.mem with ⟨_,h,_⟩|h
  ·simp_all
  ·exact h
 obtain⟨sa,sl,sc⟩:=s;simp only at ha hc hlen Z;subst ha;subst hlen;rw[Α];have ag:∀{W},ig w1 W (·=b)->ig w W (gG.at ⟨some ⟨b,0,none⟩,xs.length,sc⟩):=λhf=>(x1 _).trans (hf.mono λc hc=>⟨0,by rw[hc]⟩) λ_ _ h=>h;have fl3:=λys=>jh eT 3 qh ys;refine g_ (λst W=>∃j:Nat,j<=xs.length/\st.2.1=(j:Int)/\st.1=(((xs.take j).filter λx=> !p x).length:Int)/\((xs.take j).filter λx=> !p x).length<j/\ig w1 W (·=b)/\∃mid,mid.length=(j - ((xs.take j).filter λx=> !p x).length) * 3/\Row W b (((xs.take j).filter λx=> !p x).flatMap eT++(mid++((xs.drop j).flatMap eT++pad))))
  (λst _=>(xs.length - st.2.1).toNat) ⟨i0+1,by omega,by simp,by grind,by grind,ig.refl _ _,?_⟩ ?_
 ·rw[aa,ajH,amb (by omega)];refine⟨eT xs[i0],by simp,?_⟩;have:xs.flatMap eT=(xs.take i0).flatMap eT++(eT xs[i0]++(xs.drop (i0+1)).flatMap eT):=by
   conv=>lhs;rw[<- aks i0 xs,amc hi0,alR,alx]
  rw[this] at hr;simpa only [aky] using hr
 rintro⟨i',j',⟨⟩⟩ W ⟨j,hj,hj1,hi1,hij,hf,mid,N,O⟩ next I
 simp only at hj1 hi1;subst hj1 hi1;generalize ab:(xs.take j).filter (λx=> !p x)=kp at *;by_cases ah:(j:Int)<(xs.length:Int)
 ·rw[aff ah,abt];intro J;have hx:=adP (show j<xs.length by omega);have ai:=amc (show j<xs.length by omega);generalize xs[j]=x at hx ai;have htk:xs.take (j+1)=xs.take j++[x]:=by grind
  rw[ai,alx] at O;have u:∀m,m<3->W.cell? ⟨b,j * 3+m,none⟩=(eT x)[m]? :=by
   intro m hm;rw[O.cell,alh (by grind),alh (by grind),fl3,N,show j * 3+m - kp.length * 3 - (j - kp.length) * 3=m by omega,aky,alT (by trivial)]
  have q0:=u 0 (by omega);have q1:=u 1 (by omega);have q2:=u 2 (by omega);simp only[akC,eT,d_] at q0 q1 q2;refine(yg _ xs.length sc _ (j:Int) _).2 ⟨by omega,by omega,?_⟩;rw[gY,ahn,abu];simp -zeta only[sx,q0,q1,q2];refine D5 rfl rfl λz w2 r2 e2 z2 f2=> ?_;simp -zeta only[sx,r2.cell];have hf2:=hf.ext f2;refine hp x w2 _ (hC w2 (ag hf2)) λw3 f3=>⟨p x,rfl,?_⟩;have hf3:=hf2.ext f3;have r3:=r2.ext f3;have R:=(O.ext f2).ext f3
  cases he:p x
  ·rw[afk,abt];simp -zeta only[d_,gJ,gK,r3.cell];have Y:(xs.take (j+1)).filter (λx=> !p x)=kp++[x]:=by simp_all
   refine⟨by omega,by omega,?_⟩;rw[abu];refine Sz (eT x) w3 _ (kp.length * 3) 0 R (Y2 x) (by grind) λW2 rr2 g2 zz2=> ?_;obtain⟨m0,m1,aj,hm0⟩:∃m0 m1,mid=m0++m1/\m0.length=3:=⟨mid.take 3,mid.drop 3,(aks ..).symm,by simp_all;omega⟩;subst aj;have ak:∀(A B C D:List Value),B.length=3->A.length=kp.length * 3->(A++(B++C++D)).take (kp.length * 3+0)++eT x++(A++(B++C++D)).drop (kp.length * 3+0+(eT x).length)=A++(eT x++(C++D)):=by
    intro A B C D hB hA;rw[akC,<- hA,List.take_left' rfl,qh,<- hB,<- List.drop_drop,List.drop_left' rfl,aky B,List.drop_left' rfl,aky]
   rw[ak _ _ _ _ hm0 (fl3 kp)] at rr2;simp only[J];rw[Α,Α];rw[ahP,hm0] at N;refine I _ _ ⟨j+1,by omega,by simp,by simp_all,by simp_all,hf3.trans (g2 (·=b) rfl) λ_ _ e=>e,m1++eT x,by simp_all;omega,?_⟩ (by grind);rw[Y,alR];simpa [aky] using rr2
  ·rw[adt,aaf];have Y:(xs.take (j+1)).filter (λx=> !p x)=kp:=by simp_all
   simp only[J];rw[Α];refine I _ _ ⟨j+1,by omega,by simp,by rw[Y],by grind,hf3,mid++eT x,by grind,?_⟩ (by grind);rw[Y];simpa only [aky] using R
 ·rw[adX ah,aaf];have am:j=xs.length:=by omega
  subst am;rw[alo] at ab;rw[List.drop_length,List.flatMap_nil,amd] at O;refine⟨by omega,by grind,by simp_all,?_⟩;simp only[abu];have an:sc≠kp.length:=by omega
  have ac:rP (some (⟨b,0,none⟩:Addr)) sc kp.length 3=some ⟨b,kp.length * 3,none⟩:=by
   unfold rP;rw[acZ an,ahF,gY,ahn]
  rw[ac];refine adS O (by simp_all) λW2 r2 g2=> ?_;have hrl:(iw [Β 0,Β 0,Β 0] (xs.length - kp.length)).length=(xs.length - kp.length) * 3:=by rw[n_];rfl
  have ae:spl (kp.flatMap eT++(mid++pad)) (kp.length * 3) (iw [Β 0,Β 0,Β 0] (xs.length - kp.length))=kp.flatMap eT++(iw [Β 0,Β 0,Β 0] (xs.length - kp.length)++pad):=by
   have:=KI (A:=kp.flatMap eT) (B:=mid) (C:=pad) (vs:=iw [Β 0,Β 0,Β 0] (xs.length - kp.length)) (by omega)
   simp_all
  rw[ae] at r2;refine⟨by trivial,by omega,by grind,?_⟩;have U:rP (some (⟨b,0,none⟩:Addr)) sc 0 3=some ⟨b,0,none⟩:=by
   unfold rP;split<;>simp[Addr.add]
  simp only[abu,amI,amg,U];refine⟨⟨by rw[ab],.inr ⟨b,iw [Β 0,Β 0,Β 0] (xs.length - kp.length)++pad,rfl,?_,?_⟩⟩,ag (hf.trans g2 λ_ _ e=>e),λc hc=> ?_⟩
  ·grind
  ·rw[ab];exact r2
  ·obtain⟨o,e⟩:=hc;exact⟨o,e⟩
theorem aj1 {w:θ} {s:gG} {xs:List Tm} (hs:ny 3 eT w s xs) (hl:xs.length<=2^30) (R:xs≠[]):
  jY s (Value.func (.func Je) #[] #[]) w λ _ r1 _ w'=>Ext w w'/\∃t∈xs,r1=(t.a:Int)/\∀u∈xs,t.a<=u.a:=by
 apply rM;have hlen:=hs.len;have N:=List.length_pos_iff.2 R;refine gU λp4 w1 r1 e1 z1 f1=> ?_;rw[adX (by omega),aaf];have hx0:=adP N;generalize xs[0]=x0 at hx0;refine XT (hs.ext f1) hx0 λa c0 c1 c2=> ?_;simp -zeta only[sx,c0,c1,c2];refine D5 rfl rfl λpm w2 r2 e2 z2 f2=> ?_;have x2:=f1.trans f2;have z1':=f2.size;refine g_ (λst W=>∃j:Nat,j<=xs.length/\st.1=(j:Int)/\ig w2 W (·=pm)/\∃t∈xs,Row W pm (eT t)/\∀u∈xs.take j,t.a<=u.a) (λst _=>(s.len - st.1).toNat)
  ⟨1,by omega,rfl,ig.refl _ _,x0,als hx0,r2,λu hu=> ?_⟩ ?_
 ·obtain⟨k,hk,he⟩:=am0.1 hu
  grind
 rintro⟨i,⟨⟩⟩ W ⟨j,hj,hi,hf,t,ht,rt,I⟩ next h
 simp only at hi;subst hi;have xW:=x2.new hf λy hy e=>by omega
 by_cases O:(j:Int)<(s.len:Int)
 ·rw[aff O,abt];intro J;have hx:=adP (show j<xs.length by omega);generalize xs[j]=x at hx;have htk:xs.take (j+1)=xs.take j++[x]:=by rw[al3,hx];rfl
  have xWd:=xW.trans (Ext.drew W);refine XT (hs.ext xW) hx λa c0 c1 c2=> ?_;have rtd:=rt.drew;have d0:W.drew.cell? (a.add 0)=_:=c0;have d1:W.drew.cell? (a.add 1)=_:=c1;have d2:W.drew.cell? (a.add 2)=_:=c2;simp -zeta only[sx,d0,d1,d2,rtd.cell];refine kJ (by kernel_rfl) ?_;have call:zQ x.id x.a x.tn t.id t.a t.tn W.drew λr W'=>r=YV (x.a:Int) (t.a:Int)/\Ext W.drew W':=by
   apply Ic;refine gU λp W1 q1 _ _ g1=>gU λp' W2 q2 _ _ g2=> ?_;have q1:=q1.ext g2;simp only[sx,q1.cell,q2.cell];refine cmS1 (Uc _ _ _) ?_;rintro r W3 ⟨rfl,hw⟩;subst hw;exact⟨rfl,g1.trans g2⟩
  refine Calls.mono call ?_;rintro e W3 ⟨r,he,rfl,g3⟩;refine⟨_,he,_,rfl,?_⟩;have hf3:=(hf.ext (Ext.drew W)).ext g3;have xW3:=xWd.trans g3;have rt3:=rtd.ext g3;by_cases hc:x.a<t.a
  ·have hc1:YV (x.a:Int) (t.a:Int)<0:=by unfold YV;omega
   rw[aff hc1,abt];refine XT (hs.ext xW3) hx λa c0 c1 c2=> ?_;simp -zeta only[c0,c1,c2,gJ,gK];refine gZ rt3 rfl rfl λW4 r4 g4 z4=> ?_;simp only[J];rw[Α];refine h _ _ ⟨j+1,by omega,by simp,hf3.trans (g4 (·=pm) rfl) λ_ _ e=>e,x,als hx,r4,λu hu=> ?_⟩ (by omega)
   grind
  ·have hc1:¬YV (x.a:Int) (t.a:Int)<0:=by
    unfold YV;omega
   rw[adX hc1,aaf];simp only[J];rw[Α];refine h _ _ ⟨j+1,by omega,by simp,hf3,t,ht,rt3,λu hu=> ?_⟩ (by omega)
   grind
 ·rw[adX O,aaf];rw[ali (by omega)] at I;simp only[sx,rt.cell];have r1W:=(r1.ext f2).fr hf (by omega);refine gZ r1W rfl rfl λW4 r4 g4 z4=> ?_;simp only[d_,gJ,gK,r4.cell];exact⟨xW.new (g4 (·=p4) rfl) λy hy e=>by omega,t,ht,by trivial,I⟩
end Go.Proofs.WN
end
section
namespace Go.Proofs.WN
open Gp Gp.Wh
theorem ώ {a b:Nat} (ha:a<2^63) (hb:b<2^63):Wu .i64 (a:Int) (b:Int)=((a^^^b:Nat):Int):=by
 unfold Wu;have h1:(BitVec.ofInt (IntKind.bits .i64) (a:Int)).toNat=a:=by rw[Io,alZ];omega
 have h2:(BitVec.ofInt (IntKind.bits .i64) (b:Int)).toNat=b:=by rw[Io,alZ];omega
 rw[BitVec.toNat_xor,h1,h2];have:=ang ha hb;rw[Α]
theorem p64 (n:Nat):2^(6 * n)=64^n:=by rw[Nat.pow_mul]
theorem adO (a b n:Nat):(a^^^b) / 64^n=(a / 64^n)^^^(b / 64^n):=by
 rw[<- p64,<- ank,<- ank,<- ank,Nat.shiftRight_xor_distrib]
theorem xor_zero {a b:Nat}:a^^^b=0↔a=b:=by
 constructor
 ·intro h;refine Nat.eq_of_testBit_eq λi=> ?_;have:=congrArg (λx=>Nat.testBit x i) h
  grind
 simp_all
theorem aaj {now a:Nat} (h1:now<=2^40) (h2:a<=2^40) (w:θ):zA now a w λr w'=>(∃n:Nat,r=(n:Int)/\Lv now a n)/\w'=w:=by
 apply VD;rw[ώ (by omega) (by omega)];have hx:now^^^a<2^41:=ang (by omega) (by omega);refine g_ (λst W=>W=w/\∃n:Nat,st.1=(n:Int)/\st.2.1=(((now^^^a) / 64^n:Nat):Int)/\n<=7/\(n=0\/now / 64^n≠a / 64^n)) (λst _=>st.2.1.toNat) ⟨rfl,0,rfl,by simp,by omega,.inl rfl⟩ ?_;rintro⟨i,d,⟨⟩⟩ W ⟨rfl,n,hi,hd,hn,I⟩ next h
 simp only at hi hd;subst hi hd;generalize hD:(now^^^a) / 64^n=D;have e1:(now^^^a) / 64^(n+1)=D / 64:=by rw[xu,hD]
 by_cases u:(D:Int)>=64
 ·rw[aff u,abt];refine⟨by omega,?_⟩;have hD7:n<7:=by
   grind
  rw[Α,show (6:Int)=((6:Nat):Int) from rfl,DY (by omega)];refine h _ _ ⟨rfl,n+1,by simp,by rw[e1],by omega,.inr λhe=> ?_⟩ (by grind);rw[adO,he,Nat.xor_self] at e1;omega
 ·rw[adX u,aaf];refine⟨⟨n,rfl,?_,I⟩,rfl⟩;have:D / 64=0:=Nat.div_eq_of_lt (by omega);rw[this,adO,xor_zero] at e1;exact e1
def Ϯ (k:Int):Value:= Β k
def slV (s:gG):Value:= Δ s
def evT (t:Tm):Value:= .agg ⟨eT t⟩
theorem eqW (a b:Int):Fz υ 16 3 (Ϯ a) (Ϯ b)=some (decide (a=b)):=by
 have h:Fz υ 16 3 (Β a) (Β b)=some (a==b):=by kernel_rfl
 rw[Ϯ,Ϯ,h];congr 1
theorem Zh (a:Int):oJ υ 3 (Ϯ a)=true:=by
 have h:oJ υ 3 (Β a)=true:=by kernel_rfl
 exact h
theorem XQ {α β:Type} [DecidableEq α] {enc:α->Value} {ev:β->Value} {w:θ} {r:Nat} {l:List (α×β)} {P:Program} {kt:TypeId} (h:rV enc ev w r l) (hE:∀a b:α,Fz P 16 kt (enc a) (enc b)=some (decide (a=b))) (a:α) (hk:oJ P kt (enc a)=true) {z:Value} {K:Value->Bool->Prop}
  (h0:mg l a=none->K z false) (h1:∀b,mg l a=some b->K (ev b) true):FC P kt (some r) (enc a) z w K:=by
 obtain⟨es,c,g1,g2,_⟩:=h;refine⟨hk,.inr ⟨r,es,c,rfl,g1,?_⟩⟩
 cases hl:mg l a with
 |none=>
  cases l with
  |nil=>
   have:es.toList=[]:=by simp_all
   exact⟨none,by rw[this];rfl,h0 hl⟩
  |cons x l'=>
   rcases OA hE a x.2 es.toList _ 0 g2 with ⟨_,q2,_⟩|⟨j,v,e,q1,_⟩
   ·simp_all
   simp_all
 |some b=>
  rcases OA hE a b es.toList _ 0 g2 with ⟨q1,_,_⟩|⟨j,v,e,q1,q2,_⟩
  ·simp_all
  simp_all
theorem ϗ {α β:Type} {enc:α->Value} {ev:β->Value} {w:θ} {r:Nat} {l:List (α×β)} (h:rV enc ev w r l) {K:Int->Prop} (hK:K (l.length:Int)):TJ w (some r) K:=by
 obtain⟨es,c,h1,h2,_⟩:=h;refine⟨es,c,h1,?_⟩;have:es.size=l.length:=by
  have:=congrArg List.length h2
  grind
 rw[this];exact hK
abbrev PL:=List (Int×Tm)
def atS (ss:List gG) (b:Nat):Prop:=∃(i:Nat) (s:gG),ss[i]? =some s/\gG.at s b
def qR (d m:Nat) (ss:List gG) (b:Nat):Prop:=b=d\/b=m\/atS ss b
structure WM (w:θ) (d m:Nat) (ss:List gG) (l:PL) (now:Nat) (tn most:Int) (F:Fs):Prop where
 hd:Row w d (ss.map slV++[.map (some m),Β (now:Int),Β tn,Β most])
 len:ss.length=448
 mp:rV Ϯ evT w m l
 nd:(l.map (·.1)).Nodup
 buf:∀n k,n<7->k<64->∃s,ss[n * 64+k]? =some s/\jc 3 eT w s (F n k)
 ap:∀(i j:Nat) s s' b,i≠j->ss[i]? =some s->ss[j]? =some s'->gG.at s b->¬gG.at s' b
 ne:∀b,atS ss b->b≠d/\b≠m
 dm:d≠m
 sm:∀n k,n<7->k<64->(F n k).length<=2^21
section
variable {w w':θ} {d m:Nat} {ss:List gG} {l:PL} {now:Nat} {tn most:Int} {F:Fs}
theorem WM.fr {S:Nat->Prop} (h:WM w d m ss l now tn most F) (hf:ig w w' S) (hs:∀b,qR d m ss b->¬S b):WM w' d m ss l now tn most F:=
 ⟨h.hd.fr hf (hs _ (.inl rfl)),h.len,h.mp.fr hf (hs _ (.inr (.inl rfl))),h.nd,λn k hn hk=>by
  obtain⟨s,h1,h2⟩:=h.buf n k hn hk;exact⟨s,h1,h2.fr hf λb hb=>hs b (.inr (.inr ⟨_,s,h1,hb⟩))⟩,h.ap,h.ne,h.dm,h.sm⟩
theorem WM.ext (h:WM w d m ss l now tn most F) (hf:Ext w w'):WM w' d m ss l now tn most F:=h.fr (hf λ_=>False) (λ_ _=>by simp)
theorem WM.aiL (h:WM w d m ss l now tn most F) {b:Nat} (hb:atS ss b):∃n k s,n<7/\k<64/\ss[n * 64+k]? =some s/\gG.at s b/\jc 3 eT w s (F n k):=by
 obtain⟨i,s,hi,hs⟩:=hb;have hlt:=(afg.1 hi).1;have hl:=h.len;obtain⟨s',h1,h2⟩:=h.buf (i / 64) (i % 64) (by omega) (by omega)
 grind
theorem WM.lt (h:WM w d m ss l now tn most F) {b:Nat} (hb:qR d m ss b):b<w.heap.size:=by
 rcases hb with rfl|rfl|hb
 ·exact h.hd.lt
 ·exact h.mp.lt
 ·obtain⟨n,k,s,_,_,_,h1,h2⟩:=h.aiL hb;exact h2.lt h1
theorem WM.Ϧ (h:WM w d m ss l now tn most F):w.cell? ⟨d,448,none⟩=some (.map (some m)):=by
 rw[h.hd.cell,alh (by rw[aiz,h.len];omega),aiz,h.len];rfl
theorem WM.YS (h:WM w d m ss l now tn most F):w.cell? ⟨d,449,none⟩=some (Β (now:Int)):=by
 rw[h.hd.cell,alh (by rw[aiz,h.len];omega),aiz,h.len];rfl
theorem WM.ajC (h:WM w d m ss l now tn most F):w.cell? ⟨d,450,none⟩=some (Β tn):=by
 rw[h.hd.cell,alh (by rw[aiz,h.len];omega),aiz,h.len];rfl
theorem WM.alu (h:WM w d m ss l now tn most F):w.cell? ⟨d,451,none⟩=some (Β most):=by
 rw[h.hd.cell,alh (by rw[aiz,h.len];omega),aiz,h.len];rfl
theorem WM.cs (h:WM w d m ss l now tn most F) {i:Nat} {s:gG} (hi:ss[i]? =some s):w.cell? ⟨d,i,none⟩=some (Δ s):=by
 have hlt:=(afg.1 hi).1;rw[h.hd.cell,alT (by simp_all),aiK,hi];rfl
theorem WM.aiH (h:WM w d m ss l now tn most F) {n k:Nat} (hn:n<7) (hk:k<64) {s:gG} (hs:ss[n * 64+k]? =some s) {w1:θ} {s':gG} {L:List Tm} {S:Nat->Prop} (hf:ig w w1 S) (hS:∀b,qR d m ss b->S b->gG.at s b)
  (hb:jc 3 eT w1 s' L) (N:∀b,gG.at s' b->gG.at s b\/w.heap.size<=b) (hL:L.length<=2^21) {K:b_}
  (hK:∀w2,WM w2 d m (ss.set (n * 64+k) s') l now tn most (xK F n k L)->ig w1 w2 (·=d)->w2.heap.size=w1.heap.size->K w2):St w1 ⟨d,n * 64+k,none⟩ (.slice s'.a s'.len s'.cap) K:=by
 have hl:=h.len;have hix:n * 64+k<ss.length:=by omega
 have atd:=λe=>(h.ne d ⟨_,s,hs,e⟩).1 rfl;have atm:=λe=>(h.ne m ⟨_,s,hs,e⟩).2 rfl;have hd1:=h.hd.fr hf λe=>atd (hS d (.inl rfl) e);have I:∀j,(ss.set (n * 64+k) s')[j]? =if n * 64+k=j then some s' else ss[j]? :=λj=>by
  grind
 refine iC hd1 rfl (by grind) λw2 r2 f2 z2=> ?_;have f2d:=f2 (·=d) rfl;rw[List.set_append_left _ _ (by simp_all),<- (show (ss.set (n * 64+k) s').map slV=(ss.map slV).set (n * 64+k) (Value.slice s'.a s'.len s'.cap) from List.map_set)] at r2;have s'd:∀b,gG.at s' b->b≠d/\b≠m:=λb hb'=>by
  rcases N b hb' with e|e
  ·grind
  ·have q1:=h.lt (.inl rfl:qR d m ss d);have q2:=h.lt (.inr (.inl rfl):qR d m ss m);omega
 have s'o:∀b j u,j≠n * 64+k->ss[j]? =some u->gG.at u b->¬gG.at s' b:=λb j u hj hu J hb'=>by
  rcases N b hb' with e|e
  ·exact h.ap j _ u s b hj hu hs J e
  ·have:=h.lt (.inr (.inr ⟨j,u,hu,J⟩):qR d m ss b);omega
 refine hK w2 ⟨r2,by simp_all,(h.mp.fr hf λe=>atm (hS m (.inr (.inl rfl)) e)).fr f2d (λe=>h.dm e.symm),h.nd,λn' k' hn' hk'=> ?_,λi j u u' b O hi hj hu hu'=> ?_,λb hb'=> ?_,h.dm,λn' k' hn' hk'=> ?_⟩ f2d z2
 ·rw[I];unfold xK;by_cases e:n'=n/\k'=k
  ·rw[adZ e,adZ (by rw[e.1,e.2])];exact⟨s',rfl,hb.fr f2d λb hb'=>(s'd b hb').1⟩
  ·rw[acZ e,acZ (by omega)];obtain⟨u,h1,h2⟩:=h.buf n' k' hn' hk';refine⟨u,h1,(h2.fr hf λb J R=> ?_).fr f2d λb J=>(h.ne b ⟨_,u,h1,J⟩).1⟩;exact h.ap _ _ u s b (by omega) h1 hs J (hS b (.inr (.inr ⟨_,u,h1,J⟩)) R)
 ·rw[I] at hi hj;split at hi
  ·grind
  ·rename_i e1;split at hj
   ·grind
   ·exact h.ap i j u u' b O hi hj hu hu'
 ·obtain⟨j,u,hj,hu⟩:=hb';rw[I] at hj;split at hj
  ·simp_all
  ·exact h.ne b ⟨j,u,hj,hu⟩
 ·unfold xK;split
  ·exact hL
  ·exact h.sm n' k' hn' hk'
theorem WM.setH (h:WM w d m ss l now tn most F) {now':Nat} {tn':Int} {j:Nat} {v:Value} (hv:iP v=true) (hj:(ss.map slV++[Value.map (some m),Β (now:Int),Β tn,Β most]).set j v=ss.map slV++[Value.map (some m),Β (now':Int),Β tn',Β most]) (hj2:j<452) {K:b_}
  (hK:∀w2,WM w2 d m ss l now' tn' most F->ig w w2 (·=d)->w2.heap.size=w.heap.size->K w2):St w ⟨d,j,none⟩ v K:=by
 refine iC h.hd hv (by rw[ahP,aiz,h.len];exact hj2) λw2 r2 f2 z2=> ?_;rw[hj] at r2;have f2d:=f2 (·=d) rfl;exact hK w2 ⟨r2,h.len,h.mp.fr f2d (λe=>h.dm e.symm),h.nd,λn k hn hk=>by
  obtain⟨s,h1,h2⟩:=h.buf n k hn hk;exact⟨s,h1,h2.fr f2d λb hb=>(h.ne b ⟨_,s,h1,hb⟩).1⟩,h.ap,h.ne,h.dm,h.sm⟩ f2d z2
theorem WM.akf (h:WM w d m ss l now tn most F) (now':Nat) {K:b_}
  (hK:∀w2,WM w2 d m ss l now' tn most F->ig w w2 (·=d)->w2.heap.size=w.heap.size->K w2):St w ⟨d,449,none⟩ (Β (now':Int)) K:=
 h.setH rfl (by rw[ami _ _ (by rw[aiz,h.len];omega),aiz,h.len];rfl) (by omega) hK
theorem WM.ak_ (h:WM w d m ss l now tn most F) (tn':Int) {K:b_}
  (hK:∀w2,WM w2 d m ss l now tn' most F->ig w w2 (·=d)->w2.heap.size=w.heap.size->K w2):St w ⟨d,450,none⟩ (Β tn') K:=
 h.setH rfl (by rw[ami _ _ (by rw[aiz,h.len];omega),aiz,h.len];rfl) (by omega) hK
theorem WM.alK (h:WM w d m ss l now tn most F) (t:Tm) {K:b_}
  (hK:∀w2,WM w2 d m ss (CS l t.id t) now tn most F->ig w w2 (·=m)->w2.heap.size=w.heap.size->K w2):pq υ 3 (some m) (Β t.id) (.agg ⟨eT t⟩) w K:=
 zJ h.mp eqW t.id t (Zh _) λw2 g2 f2 z2=>hK w2 ⟨h.hd.fr f2 h.dm,h.len,g2,Pz h.nd _ _,λn k hn hk=>by
  obtain⟨s,h1,h2⟩:=h.buf n k hn hk;exact⟨s,h1,h2.fr f2 λb hb=>(h.ne b ⟨_,s,h1,hb⟩).2⟩,h.ap,h.ne,h.dm,h.sm⟩ f2 z2
theorem WM.akO (h:WM w d m ss l now tn most F) (id:Int) {K:b_}
  (hK:∀w2,WM w2 d m ss (BR l id) now tn most F->ig w w2 (·=m)->w2.heap.size=w.heap.size->K w2):FB υ 3 (some m) (Β id) w K:=
 TI h.mp eqW id (Zh _) λw2 g2 f2 z2=>hK w2 ⟨h.hd.fr f2 h.dm,h.len,g2,h.nd.sublist ((SH l id).map _),λn k hn hk=>by
  obtain⟨s,h1,h2⟩:=h.buf n k hn hk;exact⟨s,h1,h2.fr f2 λb hb=>(h.ne b ⟨_,s,h1,hb⟩).2⟩,h.ap,h.ne,h.dm,h.sm⟩ f2 z2
theorem KL (h:WM w d m ss l now tn most F):lV (some ⟨d,0,none⟩) w λr w'=>r=true/\w'=w:=by
 apply JH;simp only[sx,h.Ϧ,afk];trivial
theorem ai2 (h:WM w d m ss l now tn most F):oW (some ⟨d,0,none⟩) w λn w'=>n=(l.length:Int)/\w'=w:=by
 apply NP;refine cmS0 (KL h) ?_;rintro _ w2 ⟨rfl,hw⟩;subst hw;simp only[sx,adt,h.Ϧ];exact ϗ h.mp ⟨by trivial,by trivial⟩
theorem afW {a n:Nat} (hn:n<7):lZ .i64 (jR .i64 (a:Int) (ο.wrap (6 * (n:Int)))) 63=((dg a n:Nat):Int)/\ο.wrap (6 * (n:Int))=((6 * n:Nat):Int):=by
 have e:ο.wrap (6 * (n:Int))=((6 * n:Nat):Int):=by rw[Α];omega
 refine⟨?_,e⟩;rw[e,DY (by omega),p64];unfold dg;have:∀x:Nat,lZ .i64 (x:Int) 63=((x % 64:Nat):Int):=by
  intro x;unfold lZ;have h1:(BitVec.ofInt (IntKind.bits .i64) (x:Int)).toNat=x % 2^64:=by rfl
  have h2:(BitVec.ofInt (IntKind.bits .i64) 63).toNat=2^6 - 1:=by rfl
  rw[amx,h1,h2,JZ,Α];omega
 exact this _
theorem Ws (h:WM w d m ss l now tn most F) (h1:now<=2^40) {a:Nat} (h2:a<=2^40):oD (some ⟨d,0,none⟩) (a:Int) w λr w'=>(∃n,n<7/\Lv now a n/\r=some ⟨d,n * 64+dg a n,none⟩)/\Ext w w':=by
 apply LV;simp only[sx,h.YS];refine cmS1 (aaj h1 h2 w) ?_;rintro r w1 ⟨⟨n,rfl,hl⟩,hw⟩;subst hw;have hn:=hl.lt h1 h2;obtain⟨e1,e2⟩:=afW hn;have hd:=BU a n;rw[e1,e2];simp only[abu,aiC];exact⟨by omega,by omega,by omega,by omega,by omega,⟨n,hn,hl,rfl⟩,Ext.drew _⟩
theorem adN (h:WM w d m ss l now tn most F) (h1:now<=2^40) (t:Tm) (h2:t.a<=2^40) (hl:∀n k,n<7->k<64->(F n k).length<2^21):
  sO (some ⟨d,0,none⟩) t.id (t.a:Int) t.tn w λw'=>ig w w' (qR d m ss)/\∃n ss',n<7/\Lv now t.a n/\WM w' d m ss' l now tn most (xK F n (dg t.a n) (F n (dg t.a n)++[t]))/\∀b,qR d m ss' b->qR d m ss b\/w.heap.size<=b:=by
 apply NR;refine gU λp w1 r1 e1 z1 f1=> ?_;have hw1:=h.ext f1;simp only[sx,r1.cell];refine cmS17 (Ws hw1 h1 h2) ?_;rintro _ w2 ⟨⟨n,hn,I,rfl⟩,f2⟩;have x2:=f1.trans (f2.trans (Ext.drew w2));have h2w:=h.ext x2;have r2:=(r1.ext f2).drew;have hk:=BU t.a n;obtain⟨s,hs,hb⟩:=h2w.buf n (dg t.a n) hn hk;have hll:=hl n (dg t.a n) hn hk;simp only[xA,d_,gJ,h_,gK,h2w.cs hs,r2.cell];refine gU λq w3 r3 e3 z3 f3=> ?_;have h3:=h2w.ext f3;simp only[afp,h3.cs hs];have J:=(jc.row (xs:=[t]) (by simpa using r3)).sl qh (by omega);refine mO qh (hb.ext f3) J rfl (by omega) Y2 (by grind) (by grind) λs4 w4 b4 f4 n4=> ?_;have x3:=x2.trans f3;refine h3.aiH hn hk hs f4 (λb _ hb=>hb) b4 n4 (by grind) λw5 h5 f5 z5=> ?_;have N:∀b,gG.at s b->qR d m ss b:=λb hb=> .inr (.inr ⟨_,s,hs,hb⟩);refine⟨((x3 (qR d m ss)).trans (f4.mono N) λ_ _ e=>e).trans f5 λb _ e=> .inl e,n,_,hn,I,h5,λb hb=> ?_⟩;rcases hb with hb|hb|⟨j,u,hj,hu⟩
 ·exact .inl (.inl hb)
 ·exact .inl (.inr (.inl hb))
 ·rw[akQ] at hj;split at hj
  ·split at hj
   ·cases hj
    rcases n4 b hu with e|e
    ·simp_all
    ·exact .inr (akK x3.size e)
   ·cases hj
  ·exact .inl (.inr (.inr ⟨j,u,hj,hu⟩))
theorem abq (h:WM w d m ss l now tn most F) (h1:now<=2^40) (t:Tm) (h2:t.a<=2^40):
  qP (some ⟨d,0,none⟩) t.id (t.a:Int) t.tn w λw'=>ig w w' (qR d m ss)/\∃n ss',n<7/\Lv now t.a n/\WM w' d m ss' l now tn most (xK F n (dg t.a n) ((F n (dg t.a n)).filter λx=> !(x.id==t.id)))/\∀b,qR d m ss' b->qR d m ss b\/w.heap.size<=b:=by
 apply LW;refine gU λp w1 r1 e1 z1 f1=> ?_;have hw1:=h.ext f1;simp only[sx,r1.cell];refine cmS17 (Ws hw1 h1 h2) ?_;rintro _ w2 ⟨⟨n,hn,J,rfl⟩,f2⟩;have x2:=f1.trans f2;have h2w:=h.ext x2;have r2:=r1.ext f2;have hk:=BU t.a n;obtain⟨s,hs,hb⟩:=h2w.buf n (dg t.a n) hn hk;have N:=h.sm n (dg t.a n) hn hk;have I:∀b,gG.at s b->qR d m ss b:=λb hb=> .inr (.inr ⟨_,s,hs,hb⟩);have hp:∀b,qR d m ss b->b≠p:=λb hb=>by have:=h.lt hb;omega
 simp only[xA,gJ,h_,h2w.cs hs];have isId:FnT (Value.func (.func Jf) #[] #[.pointer (some ⟨p,0,none⟩)]) (λW=>Row W p (eT t)) (λx=>x.id==t.id):=by
  intro x W K hC hK;refine kJ (by kernel_rfl) ?_;have:zS x.id x.a x.tn ⟨p,0,none⟩ W λr W'=>r=(x.id==t.id)/\Ext W W':=by
   apply Ie;refine gU λq W1 q1 _ _ g1=> ?_;simp only[sx,q1.cell,(hC.ext g1).cell];trivial
  refine Calls.mono this ?_;rintro e W' ⟨r,he,rfl,hf⟩;exact⟨_,he,hK W' hf⟩
 refine cmS2 (YZ hb (by omega) isId λW hf=>r2.fr hf λe=>hp p (I p e) rfl) ?_;rintro s4 w4 ⟨b4,f4,n4⟩;refine h2w.aiH hn hk hs f4 (λb _ hb=>hb) b4 (λb hb=> .inl (n4 b hb)) (akK (anf ..) N) λw5 h5 f5 z5=> ?_;refine⟨((x2 (qR d m ss)).trans (f4.mono I) λ_ _ e=>e).trans f5 λb _ e=> .inl e,n,_,hn,J,h5,λb hb=> ?_⟩;rcases hb with hb|hb|⟨j,u,hj,hu⟩
 ·exact .inl (.inl hb)
 ·exact .inl (.inr (.inl hb))
 ·rw[akQ] at hj;split at hj
  ·simp_all
  ·exact .inl (.inr (.inr ⟨j,u,hj,hu⟩))
end
end Go.Proofs.WN
end
