import Derived.Test.YtnemccmcpllhcaaGreatDoorW7
import Derived.Test.YtnemccmcpllhcaaGreatDoorW3
import Derived.Test.YtnemccmcpllhcaaGreatDoorW2
set_option maxRecDepth 100000
section
namespace Go.Proofs.SN
open Gp Gp.Hash
open Gp.Ses (Ses Slots live GoodS freeN getS ids)
open Gp.Bind (In64)
section
variable {w w':θ} {A:QZ} {most:Nat} {S:Slots} {M:ByteArray->Option Int}
theorem isId (p:Nat) (id:Int):FnI (Value.func (.func Dw) #[] #[.pointer (some ⟨p,0,none⟩)]) (λW=>Row W p [.int .i64 id]) (λx=>x==id):=by
 intro x W K hC hK;refine jZ (by kernel_rfl) ?_;have:uJ x ⟨p,0,none⟩ W λr W'=>r=(x==id)/\W'=W:=by
  apply BF;simp only[sx,hC.cell];exact⟨by trivial,by trivial⟩
 refine Calls.mono this ?_;rintro e W' ⟨r,he,rfl,hw⟩;subst hw;exact⟨_,he,hK⟩
theorem aa8 (h:TA w A most S M) (id:Int):
  qj (some ⟨A.d,0,none⟩) id w λr w'=>r=(getS S id).isSome/\gU w w' (fp A)/\∃A' S' M',TA w' A' most S' M'/\A'.d=A.d/\(∀x,fp A' x->fp A x)/\S'=(if (getS S id).isSome then S.set id.toNat none else S):=by
 apply Ec;have hl:=h.len;have hm:=h.mx;refine⟨rfl,gu λp4 w1 q1 e1 z1 f1=> ?_⟩;have h1:=h.ext f1;simp -zeta only[sx,q1.cell];refine cmS0 (YN h1 id) ?_;rintro _ w2 ⟨rfl,hw⟩;subst hw
 cases hg:getS S id with
 |none=>
  simp -zeta only[aj_,aek,Δ];exact⟨by trivial,f1 _,A,S,M,h1,rfl,λx hx=>hx,by simp⟩
 |some b=>
  obtain⟨g0,g1⟩:=Gp.Ses.nV.1 hg;have gl:=(ady.1 g1).1;have hb:=h.good.ok _ _ g1;obtain⟨i,rfl⟩:∃i:Nat,id=(i:Int):=⟨id.toNat,by omega⟩;rw[Η] at g1 gl;have x1:Ext w w2.drew:=f1.trans (Ext.drew _);have h1d:=h.ext x1;have q1d:=q1.drew;have c:∀j,j<6->_:=h1d.slot g1;have c0:=c 0 (by omega);have c1:=c 1 (by omega);have c2:=c 2 (by omega);have c3:=c 3 (by omega);have c4:=c 4 (by omega);simp only[ajt,iO,d_] at c0 c1 c2 c3 c4;simp -zeta only[sx,ajv,ab6,h1d.hd.cell,q1d.cell,Η,c0,c1,c2,c3,c4];refine⟨by omega,by omega,gu λp3 w3 r3 e3 z3 f3=> ?_⟩;have h3:=h1d.ext f3;have q3:=q1d.ext f3;have d:∀j,j<6->_:=h3.slot g1;have d0:=d 0 (by omega);have d1:=d 1 (by omega);have d2:=d 2 (by omega);have d3:=d 3 (by omega);have d4:=d 4 (by omega);simp only[ajt,iO,d_] at d0 d1 d2 d3 d4;simp -zeta only[sx,aeA,h3.hd.cell,q3.cell,d0,d1,d2,d3,d4];refine gZ r3 rfl rfl λw4 r4 f4 z4=> ?_;have z31:w2.drew.heap.size=w2.heap.size:=rfl;have zx1:=x1.size;have p34:p4≠p3:=by omega
  have x4:Ext w2 w4:=((Ext.drew w2).trans f3).new (f4 (·=p3) rfl) λy hy e=>by omega
  have x4d:Ext w w4.drew:=(f1.trans x4).trans (Ext.drew _);have h4:=h.ext x4d;have q4:Row w4.drew p4 _:=(q1.ext x4).drew;have r4d:=r4.drew;simp -zeta only[d_,fZ,gq,oM,h4.hd.cell,r4d.cell];refine cmS9 (YG _ _ _ hb _) ?_;rintro _ w5 ⟨rfl,f5⟩;have h5:=h4.ext f5;have q5:=q4.ext f5;have r5:=r4d.ext f5;simp -zeta only[aeA,d_,h5.hd.cell];obtain⟨L,tb,cL⟩:=h5.tb;obtain⟨⟨n1,n2,n3,n4,n5,n6,n7,n8,n9⟩,no⟩:=h.ne;have hp3:∀x,fp A x->x≠p3:=λx hx=>by have:=h1d.lt hx;omega
  have hp4:∀x,fp A x->x≠p4:=λx hx=>by have:=h.lt hx;omega
  refine cmS0 (Lj tb (Bind.keyS b.k) (qO _ (by simp[Ses.k]))) ?_;rintro _ w6 ⟨_,⟨L6,t6,c6⟩,f6⟩;have hM:M (Bind.keyS b.k)=some (i:Int):=(h.good.k _ _).2 ⟨_,b,g1,rfl,rfl⟩;have hd6:=(h5.hd.fr f6 (by rintro(h|h);exact n2 h;exact n3 h)).drew;have q6:Row w6.drew p4 _:=(q5.fr f6 (by rintro(h|h);exact hp4 _ (.inr (.inr (.inl rfl))) h.symm;exact hp4 _ (.inr (.inr (.inr (.inl rfl)))) h.symm)).drew;have r6:Row w6.drew p3 _:=(r5.fr f6 (by rintro(h|h);exact hp3 _ (.inr (.inr (.inl rfl))) h.symm;exact hp3 _ (.inr (.inr (.inr (.inl rfl)))) h.symm)).drew;have row6:=(h5.row.fr f6 (by rintro(h|h);exact n5 h;exact n6 h)).drew;have own6:=(h5.own.fr f6 (by rintro(h|h);exact n8 h.symm;exact n9 h.symm) λx hx=>by
   have:=no x hx;rintro(h|h)
   ·exact this.2.2.1 h
   ·exact this.2.2.2 h).fr (Ext.drew _ λ_=>False) (by simp) (by simp)
  have t6d:=t6.KE (Ext.drew w6);have f6d:gU w5 w6.drew (λx=>x=A.ti\/x=A.si):=f6.ext (Ext.drew _);simp -zeta only[d_,fZ,gq,B_,hd6.cell,r6.cell];refine own6.get b.bd ?_;have lold:∀x,fU.at (lkS A.l b.bd) x->ownB A.l x:=λx hx=>by
   obtain⟨s,g1,_,g2⟩:=OI hx;exact⟨_,s,g1,g2⟩
  have hil:=Gp.Ses.QM S b.bd;refine cmS2 (afN (own6.buf b.bd) (by omega) (isId p4 (i:Int)) λW hf=>q6.fr hf λhx=>hp4 _ (.inr (.inr (.inr (.inr (.inr (lold _ hx)))))) rfl) ?_;rintro s7 w7 ⟨b7,f7,n7'⟩;have e7:(ids S b.bd).filter (λx=> !(x==(i:Int)))=ids (S.set i none) b.bd:=by rw[Gp.Ses.SC g1];rfl
  rw[e7] at b7;have hd7:=(hd6.fr f7 λhx=>(no _ (lold _ hx)).1 rfl).drew;have q7:=(q6.fr f7 λhx=>hp4 _ (.inr (.inr (.inr (.inr (.inr (lold _ hx)))))) rfl).drew;have r7:=(r6.fr f7 λhx=>hp3 _ (.inr (.inr (.inr (.inr (.inr (lold _ hx)))))) rfl).drew;have row7:=(row6.fr f7 λhx=>(no _ (lold _ hx)).2.1 rfl).drew;have t7:=(t6d.fr f7 (λhx=>(no _ (lold _ hx)).2.2.1 rfl) (λhx=>(no _ (lold _ hx)).2.2.2 rfl)).KE (Ext.drew w7);have f7d:gU w6.drew w7.drew (fU.at (lkS A.l b.bd)):=f7.ext (Ext.drew _);have b7d:=b7.ext (Ext.drew w7);simp -zeta only[d_,fZ,gq,B_,hd7.cell,r7.cell];refine own6.set (S':=S.set i none) f7d (λhx=>own6.ne _ (lold _ hx) rfl) (λx _ hx=>hx) b7d (λx hx=> .inl (n7' x hx)) (λk hk=>Gp.Ses.OG g1 hk) λw8 own8 f8 z8=> ?_;have up8:∀x,ownB (Bo A.l b.bd s7) x->ownB A.l x:=λx hx=>by
   rcases QT hx with h1|h1
   ·exact lold x (n7' x h1)
   ·exact h1
  have f58:gU w5 w8 (fp A):=((f6d.mono (S':=fp A) λx hx=>by
   rcases hx with hx|hx
   ·exact .inr (.inr (.inl hx))
   ·exact .inr (.inr (.inr (.inl hx)))).trans f7d λx _ hx=> .inr (.inr (.inr (.inr (.inr (lold x hx)))))).trans f8 λx _ hx=> .inr (.inr (.inr (.inr (.inl hx))))
  have O:gU w w8 (fp A):=((x4d.trans f5) (fp A)).trans f58 λ_ _ hx=>hx;have hd8:=hd7.fr f8 n4;have q8:=q7.fr f8 λhx=>hp4 _ (.inr (.inr (.inr (.inr (.inl rfl))))) hx.symm;have r8:=r7.fr f8 λhx=>hp3 _ (.inr (.inr (.inr (.inr (.inl rfl))))) hx.symm;have row8:=row7.fr f8 n7;have t8:=t7.fr f8 n8 n9;intro J;have hJ:∀W l',En W A.m l' (S.set i none)->(∀x,ownB l' x->ownB A.l x)->gU w8 W (·=A.m)->J W:=by
   intro W l' I u hf;have N:=(hd8.fr hf n4).drew;have qW:Row W.drew p4 _:=(q8.fr hf λhx=>hp4 _ (.inr (.inr (.inr (.inr (.inl rfl))))) hx.symm).drew;have rowW:=(row8.fr hf n7).drew;have tW:=(t8.fr hf n8 n9).KE (Ext.drew W);have ownW:=I.fr (Ext.drew _ λ_=>False) (by simp) (by simp);simp only[sx,J,N.cell,qW.cell,Η];refine⟨by omega,by omega,?_⟩;refine MG rowW gl none λw9 row9 f9 z9=> ?_;have hd9:=N.fr f9 n1;simp only[d_,fZ,gq,hd9.cell];have hlen:=Gp.Ses.kV 0 g1;have hll:=Gp.Ses.jV S 0;rw[Α];refine gX hd9 rfl (by simp) λR hd10 f10 z10=> ?_;simp only[agE,aho] at hd10;have f10d:=f10 (·=A.d) rfl;have t10:=(tW.fr f9 (afx n5) (afx n6)).fr f10d (afx n2) (afx n3);have own10:=(ownW.fr f9 n7.symm λx hx=>(no x (u x hx)).2.1).fr f10d n4.symm λx hx=>(no x (u x hx)).1;have eu:∀M k v,Go.Proofs.upd M k v=Gp.Bind.upd M k v:=λ_ _ _=>rfl;rw[eu] at t10;have e:((live 0 S).length:Int) - 1=((live 0 (S.set i none)).length:Int):=by omega
   rw[e] at hd10;rw[hM] at c6;simp only[ajv,ahN] at c6;have ta:TA R {A with l:=l'} most (S.set i none) (Gp.Bind.upd M (Bind.keyS b.k) none):=
    ⟨hd10,row9.fr f10d (afx n1),by rw[ajl];exact hl,hm,⟨L6,t10,by omega⟩,own10,h.good.remove g1,⟨⟨n1,n2,n3,n4,n5,n6,n7,n8,n9⟩,λx hx=>no x (u x hx)⟩⟩
   refine⟨?_,_,_,_,ta,rfl,?_,by simp⟩
   ·exact(((O.trans hf λx _ hx=> .inr (.inr (.inr (.inr (.inl hx))))).ext (Ext.drew _)).trans f9 λx _ hx=> .inr (.inl hx)).trans f10d λx _ hx=> .inl hx
   ·rintro x (hx|hx|hx|hx|hx|hx)
    ·exact .inl hx
    ·exact .inr (.inl hx)
    ·exact .inr (.inr (.inl hx))
    ·exact .inr (.inr (.inr (.inl hx)))
    ·exact .inr (.inr (.inr (.inr (.inl hx))))
    ·exact .inr (.inr (.inr (.inr (.inr (u x hx)))))
  clear_value J;have l7:=b7.len;by_cases hz:((s7.len:Int)==0)=true
  ·rw[hz,Δ];have hz':ids (S.set i none) b.bd=[]:=by
    have:(s7.len:Int)=0:=by simpa using hz
    exact akX.1 (by omega)
   have hd8d:=hd8.drew;have r8d:=r8.drew;simp only[d_,fZ,gq,B_,hd8d.cell,r8d.cell];have own8d:=own8.fr (Ext.drew w8 λ_=>False) (by simp) (by simp);refine own8d.del hz' λw9 own9 f9 z9=> ?_;exact hJ w9 _ own9 (λx hx=>up8 x (ae6 own8.nd hx)) (((Ext.drew w8) (·=A.m)).trans f9 λ_ _ e=>e)
  ·rw[Bool.eq_false_iff.2 hz,Β];exact hJ w8 _ own8 up8 (gU.refl _ _)
abbrev yK:List Shape:=[.one ν,.agg [ν,ν,ν,ν,ν]]
def yS (L:List (Int×Ses)):List (Ae yK):=L.map λx=>(x.1,(x.2.bd,x.2.st,x.2.un,x.2.ra,x.2.rp,()),())
def Fg (S:Slots) (k:Int):List (Int×Ses):=(live 0 S).filter λx=>x.2.bd==k
theorem QS (S:Slots) (k:Int):(Fg S k).map (·.1)=ids S k:=rfl
theorem abE (most:Nat) (S:Slots) (M:ByteArray->Option Int) (A:QZ) (f0 f1:Nat) (k:Int):
  MB υ yK (Value.func (.func sG) #[] #[(Value.pointer (some ⟨f0,0,none⟩)),(Value.pointer (some ⟨f1,0,none⟩))])
   (λW=>Row W f0 [.pointer (some ⟨A.d,0,none⟩)]/\Row W f1 [.int .i64 k]/\TA W A most S M) (yS (Fg S k)):=by
 refine⟨by kernel_rfl,λn w Q D hC hQ hD hy h0=> ?_⟩;refine Calls.mono (wS (a0:= .func (.yield n) #[] #[]) (f0:=⟨f0,0,none⟩) (f1:=⟨f1,0,none⟩) (K:=λw'=>Q (yS (Fg S k)).length w'\/D w') ?_) (λe w' h=>h);have up:∀{i W W'},Q i W->Ext W W'->Q i W':=λhq hx=>hQ _ _ _ hq (hx _);obtain⟨r0,r1,h⟩:=hC _ _ h0;have hl:=h.len;have hm:=h.mx;simp only[sx,r0.cell];refine cmS0 (Aa h) ?_;rintro _ w2 ⟨rfl,hw⟩;subst hw;have q2:=up h0 (Ext.drew _);obtain⟨r0,r1,h⟩:=hC _ _ q2;simp only[sx,ab6,r0.cell,r1.cell,h.hd.cell];refine h.own.get k ?_;have hil:=Gp.Ses.QM S k;refine cmS2 (Ov ((h.own.buf k).sl jc (by omega)) (by omega)) ?_;rintro s3 w3 ⟨f3,b3,n3⟩;have q3:=up q2 f3;have O:(yS (Fg S k)).length=(Fg S k).length:=by simp[yS]
 have hol:(Fg S k).length=(ids S k).length:=by rw[<- QS,ahv]
 rw[O];have l3:=b3.len;refine gK (λst W=>∃i:Nat,i<=(Fg S k).length/\st.1=(i:Int)/\Q i W/\iY 1 eI W s3 (ids S k)) (λst _=>(Fg S k).length - st.1.toNat) ⟨0,by omega,rfl,q3,b3⟩ ?_;rintro⟨x,⟨⟩⟩ W ⟨i,hi,rfl,hq,hb⟩ next I
 obtain⟨r0,r1,h⟩:=hC _ _ hq;by_cases R:i<(Fg S k).length
 ·have u:((i:Int)<(s3.len:Int)):=by omega
  have hS:(Fg S k)[i]? =some (Fg S k)[i]:=abe R;generalize (Fg S k)[i]=y at hS;obtain⟨v,b⟩:=y;have hv:(ids S k)[i]? =some v:=by rw[<- QS,aiF,hS];rfl
  obtain⟨J,_⟩:=aku.1 (ajF hS);obtain⟨j,hj,N⟩:=Gp.Ses.nH.1 J;have N:v=(j:Int):=by omega
  subst N;have gl:=(ady.1 hj).1;have c:∀m,m<6->_:=h.slot hj;have c0:=c 0 (by omega);have c1:=c 1 (by omega);have c2:=c 2 (by omega);have c3:=c 3 (by omega);have c4:=c 4 (by omega);simp only[ajt,iO,d_] at c0 c1 c2 c3 c4;rw[ab9 u,Δ];refine BJ (hb.sl jc (by omega)) hv λa hc=> ?_;simp only[sx,hc,r0.cell,h.hd.cell,Η,c0,c1,c2,c3,c4];refine⟨by omega,by omega,?_⟩;refine lI (hy i ((j:Int),(b.bd,b.st,b.un,b.ra,b.rp,()),()) W _ ?_ hq ?_ ?_)
  ·simp only[yS,aiF,hS,aik]
  ·intro W' hq' hf;refine⟨true,rfl,?_⟩;simp only[ab6,Β];rw[Α];refine I _ _ ⟨i+1,by omega,by simp,hq',hb.fr hf λc hc=> ?_⟩ (by simp only;omega);have:=n3 c hc;have hz:w2.drew.heap.size=w2.heap.size:=rfl;omega
  ·intro W' hd hf;refine⟨false,rfl,?_⟩;simp only[aek,Δ];exact .inr hd
 ·have u:¬((i:Int)<(s3.len:Int)):=by omega
  rw[abW u,Β];have:i=(Fg S k).length:=by omega
  subst this;exact .inl hq
theorem Me {α β:Type} {enc:α->Value} {ev:β->Value} {w:θ} {K:Addr->b_} (h:∀w1,rG enc ev w1 w.heap.size []->w1.heap.size=w.heap.size+1->Ext w w1->K ⟨w.heap.size,0,none⟩ w1):Al w (.map #[] 0) K:=
 h _ (rG.new w enc ev) (by simp) (λS=>gU.alloc w _ S)
theorem agZ (n:Int) (w:θ):Dl n w λp e w'=>Ext w w'/\((¬(0<=n/\n<=4096)/\p=none/\e=1)\/(0<=n/\n<=4096/\e=0/\∃A,p=some ⟨A.d,0,none⟩/\(∀x,fp A x->w.heap.size<=x)/\TA w' A n.toNat (List.replicate n.toNat none) (λ_=>none))):=by
 apply Uc;by_cases c1:n<0
 ·simp only[c1,aaA,Δ];exact⟨Ext.refl _,.inl ⟨by omega,by trivial,by trivial⟩⟩
 by_cases c2:n>4096
 ·simp only[c1,c2,aaA,aaV,Δ,Β];exact⟨Ext.refl _,.inl ⟨by omega,by trivial,by trivial⟩⟩
 simp only[c1,c2,aaV,Β];refine cmS6 (XI n w) ?_;rintro p1 e1 w1 ⟨f1,(⟨_,_,rfl,ti,rfl,l1,t1⟩|⟨hbad,_,_⟩)⟩;rotate_left
 ·omega
 simp only[show ((0:Int) !=0)=false from rfl,Β];refine GH (by omega) (by omega) (by omega) (by omega) λsl w3 r3 e3 z3 f3=> ?_;refine Me (enc:=encI) (ev:=slV) λw4 m4 z4 f4=> ?_;refine gu λd w5 r5 e5 z5 f5=> ?_;obtain⟨m,rfl⟩:∃m:Nat,n=(m:Int):=⟨n.toNat,by omega⟩;simp only[Η] at r3 r5 ⊢;have f1:Ext w w1:=f1;have f3:Ext w1 w3:=f3;have x5:Ext w w5:=(f1.trans f3).trans (f4.trans f5);have i1:=t1.ht.hd.lt;have s1:=f1.size;have sD:∀(k j:Nat),live j (List.replicate k none)=[]:=by
  intro k
  induction k with
  |zero=>intro j;rfl
  |succ k ih=>intro j;rw[aki,live];exact ih _
 have ids_rep:∀k j,ids (List.replicate k none) j=[]:=λk j=>by unfold ids;rw[sD];rfl
 have rep:∀k,gW [Value.int .i64 0,Value.int .i64 0,Value.int .i64 0,Value.int .i64 0,Value.int .i64 0,Value.bool false] k=(List.replicate k (none:Option Ses)).flatMap iO:=by
  intro k
  induction k with
  |zero=>rfl
  |succ k ih=>rw[gW,ih,aki,ajB];rfl
 have noB:∀x,¬ownB [] x:=λx ⟨k,s,hk,_⟩=>by cases hk
 refine⟨x5,.inr ⟨by omega,by omega,by trivial,⟨d,sl,ti,ti,w3.heap.size,[]⟩,rfl,?_,?_⟩⟩
 ·intro x hx;rcases hx with hx|hx|hx|hx|hx|hx
  ·simp only at hx;omega
  ·simp only at hx;omega
  ·simp only at hx;omega
  ·simp only at hx;omega
  ·simp only at hx;omega
  ·exact absurd hx (noB x)
 ·refine⟨?_,?_,by simp,by omega,⟨[],?_,?_⟩,⟨?_,?_,?_,?_,?_,?_⟩,⟨λk v=> ?_,λj b hb=> ?_⟩,⟨?_,λx hx=>absurd hx (noB x)⟩⟩
  ·rw[sD];exact r5
  ·rw[<- rep];exact(r3.ext f4).ext f5
  ·exact t1.KE (f3.trans (f4.trans f5))
  ·rw[sD];rfl
  ·exact rG.ext (m4) f5
  ·simp
  ·intro k s hk;cases hk
  ·intro k _;exact ids_rep _ _
  ·intro k k' s s' b _ hk;cases hk
  ·intro b hb;exact absurd hb (noB b)
  ·constructor
   ·intro h;cases h
   ·rintro⟨j,b,hj,_⟩;rw[akb] at hj;split at hj<;>simp at hj
  ·rw[akb] at hb;split at hb<;>simp at hb
  ·refine⟨?_,?_,?_,?_,?_,?_,?_,?_,?_⟩<;>simp only<;>omega
end
end Go.Proofs.SN
end
section
namespace Go.Proofs.QN
open Gp
def FM (m:Int) (x:Int):List Value:=[.int .i64 x,.int .i64 m]
structure QOk (l:List Int) (m:Int):Prop where
 lo:∀x∈l,0<=x/\x<=m
 m0:0<=m
 m1:m<=4096
 len:l.length<=64
structure QR (w:θ) (b s:Nat) (l:List Int) (m:Int):Prop where
 hd:Row w b [.slice (some ⟨s,0,none⟩) l.length l.length]
 row:Row w s (l.flatMap (FM m))
 ne:b≠s
theorem QR.fr {w w':θ} {b s:Nat} {l:List Int} {m:Int} {S:Nat->Prop} (h:QR w b s l m) (hf:gU w w' S) (h1:¬S b) (h2:¬S s):QR w' b s l m:=⟨h.hd.fr hf h1,h.row.fr hf h2,h.ne⟩
def ZF (l:List Int) (i:Int):Prop:=0<=i/\i<(l.length:Int)
instance (l:List Int) (i:Int):Decidable (ZF l i):=inferInstanceAs (Decidable (_/\_))
def at_ (l:List Int) (i:Int):Int:=l.getD i.toNat 0
def Ei (l:List Int) (m i:Int):Int×List Int:=
 if ZF l i then (if at_ l i>=m then (10,l) else (0,l.set i.toNat (at_ l i+1))) else (1,l)
def KF (l:List Int) (i:Int):Int×List Int:=
 if ZF l i then (if at_ l i=0 then (8,l) else (0,l.set i.toNat (at_ l i - 1))) else (1,l)
def Du (l:List Int) (i:Int):Int:=if ZF l i then at_ l i else 0
theorem Xh {l:List Int} {i:Int} (h:ZF l i):l[i.toNat]? =some (at_ l i):=by
 obtain⟨h0,h1⟩:=h;have:i.toNat<l.length:=by omega
 simp[at_,this]
theorem at_mem {l:List Int} {i:Int} (h:ZF l i):at_ l i∈l:=ajF (Xh h)
theorem sK (m x:Int):(FM m x).length=2:=rfl
theorem QR.cell0 {w:θ} {b s:Nat} {l:List Int} {m i:Int} (h:QR w b s l m) (hi:ZF l i):w.cell? ⟨s,i.toNat * 2,none⟩=some (.int .i64 (at_ l i)):=by
 rw[h.row.cell,<- ajt (i.toNat * 2),flat_get _ 2 (sK m) _ _ 0 (by omega),Xh hi];rfl
theorem QR.cell1 {w:θ} {b s:Nat} {l:List Int} {m i:Int} (h:QR w b s l m) (hi:ZF l i):w.cell? ⟨s,i.toNat * 2+1,none⟩=some (.int .i64 m):=by
 rw[h.row.cell,flat_get _ 2 (sK m) _ _ 1 (by omega),Xh hi];rfl
theorem QR.set {w w1:θ} {b s:Nat} {l:List Int} {m i y:Int} (h:QR w b s l m) (hi:ZF l i) (hr:Row w1 s ((l.flatMap (FM m)).set (i.toNat * 2) (.int .i64 y))) (hf:gU w w1 (·=s)):
  QR w1 b s (l.set i.toNat y) m:=by
 refine⟨by simpa using h.hd.fr hf h.ne,?_,h.ne⟩;rw[<- ajt (i.toNat * 2),Hy _ 2 (sK m) _ _ 0 (at_ l i) y _ (by omega) (Xh hi) rfl] at hr;exact hr
theorem Ti {w:θ} {b s:Nat} {l:List Int} {m:Int} (h:QR w b s l m) (i:Int):
  oZ (some ⟨b,0,none⟩) i w λp e w'=>w'=w/\((ZF l i/\e=0/\p=some ⟨s,i.toNat * 2,none⟩)\/(¬ZF l i/\e=1/\p=none)):=by
 apply NT;simp only[sx,h.hd.cell];by_cases h1:i<0
 ·have:¬ZF l i:=λx=>by have:=x.1;omega
  simp[h1,this]
 ·by_cases h2:i>=(l.length:Int)
  ·have:¬ZF l i:=λx=>by have:=x.2;omega
   simp[h1,h2,this]
  ·have:ZF l i:=⟨by omega,by omega⟩;simp[h1,h2,this,this.1,this.2]
theorem QK (x m:Int) (w:θ):uZ x m w λr w'=>r=decide (x>=m)/\∀S,gU w w' S:=by
 apply J3;refine t_ λa w1 hr _ _ hf=> ?_;simp only[sx,hr.cell];exact⟨trivial,hf⟩
theorem N_ {w:θ} {b s:Nat} {l:List Int} {m:Int} (h:QR w b s l m) (hq:QOk l m) (i:Int):
  qh (some ⟨b,0,none⟩) i w λe w'=>e=(Ei l m i).1/\QR w' b s (Ei l m i).2 m/\gU w w' (·=s):=by
 apply JZ;refine cmS6 (Ti h i) ?_;rintro p e w' ⟨rfl,⟨hi,rfl,rfl⟩|⟨hi,rfl,rfl⟩⟩
 ·have hx:=hq.lo _ (at_mem hi);have hm:=hq.m1;simp only[sx,bne_self_eq_false,h.cell0 hi,h.cell1 hi];refine cmS0 (QK _ _ _) ?_;rintro r w1 ⟨rfl,hf⟩;have h1:=h.fr (hf λ_=>False) (by simp) (by simp);by_cases u:at_ l i>=m
  ·simp only[u,aaA,Δ];simp only[Ei,hi,u,ahN];exact⟨by trivial,h1,hf _⟩
  ·simp only[u,aaV,Β,fZ,gq,h1.cell0 hi];have hw:ο.wrap (at_ l i+1)=at_ l i+1:=Α;rw[hw];refine gX h1.row rfl ?_ λw2 hr2 hf2 _=> ?_
   ·rw[iT _ 2 (sK m)];have:=hi.1;have:=hi.2;omega
   ·simp only[Ei,hi,u,ahN,aiC];exact⟨by trivial,h1.set hi hr2 (hf2 (·=s) rfl),(hf _).trans (hf2 (·=s) rfl) λ_ _ e=>e⟩
 ·simp only[Ei,hi,aiC];exact⟨by trivial,h,gU.refl _ _⟩
theorem af4 {w:θ} {b s:Nat} {l:List Int} {m:Int} (h:QR w b s l m) (hq:QOk l m) (i:Int):
  uY (some ⟨b,0,none⟩) i w λe w'=>e=(KF l i).1/\QR w' b s (KF l i).2 m/\gU w w' (·=s):=by
 apply JY;refine cmS6 (Ti h i) ?_;rintro p e w' ⟨rfl,⟨hi,rfl,rfl⟩|⟨hi,rfl,rfl⟩⟩
 ·have hx:=hq.lo _ (at_mem hi);have hm:=hq.m1;simp only[sx,bne_self_eq_false,h.cell0 hi];by_cases h0:at_ l i=0
  ·simp only[h0,akK,Δ];simp only[KF,hi,h0,ahN];exact⟨by trivial,h,gU.refl _ _⟩
  ·have h0':(at_ l i==0)=false:=by simpa using h0
   have hw:ο.wrap (at_ l i - 1)=at_ l i - 1:=Α;simp only[h0',Β,hw];refine gX h.row rfl ?_ λw2 hr2 hf2 _=> ?_
   ·rw[iT _ 2 (sK m)];have:=hi.1;have:=hi.2;omega
   ·simp only[KF,hi,h0,ahN,aiC];exact⟨by trivial,h.set hi hr2 (hf2 (·=s) rfl),hf2 (·=s) rfl⟩
 ·simp only[KF,hi,aiC];exact⟨by trivial,h,gU.refl _ _⟩
theorem Zm {w:θ} {b s:Nat} {l:List Int} {m:Int} (h:QR w b s l m) (i:Int):
  oJ (some ⟨b,0,none⟩) i w λn w'=>n=Du l i/\w'=w:=by
 apply Iw;refine cmS6 (Ti h i) ?_;rintro p e w' ⟨rfl,⟨hi,rfl,rfl⟩|⟨hi,rfl,rfl⟩⟩
 ·simp only[sx,bne_self_eq_false,h.cell0 hi,Du,hi,ahN,aj7]
 ·simp only[Du,hi,aiC];exact⟨by trivial,by trivial⟩
theorem aep (m x:Int) (n:Nat):(List.replicate n x).flatMap (FM m)=gW (FM m x) n:=by
 induction n with
 |zero=>rfl
 |succ n ih=>simp[aki,gW,ih]
def SX (n m:Int):Prop:=1<=n/\n<=64/\0<=m/\m<=4096
instance (n m:Int):Decidable (SX n m):=inferInstanceAs (Decidable (_/\_))
theorem agv {n m:Int} (h:SX n m):QOk (List.replicate n.toNat 0) m:=by
 obtain⟨h1,h2,h3,h4⟩:=h;refine⟨λx hx=> ?_,h3,h4,by simp;omega⟩;have:=(List.mem_replicate.1 hx).2;omega
def NZ (m:Int) (n k:Nat):List Value:=(List.replicate k (0:Int)).flatMap (FM m)++(List.replicate (n - k) (0:Int)).flatMap (FM 0)
theorem ac5 (m:Int) (n k:Nat) (hk:k<n):(NZ m n k).set (k * 2+1) (.int .i64 m)=NZ m n (k+1):=by
 unfold NZ;have hl:((List.replicate k (0:Int)).flatMap (FM m)).length=k * 2:=by rw[iT _ 2 (sK m)];simp
 rw[akH _ _ (by omega),hl];obtain⟨j,hj⟩:∃j,n - k=j+1:=⟨n - k - 1,by omega⟩;have hj2:n - (k+1)=j:=by omega
 rw[hj,hj2,List.replicate_succ' (n:=k),ajT];simp[aki,FM]
theorem ac4 (m:Int) (n k:Nat) (hk:k<=n):(NZ m n k).length=n * 2:=by
 unfold NZ;rw[adH,iT _ 2 (sK m),iT _ 2 (sK 0)];simp;omega
theorem aaI (n m:Int) (w:θ):GY n m w λp e w'=>
  (∀S,gU w w' S)/\((SX n m/\e=0/\∃b s,p=some ⟨b,0,none⟩/\w.heap.size<=b/\w.heap.size<=s/\QR w' b s (List.replicate n.toNat 0) m)\/(¬SX n m/\e=1/\p=none)):=by
 apply Yg;by_cases hn:SX n m
 ·obtain⟨h1,h2,h3,h4⟩:=hn;have c1:¬(n<1):=by omega
  have c2:¬(n>64):=by omega
  have c3:¬(m<0):=by omega
  have c4:¬(m>4096):=by omega
  simp only[sx,c1,c2,c3,c4,aaV];refine GH (by omega) (by omega) (by omega) (by omega) λs w1 hr0 hs _ hf1=> ?_;have hq0:gW [Value.int .i64 0,Value.int .i64 0] n.toNat=NZ m n.toNat 0:=by
   unfold NZ;simp only[List.replicate_zero,List.flatMap_nil,akC,aky];exact(aep 0 0 _).symm
  rw[hq0] at hr0;subst hs;refine t_ λb w2 hr2 hb hsz hf2=> ?_;simp only[abY,fZ,gI,hr2.cell];have hb1:=(hf1 λ_=>False).size;have hs0:w.heap.size<w1.heap.size:=hr0.lt;refine gK (λst w'=>∃k:Nat,k<=n.toNat/\st.1=k/\Row w' b [.slice (some ⟨w.heap.size,0,none⟩) n.toNat n.toNat]/\Row w' w.heap.size (NZ m n.toNat k)/\∀S,gU w w' S)
   (λst _=>n.toNat - st.1.toNat) ⟨0,by omega,rfl,hr2,hr0.fr (hf2 λ_=>False) (by simp),λS=>(hf1 S).trans (hf2 S) λ_ _ e=>e⟩ ?_
  rintro⟨i,⟨⟩⟩ w3 ⟨k,hk,rfl,hb3,hr3,hf3⟩ next h
  simp only[sx,hb3.cell];by_cases u:k<n.toNat
  ·simp only[u,Int.ofNat_lt,aaA,Δ,Η];refine⟨by omega,by first|trivial|omega,?_⟩
   refine gX hr3 rfl (by rw[ac4 _ _ _ hk];omega) λw4 hr4 hf4 _=> ?_;rw[ac5 _ _ _ u] at hr4;have e2:ο.wrap ((k:Int)+1)=((k+1:Nat):Int):=by rw[Α];omega
   rw[e2];refine h _ _ ⟨k+1,by omega,rfl,hb3.fr (hf4 (·=w.heap.size) rfl) (by omega),hr4,λS=>(hf3 S).trans (hf4 (·=w.heap.size) rfl) λx hx e=>by omega⟩ (by simp only;omega)
  ·have hk2:k=n.toNat:=by omega
   subst hk2;simp only[Int.lt_irrefl,aaV,Β];refine⟨hf3,.inl ⟨⟨h1,h2,h3,h4⟩,by trivial,b,w.heap.size,rfl,by omega,by omega,⟨by simpa using hb3,?_,by omega⟩⟩⟩;unfold NZ at hr3;simpa using hr3
 ·have key:(bif decide (n<1) then true else bif decide (n>64) then true else bif decide (m<0) then true else decide (m>4096))=true:=by
   simp only[SX] at hn;by_cases c1:n<1
   ·simp[c1]
   ·by_cases c2:n>64
    ·simp[c2]
    ·by_cases c3:m<0
     ·simp[c3]
     ·simp[c1,c2,c3];omega
  by_cases c1:n<1
  ·simp only[sx,c1,aaA];exact⟨λS=>gU.refl _ _,.inr ⟨hn,by trivial,by trivial⟩⟩
  ·by_cases c2:n>64
   ·simp only[sx,c1,c2,aaA,aaV];exact⟨λS=>gU.refl _ _,.inr ⟨hn,by trivial,by trivial⟩⟩
   ·by_cases c3:m<0
    ·simp only[sx,c1,c2,c3,aaA,aaV];exact⟨λS=>gU.refl _ _,.inr ⟨hn,by trivial,by trivial⟩⟩
    ·have c4:m>4096:=by simp only[SX] at hn;omega
     simp only[sx,c1,c2,c3,c4,aaA,aaV];exact⟨λS=>gU.refl _ _,.inr ⟨hn,by trivial,by trivial⟩⟩
theorem ϔ {l:List Int} {m:Int} (h:QOk l m) (i:Int):QOk (Ei l m i).2 m:=by
 unfold Ei;split
 ·split
  ·exact h
  ·rename_i hi hge;refine⟨λx hx=> ?_,h.m0,h.m1,by simpa using h.len⟩;rcases List.mem_or_eq_of_mem_set hx with hx|rfl
   ·exact h.lo x hx
   ·have:=h.lo _ (at_mem hi);omega
 ·exact h
theorem aey {l:List Int} {m:Int} (h:QOk l m) (i:Int):QOk (KF l i).2 m:=by
 unfold KF;split
 ·split
  ·exact h
  ·rename_i hi hge;refine⟨λx hx=> ?_,h.m0,h.m1,by simpa using h.len⟩;rcases List.mem_or_eq_of_mem_set hx with hx|rfl
   ·exact h.lo x hx
   ·have:=h.lo _ (at_mem hi);omega
 ·exact h
end Go.Proofs.QN
end
section
namespace Gp.Wh
structure Tm where
 id:Int
 a:Nat
 tn:Int
deriving DecidableEq
def Lv (now a n:Nat):Prop:=now / 64^(n+1)=a / 64^(n+1)/\(n=0\/now / 64^n≠a / 64^n)
def dg (a n:Nat):Nat:=a / 64^n % 64
theorem wE (a n:Nat):a / 64^(n+1)=a / 64^n / 64:=by rw[Nat.pow_succ,Nat.div_div_eq_div_mul]
theorem KZ {x y n m:Nat} (h:x / 64^n=y / 64^n) (hm:n<=m):x / 64^m=y / 64^m:=by
 obtain⟨k,rfl⟩:=Nat.exists_eq_add_of_le hm;rw[Nat.pow_add,<- Nat.div_div_eq_div_mul,<- Nat.div_div_eq_div_mul,h]
theorem Lv.uniq {now a n m:Nat} (h:Lv now a n) (g:Lv now a m):n=m:=by
 rcases akn n m with hl|hl|hl
 ·exact absurd (KZ h.1 hl) (by rcases g.2 with e|e;omega;exact e)
 ·exact hl
 ·exact absurd (KZ g.1 hl) (by rcases h.2 with e|e;omega;exact e)
theorem Lv.self (now:Nat):Lv now now 0:=⟨rfl,.inl rfl⟩
theorem NW {a n:Nat} (h:a<=2^40) (hn:7<=n):a / 64^n=0:=by
 refine aly (ajn ?_ (akO (by omega) hn));omega
theorem Lv.lt {now a n:Nat} (h:Lv now a n) (h1:now<=2^40) (h2:a<=2^40):n<7:=by
 rcases h.2 with e|e
 ·omega
 ·refine akp λhn=>e ?_;rw[NW h1 (by omega),NW h2 (by omega)]
theorem Lv.dig {now a n:Nat} (h:Lv now a n) (u:now<=a):dg now n<=dg a n/\(0<n->dg now n<dg a n):=by
 have h1:=h.1;rw[wE,wE] at h1;have h2:now / 64^n<=a / 64^n:=Nat.div_le_div_right u;unfold dg;refine⟨by omega,λhn=> ?_⟩;rcases h.2 with e|e
 ·omega
 ·omega
theorem Ws {x y n:Nat} (h:x / 64^n<y / 64^n):x<y:=by
 refine akp λhx=> ?_;have:=Nat.div_le_div_right (c:=64^n) (Nat.le_of_not_lt hx);omega
theorem Lv.first {now a b n m:Nat} (h:Lv now a n) (g:Lv now b m) (hn:n<m) (hb:now<=b):a<b:=by
 have h1:=KZ h.1 (show n+1<=m by omega);have h2:=(g.dig hb).2 (by omega);have g1:=g.1;rw[wE,wE] at g1;unfold dg at h2;exact Ws (n:=m) (by omega)
theorem Lv.slot {now a b n:Nat} (h:Lv now a n) (g:Lv now b n) (hd:dg a n<dg b n):a<b:=by
 have h1:=h.1;have g1:=g.1;rw[wE,wE] at h1 g1;unfold dg at hd;exact Ws (n:=n) (by omega)
abbrev Fs:=Nat->Nat->List Tm
abbrev Ps:=Int->Option Tm
def vO (F:Fs) (n k:Nat) (l:List Tm):Fs:=λn' k'=>if n'=n/\k'=k then l else F n' k'
def Gt (P:Ps) (id:Int) (o:Option Tm):Ps:=λid'=>if id'=id then o else P id'
structure WI (now:Nat) (P:Ps) (F:Fs):Prop where
 pl:∀id t,P id=some t->t.id=id/\now<=t.a/\t.a<=2^40
 nw:now<=2^40
 mem:∀n k t,n<7->k<64->(t∈F n k↔P t.id=some t/\Lv now t.a n/\dg t.a n=k)
 nd:∀n k,n<7->k<64->((F n k).map Tm.id).Nodup
variable {now:Nat} {P:Ps} {F:Fs}
theorem AU (a n:Nat):dg a n<64:=akf _ (by omega)
theorem aeT (now a:Nat) (h1:now<=2^40) (h2:a<=2^40):∃n,n<7/\Lv now a n:=by
 have:∀m,now / 64^m=a / 64^m->∃n,n<=m/\Lv now a n:=by
  intro m
  induction m with
  |zero=>intro h;exact⟨0,aiq _,KZ h (by omega),.inl rfl⟩
  |succ m ih=>
   intro h;by_cases e:now / 64^m=a / 64^m
   ·obtain⟨n,hn,hl⟩:=ih e;exact⟨n,by omega,hl⟩
   ·exact⟨m,by omega,h,.inr e⟩
 obtain⟨n,_,hl⟩:=this 7 (by rw[NW h1 (by omega),NW h2 (by omega)]);exact⟨n,hl.lt h1 h2,hl⟩
theorem WI.at_ (h:WI now P F) {id:Int} {t:Tm} (ht:P id=some t):∃n,n<7/\Lv now t.a n/\t∈F n (dg t.a n):=by
 obtain⟨g1,g2,g3⟩:=h.pl id t ht;obtain⟨n,hn,hl⟩:=aeT now t.a h.nw g3;exact⟨n,hn,hl,(h.mem n _ t hn (AU _ _)).2 ⟨by rw[g1];exact ht,hl,rfl⟩⟩
theorem WI.take (h:WI now P F) {id:Int} {t:Tm} {n:Nat} (ht:P id=some t) (hl:Lv now t.a n):WI now (Gt P id none) (vO F n (dg t.a n) ((F n (dg t.a n)).filter λx=> !(x.id==id))):=by
 obtain⟨g1,g2,g3⟩:=h.pl id t ht;refine⟨λid' u hu=> ?_,h.nw,λn' k' u hn hk=> ?_,λn' k' hn hk=> ?_⟩
 ·unfold Gt at hu;split at hu
  ·cases hu
  ·exact h.pl id' u hu
 ·unfold vO Gt;split
  ·rename_i e;obtain⟨rfl,rfl⟩:=e;rw[aku,h.mem n' _ u hn hk];by_cases e:u.id=id
   ·rw[Ζ e];simp[e]
   ·rw[Ε e];simp[e]
  ·rename_i e;rw[h.mem n' k' u hn hk];by_cases eu:u.id=id
   ·rw[Ζ eu];constructor
    ·rintro⟨h1,h2,h3⟩;rw[eu,ht] at h1
     cases h1
     exact absurd ⟨h2.uniq hl,by rw[<- h3,h2.uniq hl]⟩ e
    ·rintro⟨h1,_⟩;cases h1
   ·rw[Ε eu]
 ·unfold vO;split
  ·rename_i e;obtain⟨rfl,rfl⟩:=e;exact(h.nd n' _ hn hk).sublist (List.filter_sublist.map _)
  ·exact h.nd n' k' hn hk
theorem WI.put (h:WI now P F) {t:Tm} {n:Nat} (hp:P t.id=none) (h1:now<=t.a) (h2:t.a<=2^40) (hl:Lv now t.a n):WI now (Gt P t.id (some t)) (vO F n (dg t.a n) (F n (dg t.a n)++[t])):=by
 refine⟨λid' u hu=> ?_,h.nw,λn' k' u hn hk=> ?_,λn' k' hn hk=> ?_⟩
 ·unfold Gt at hu;split at hu
  ·rename_i e;cases hu;exact⟨e.symm,h1,h2⟩
  ·exact h.pl id' u hu
 ·unfold vO Gt;split
  ·rename_i e;obtain⟨rfl,rfl⟩:=e;rw[ajk,aiB,h.mem n' _ u hn hk];by_cases e:u.id=t.id
   ·rw[Ζ e];constructor
    ·rintro(⟨g1,_⟩|rfl)
     ·rw[e,hp] at g1;cases g1
     ·exact⟨rfl,hl,rfl⟩
    ·rintro⟨g1,_⟩;cases g1;exact .inr rfl
   ·rw[Ε e];constructor
    ·rintro(g|rfl)
     ·exact g
     ·exact absurd rfl e
    ·exact .inl
  ·rename_i e;rw[h.mem n' k' u hn hk];by_cases eu:u.id=t.id
   ·rw[Ζ eu];constructor
    ·rintro⟨g1,_⟩;rw[eu,hp] at g1;cases g1
    ·rintro⟨g1,g2,g3⟩;cases g1;exact absurd ⟨g2.uniq hl,by rw[<- g3,g2.uniq hl]⟩ e
   ·rw[Ε eu]
 ·unfold vO;split
  ·rename_i e;obtain⟨rfl,rfl⟩:=e;rw[akk,akV];refine⟨h.nd n' _ hn hk,by simp,λx hx y hy e=> ?_⟩;simp only[aiG,List.map_nil,aiB] at hy;subst hy;subst e;obtain⟨u,hu,hx⟩:=ajX.1 hx;have:=((h.mem n' _ u hn hk).1 hu).1;rw[hx,hp] at this;cases this
  ·exact h.nd n' k' hn hk
theorem WI.next (h:WI now P F) {n k:Nat} {t:Tm} (hn:n<7) (hk:k<64) (e1:∀n' k',n'<n->k'<64->dg now n'<=k'->F n' k'=[]) (e2:∀k',k'<k->dg now n<=k'->F n k'=[])
  (ht:t∈F n k) (hm:∀u∈F n k,t.a<=u.a):P t.id=some t/\now<=t.a/\∀id u,P id=some u->t.a<=u.a:=by
 obtain⟨g1,g2,g3⟩:=(h.mem n k t hn hk).1 ht;refine⟨g1,(h.pl _ _ g1).2.1,λid u hu=> ?_⟩;obtain⟨_,p2,p3⟩:=h.pl id u hu;obtain⟨m,hm7,hl,I⟩:=h.at_ hu;rcases akn m n with J|rfl|J
 ·have:=e1 m (dg u.a m) J (AU _ _) (hl.dig p2).1;rw[this] at I;simp at I
 ·rcases akn (dg u.a m) k with hd|hd|hd
  ·have:=e2 (dg u.a m) hd (hl.dig p2).1;rw[this] at I;simp at I
  ·rw[hd] at I;exact hm u I
  ·exact Nat.le_of_lt (g2.slot hl (by rw[g3];exact hd))
 ·exact Nat.le_of_lt (g2.first hl J p2)
theorem WI.none (h:WI now P F) (e1:∀n' k',n'<7->k'<64->dg now n'<=k'->F n' k'=[]) (id:Int):P id=none:=by
 cases hp:P id with
 |none=>rfl
 |some u=>
  obtain⟨m,hm7,hl,I⟩:=h.at_ hp;have:=e1 m (dg u.a m) hm7 (AU _ _) (hl.dig (h.pl _ _ hp).2.1).1;rw[this] at I;simp at I
theorem WI.low (h:WI now P F) {to m:Nat} (h1:now<=to) (I:∀id u,P id=some u->to<=u.a) (hm:Lv now to m) {n k:Nat} (hn:n<m) (hn7:n<7) (hk:k<64):F n k=[]:=by
 cases hf:F n k with
 |nil=>rfl
 |cons u r=>
  obtain⟨g1,g2,_⟩:=(h.mem n k u hn7 hk).1 (by rw[hf];simp);have:=g2.first hm hn h1
  have:=I _ _ g1;omega
def rest (P:Ps) (M:List Tm):Ps:=λid=>match P id with|some t=>if t∈M then none else some t|none=>none
theorem vK {P:Ps} {M:List Tm} {id:Int} {t:Tm}:rest P M id=some t↔P id=some t/\t∉M:=by
 unfold rest
 cases hp:P id with
 |none=>simp
 |some u=>
  by_cases hu:u∈M
  ·simp only[hu,ahN];constructor
   ·intro h;cases h
   ·rintro⟨h,h2⟩;cases h;exact absurd hu h2
  ·simp only[hu,aiC,afM];constructor
   ·rintro rfl;exact⟨rfl,hu⟩
   ·rintro⟨h,_⟩;exact h
theorem afe (P:Ps):rest P []=P:=by
 funext id;unfold rest
 cases P id<;>simp
theorem WI.turn (h:WI now P F) {to m:Nat} (h1:now<=to) (h2:to<=2^40) (R:∀id u,P id=some u->to<=u.a) (hm:Lv now to m):
  WI to (rest P (if m=0 then [] else F m (dg to m))) (if m=0 then F else vO F m (dg to m) []):=by
 have m7:=hm.lt h.nw h2;have low:=λ{n k:Nat}=>h.low (n:=n) (k:=k) h1 R hm;have lvl:∀u n,(∃id,P id=some u)->Lv now u.a n->n<7->(n<m->False)/\(m<n->Lv to u.a n)/\(n=m->(m=0\/dg u.a m≠dg to m)->Lv to u.a n):=by
  rintro u n ⟨id,hu⟩ hl hn7;refine⟨λN=> ?_,λN=> ?_,λe hd=> ?_⟩
  ·have:=(h.mem n (dg u.a n) u hn7 (AU _ _)).2 ⟨by rw[(h.pl _ _ hu).1];exact hu,hl,rfl⟩;rw[low N hn7 (AU _ _)] at this;simp at this
  ·refine⟨?_,.inr ?_⟩
   ·rw[<- hl.1];exact(KZ hm.1 (by omega)).symm
   ·rw[<- KZ hm.1 (show m+1<=n by omega)];rcases hl.2 with e|e
    ·omega
    ·exact e
  ·subst e;refine⟨?_,?_⟩
   ·rw[<- hl.1];exact hm.1.symm
   ·rcases hd with e|e
    ·exact .inl e
    ·refine .inr λhe=>e ?_;unfold dg;rw[he]
 have back:∀u n,(∃id,P id=some u)->Lv to u.a n->n<7->(m<n->Lv now u.a n)/\(n=m->m=0\/Lv now u.a m):=by
  rintro u n ⟨id,hu⟩ hl hn7;obtain⟨k,hk7,hk⟩:=aeT now u.a h.nw (h.pl _ _ hu).2.2;have:=lvl u k ⟨id,hu⟩ hk hk7;refine⟨λN=> ?_,λe=> ?_⟩
  ·rcases akn k m with J|J|J
   ·exact(this.1 J).elim
   ·by_cases hz:m=0\/dg u.a m≠dg to m
    ·have:=(this.2.2 J hz).uniq hl;omega
    ·exfalso;simp only[not_or,Classical.not_not] at hz;have e1:=hk.1;rw[J] at e1;have e2:to / 64^m=u.a / 64^m:=by
      have e3:=hm.1;rw[wE,wE] at e1 e3;unfold dg at hz;omega
     have:=KZ e2 (show m<=n by omega);rcases hl.2 with e|e
     ·omega
     ·exact e this
   ·have:=(this.2.1 J).uniq hl;rw[<- this];exact hk
  ·subst e;rcases akn k n with J|J|J
   ·exact(this.1 J).elim
   ·subst J;exact .inr hk
   ·have:=(this.2.1 J).uniq hl;omega
 refine⟨λid u hu=> ?_,h2,λn k u hn hk=> ?_,λn k hn hk=> ?_⟩
 ·obtain⟨g1,_⟩:=vK.1 hu;exact⟨(h.pl id u g1).1,R id u g1,(h.pl id u g1).2.2⟩
 ·rw[vK];by_cases hz:m=0
  ·rw[Ζ hz,Ζ hz,h.mem n k u hn hk];constructor
   ·rintro⟨g1,g2,g3⟩;refine⟨⟨g1,by simp⟩,?_,g3⟩;rcases akn n m with I|I|I
    ·omega
    ·exact(lvl u n ⟨_,g1⟩ g2 hn).2.2 I (.inl hz)
    ·exact(lvl u n ⟨_,g1⟩ g2 hn).2.1 I
   ·rintro⟨⟨g1,_⟩,g2,g3⟩;refine⟨g1,?_,g3⟩;rcases akn n m with I|I|I
    ·omega
    ·subst I;subst hz;refine⟨?_,.inl rfl⟩;rw[hm.1];exact g2.1
    ·exact(back u n ⟨_,g1⟩ g2 hn).1 I
  ·rw[Ε hz,Ε hz];have inM:∀u,u∈F m (dg to m)↔P u.id=some u/\Lv now u.a m/\dg u.a m=dg to m:=λu=>h.mem m _ u m7 (AU _ _);unfold vO;split
   ·rename_i e;obtain⟨rfl,rfl⟩:=e;constructor
    ·intro hx;simp at hx
    ·rintro⟨⟨g1,g2⟩,g3,g4⟩;exfalso;rcases(back u n ⟨_,g1⟩ g3 hn).2 rfl with e|e
     ·exact hz e
     ·exact g2 ((inM u).2 ⟨g1,e,g4⟩)
   ·rename_i U;rw[h.mem n k u hn hk];constructor
    ·rintro⟨g1,g2,g3⟩;have O:u∉F m (dg to m):=λhx=>by
      obtain⟨_,q2,q3⟩:=(inM u).1 hx;have:=g2.uniq q2;exact U ⟨this,by rw[<- g3,this,q3]⟩
     refine⟨⟨g1,O⟩,?_,g3⟩;rcases akn n m with I|I|I
     ·exact((lvl u n ⟨_,g1⟩ g2 hn).1 I).elim
     ·refine(lvl u n ⟨_,g1⟩ g2 hn).2.2 I (.inr λe=>U ⟨I,?_⟩);rw[<- g3,I,e]
     ·exact(lvl u n ⟨_,g1⟩ g2 hn).2.1 I
    ·rintro⟨⟨g1,g2⟩,g3,g4⟩;refine⟨g1,?_,g4⟩;rcases akn n m with I|I|I
     ·exfalso;obtain⟨j,hj7,hj⟩:=aeT now u.a h.nw (h.pl _ _ g1).2.2;have:=lvl u j ⟨_,g1⟩ hj hj7;rcases akn j m with q|q|q
      ·exact this.1 q
      ·by_cases hd:dg u.a m=dg to m
       ·exact g2 ((inM u).2 ⟨g1,q ▸ hj,hd⟩)
       ·have:=(this.2.2 q (.inr hd)).uniq g3;omega
      ·have:=(this.2.1 q).uniq g3;omega
     ·rcases(back u n ⟨_,g1⟩ g3 hn).2 I with e|e
      ·exact absurd e hz
      ·rw[I];exact e
     ·exact(back u n ⟨_,g1⟩ g3 hn).1 I
 ·by_cases hz:m=0
  ·rw[Ζ hz];exact h.nd n k hn hk
  ·rw[Ε hz];unfold vO;split
   ·simp
   ·exact h.nd n k hn hk
theorem ac9 {P:Ps} {t:Tm} {M:List Tm} (hp:P t.id=some t) (I:∀id u,P id=some u->u.id=id) (ht:t∉M):Gt (rest P (t::M)) t.id (some t)=rest P M:=by
 funext id;unfold Gt;split
 ·rename_i e;subst e;exact(vK.2 ⟨hp,ht⟩).symm
 ·rename_i e;unfold rest
  cases hu:P id with
  |none=>rfl
  |some u=>
   have:u≠t:=λh=>e (by rw[<- I id u hu,h]);simp[this]
theorem WI.abu (h:WI now P F) {t:Tm}:t∈F 0 (dg now 0)↔P t.id=some t/\t.a=now:=by
 rw[h.mem 0 _ t (by omega) (AU _ _)];constructor
 ·rintro⟨h1,h2,h3⟩;refine⟨h1,?_⟩;have:=h2.1;unfold dg at h3;simp only[Nat.pow_zero,Nat.div_one,ahA,Nat.pow_one] at h3 this;omega
 ·rintro⟨h1,h2⟩;rw[h2];exact⟨h1,Lv.self now,rfl⟩
theorem WI.due (h:WI now P F):WI now (rest P (F 0 (dg now 0))) (vO F 0 (dg now 0) []):=by
 refine⟨λid u hu=>h.pl id u (vK.1 hu).1,h.nw,λn k u hn hk=> ?_,λn k hn hk=> ?_⟩
 ·rw[vK];unfold vO;split
  ·rename_i e;obtain⟨rfl,rfl⟩:=e;constructor
   ·intro hx;simp at hx
   ·rintro⟨⟨g1,g2⟩,g3,g4⟩;exact(g2 ((h.mem 0 _ u hn hk).2 ⟨g1,g3,g4⟩)).elim
  ·rename_i I;rw[h.mem n k u hn hk];constructor
   ·rintro⟨g1,g2,g3⟩;refine⟨⟨g1,λhx=> ?_⟩,g2,g3⟩;obtain⟨_,q2,q3⟩:=(h.mem 0 _ u (by omega) (AU _ _)).1 hx;have:=g2.uniq q2;exact I ⟨this,by rw[<- g3,this,q3]⟩
   ·rintro⟨⟨g1,_⟩,g2,g3⟩;exact⟨g1,g2,g3⟩
 ·unfold vO;split
  ·simp
  ·exact h.nd n k hn hk
end Gp.Wh
end
section
namespace Go.Proofs.WN
open Gp Gp.Wh
abbrev eT (t:Tm):List Value:=[.int .i64 t.id,.int .i64 (t.a:Int),.int .i64 t.tn]
theorem lS (t:Tm):(eT t).length=3:=rfl
theorem Xy (t:Tm):∀v∈eT t,iL v=true:=by
 intro v hv;simp only[eT,afm,ajp,ajV] at hv;rcases hv with rfl|rfl|rfl<;>rfl
theorem jZ {f:FuncId} {cap:Array Value} {sh:List Shape} {args:List Value} {w:θ} {K:Value->b_} (hb:oq υ f=true) (h:Gw υ sh f (args++cap.toList) w K):
  jB υ sh (.func (.func f) #[] cap) args w K:=by
 unfold jB;simp only[hb,Δ];exact h
theorem jE {α:Type} {n:Nat} {f:α->List Value} {w:θ} {s:fU} {xs:List α} (hn:∀x,(f x).length=n) (hn0:0<n) (h:lD n f w s xs) {i:Int} {K:Addr->Prop} {x:α} (h0:0<=i) (hx:xs[i.toNat]? =some x)
  (hK:∀a:Addr,(∀j v,(f x)[j]? =some v->w.cell? (a.add j)=some v)->K a):iF s n i K:=by
 obtain⟨a,ha,hc⟩:=h.at_ hn hn0 hx;have hlt:=(ady.1 hx).1;obtain⟨sa,sl,sc⟩:=s;simp only at ha;subst ha;have hl:sl=xs.length:=h.len;refine(zU ..).2 ⟨h0,by omega,hK _ λj v hj=> ?_⟩;rw[<- hc j v hj];congr 1;obtain⟨b,o,t⟩:=a;unfold Addr.add;by_cases h1:i.toNat * n=0<;>by_cases h2:j=0<;>simp[h1,h2,akr]
theorem VP {w:θ} {s:fU} {l:List Tm} (h:lD 3 eT w s l) {k:Nat} {z:Tm} (hk:l[k]? =some z) {K:Addr->Prop} (hK:∀a,w.cell? (a.add 0)=some (.int .i64 z.id)->w.cell? (a.add 1)=some (.int .i64 (z.a:Int))->w.cell? (a.add 2)=some (.int .i64 z.tn)->K a):iF s 3 (k:Int) K:=
 jE lS (by omega) h (by omega) (by rw[Η];exact hk) λa hc=>hK a (hc 0 _ rfl) (hc 1 _ rfl) (hc 2 _ rfl)
theorem Nq (a:Int) (w:θ):lN a w λr w'=>r=false/\w'=w:=by
 apply D7;exact⟨by simp,rfl⟩
def Xp (a b:Int):Int:=if a<b then -1 else if a>b then 1 else 0
theorem RG (a b:Int) (w:θ):qY a b w λr w'=>r=Xp a b/\w'=w:=by
 apply LC;refine cmS0 (Nq _ _) ?_;rintro r w1 ⟨rfl,hw⟩;subst hw;refine cmS0 (Nq _ _) ?_;rintro r w1 ⟨rfl,hw⟩;subst hw;unfold Xp;by_cases h1:a<b
 ·simp only[h1,aaA,Δ,Β,ahN];exact⟨by trivial,by trivial⟩
 ·by_cases h2:a>b
  ·simp only[h1,h2,aaA,aaV,Δ,Β,ahN,aiC];exact⟨by trivial,by trivial⟩
  ·simp only[h1,h2,aaV,Β,aiC];exact⟨by trivial,by trivial⟩
def FnT (v:Value) (C:b_) (p:Tm->Bool):Prop:=∀x W (K:Value->b_),C W->(∀W',Ext W W'->K (.bool (p x)) W')->jB υ [.one .bool] v [.agg ⟨eT x⟩] W K
theorem nD {w:θ} {s:fU} {xs:List Tm} (hs:lD 3 eT w s xs) (hl:xs.length<=2^30):
  jM s w λr w'=>Ext w w'/\iY 3 eT w' r xs/\∀b,fU.at r b->w.heap.size<=b:=by
 apply rJ;have hlen:=hs.len
 cases ha:s.a with
 |none=>
  have hc:=hs.cells;rw[ha] at hc;have h0:xs.flatMap eT=[]:=hc;have u:=iT eT 3 lS xs;rw[h0] at u;have:xs=[]:=by
   cases xs with
   |nil=>rfl
   |cons _ _=>simp only[aeW,aiJ] at u;omega
  subst this;simp only[alx,Δ];exact⟨Ext.refl _,iY.nil,λb ⟨o,hb⟩=>by cases hb⟩
 |some a=>
  simp only[ak3,Β];refine gu λt w1 rt et zt f1=> ?_;have hb:iY 3 eT w1 ⟨some ⟨t,0,none⟩,0,0⟩ ([]:List Tm):=iY.row (xs:=[]) rt;refine mX lS hb (hs.ext f1) rfl (by omega) Xy (by simp only[aiJ];omega) (by simp only[aiJ];omega) λs' w' h1 h2 h3=> ?_;refine⟨f1.new h2 λb hb ⟨o,he⟩=>by cases he;omega,h1,λb hb=> ?_⟩;rcases h3 b hb with ⟨o,he⟩|h
  ·cases he;omega
  ·omega
theorem ahX {w:θ} {s:fU} {xs:List Tm} {v:Value} {p:Tm->Bool} {C:b_} (hs:lD 3 eT w s xs) (hl:xs.length<=2^30) (hp:FnT v C p) (hC:∀W,Ext w W->C W):
  jl s v w λr w'=>((r= -1/\xs.any p=false)\/∃j:Nat,r=(j:Int)/\j<xs.length/\(xs.take j).any p=false/\(xs.take (j+1)).filter (λx=> !p x)=xs.take j)/\Ext w w':=by
 apply pO;have hlen:=hs.len;refine gK (λst W=>∃j:Nat,j<=xs.length/\st.1=(j:Int)/\Ext w W/\(xs.take j).any p=false) (λst _=>(s.len - st.1).toNat) ⟨0,by omega,rfl,Ext.refl _,by simp⟩ ?_;rintro⟨i,⟨⟩⟩ W ⟨j,hj,hi,hx,hm⟩ next h
 simp only at hi;subst hi;by_cases I:(j:Int)<(s.len:Int)
 ·simp only[I,aaA,Δ];have u:=abe (show j<xs.length by omega);generalize xs[j]=x at u;have J:xs.take (j+1)=xs.take j++[x]:=by rw[akc,u];rfl
  refine VP (hs.ext hx) u λa c0 c1 c2=> ?_;simp only[sx,c0,c1,c2];refine hp x W _ (hC W hx) λW' hf=>⟨p x,rfl,?_⟩
  cases he:p x
  ·simp only[Β];rw[Α];refine h _ _ ⟨j+1,by omega,by simp,hx.trans hf,?_⟩ (by simp only;omega);rw[J,ak6,hm,ak7,he,ak8];rfl
  ·simp only[Δ];refine⟨.inr ⟨j,rfl,by omega,hm,?_⟩,hx.trans hf⟩;rw[J,ake,ak5.2 (λy hy=>by have:=akN.1 hm y hy;simpa using this)];simp[he]
 ·simp only[I,aaV,Β];rw[aji (by omega)] at hm;exact⟨.inl ⟨by trivial,hm⟩,hx⟩
theorem ab1 {w:θ} {b o n c:Nat} {L:List Value} {K:b_} (hr:Row w b L) (ho:o+n * 3<=L.length) (hK:∀w',Row w' b (spl L o (gW alM n))->gU w w' (·=b)->K w'):I7 alM ⟨some ⟨b,o,none⟩,n,c⟩ w K:=by
 have hrl:(gW [Value.int .i64 0,Value.int .i64 0,Value.int .i64 0] n).length=n * 3:=by rw[mQ];rfl
 refine⟨?_,by intro v hv;simp only[afm,ajp,ajV] at hv;rcases hv with rfl|rfl|rfl<;>rfl,?_⟩
 ·rintro a ha
  cases ha
  intro j hj;simp only[aeW,aiJ] at hj;rw[gJ,hr.cell];exact⟨by simp;omega,hr.frozen _⟩
 ·obtain⟨r,f⟩:=wL (gW [Value.int .i64 0,Value.int .i64 0,Value.int .i64 0] n) w L o 0 hr (by omega);refine hK _ ?_ (f (·=b) rfl);simpa [spl] using r
theorem Xt {w:θ} {s:fU} {xs:List Tm} {v:Value} {p:Tm->Bool} {C:b_} (hs:iY 3 eT w s xs) (hl:xs.length<=2^30) (hp:FnT v C p) (hC:∀W,gU w W (fU.at s)->C W):
  iI s v w λr w'=>iY 3 eT w' r (xs.filter λx=> !p x)/\gU w w' (fU.at s)/\∀b,fU.at r b->fU.at s b:=by
 apply pG;have hlen:=hs.len;have af:=hs.sl lS (by omega);have ab:=af.cap;refine cmS1 (ahX af hl hp λW hx=>hC W (hx _)) ?_;rintro r w1 ⟨h,x1⟩;have hs1:=hs.ext x1;rcases h with ⟨rfl,ak⟩|⟨i0,rfl,hi0,hany,O⟩
 ·rw[show ((-1:Int)== -1)=true from rfl,Δ];refine⟨?_,x1 _,λb hb=>hb⟩;rw[ak5.2 (λy hy=>by have:=akN.1 ak y hy;simpa using this)];exact hs1
 rw[show ((i0:Int)== -1)=false from akJ.2 (by omega),Β];obtain⟨b,pad,ha,hc,hr⟩:∃b pad,s.a=some ⟨b,0,none⟩/\s.cap * 3=xs.length * 3+pad.length/\Row w1 b (xs.flatMap eT++pad):=by
  rcases hs1.mem with ⟨_,h,_⟩|h
  ·rw[h] at hi0;simp at hi0
  ·exact h
 obtain⟨sa,sl,sc⟩:=s;simp only at ha hc hlen ab;subst ha;subst hlen;rw[Α (n:=(i0:Int)+1) (by omega) (by omega)];have ag:∀{W},gU w1 W (·=b)->gU w W (fU.at ⟨some ⟨b,0,none⟩,xs.length,sc⟩):=λhf=>(x1 _).trans (hf.mono λc hc=>⟨0,by rw[hc]⟩) λ_ _ h=>h;have fl3:∀ys:List Tm,(ys.flatMap eT).length=ys.length * 3:=λys=>iT eT 3 lS ys;refine gK (λst W=>∃j:Nat,j<=xs.length/\st.2.1=(j:Int)/\st.1=(((xs.take j).filter λx=> !p x).length:Int)/\((xs.take j).filter λx=> !p x).length<j/\gU w1 W (·=b)/\∃mid,mid.length=(j - ((xs.take j).filter λx=> !p x).length) * 3/\Row W b (((xs.take j).filter λx=> !p x).flatMap eT++(mid++((xs.drop j).flatMap eT++pad))))
  (λst _=>(xs.length - st.2.1).toNat) ⟨i0+1,by omega,by simp,by rw[O,ahP,akw (by omega)],by rw[O,ahP];omega,gU.refl _ _,?_⟩ ?_
 ·rw[O,ahP,akw (by omega)];refine⟨eT xs[i0],by rw[lS];omega,?_⟩;have:xs.flatMap eT=(xs.take i0).flatMap eT++(eT xs[i0]++(xs.drop (i0+1)).flatMap eT):=by
   conv=>lhs;rw[<- ajS i0 xs,akB hi0,ajT,ajB]
  rw[this] at hr;simpa only [ajj] using hr
 rintro⟨i',j',⟨⟩⟩ W ⟨j,hj,hj1,hi1,hij,hf,mid,U,Y⟩ next N
 simp only at hj1 hi1;subst hj1 hi1;generalize R:(xs.take j).filter (λx=> !p x)=kp at *;by_cases ah:(j:Int)<(xs.length:Int)
 ·rw[ab9 ah,Δ];intro J;have hx:=abe (show j<xs.length by omega);have ai:=akB (show j<xs.length by omega);generalize xs[j]=x at hx ai;have aj:xs.take (j+1)=xs.take j++[x]:=by rw[akc,hx];rfl
  rw[ai,ajB] at Y;have u:∀m,m<3->W.cell? ⟨b,j * 3+m,none⟩=(eT x)[m]? :=by
   intro m hm;rw[Y.cell,ajy (by rw[fl3];omega),ajy (by rw[fl3];omega),fl3,U,show j * 3+m - kp.length * 3 - (j - kp.length) * 3=m by omega,ajj,aj8 (by rw[lS];omega)]
  have q0:=u 0 (by omega);have q1:=u 1 (by omega);have q2:=u 2 (by omega);simp only[ajt,eT,d_] at q0 q1 q2;refine(zU _ xs.length sc _ (j:Int) _).2 ⟨by omega,by omega,?_⟩;rw[gJ,ahA,Η];simp -zeta only[sx,q0,q1,q2];refine Gu rfl rfl λz w2 r2 e2 z2 f2=> ?_;simp -zeta only[sx,r2.cell];have hf2:=hf.ext f2;refine hp x w2 _ (hC w2 (ag hf2)) λw3 f3=>⟨p x,rfl,?_⟩;have hf3:=hf2.ext f3;have r3:=r2.ext f3;have Z:=(Y.ext f2).ext f3
  cases he:p x
  ·rw[aek,Δ];simp -zeta only[d_,fZ,gq,r3.cell];have I:(xs.take (j+1)).filter (λx=> !p x)=kp++[x]:=by rw[aj,ake,R];simp[he]
   refine⟨by omega,by omega,?_⟩;rw[Η];refine QC (eT x) w3 _ (kp.length * 3) 0 Z (Xy x) (by simp only[adH,fl3,lS];omega) λW2 rr2 g2 zz2=> ?_;obtain⟨m0,m1,am,hm0⟩:∃m0 m1,mid=m0++m1/\m0.length=3:=⟨mid.take 3,mid.drop 3,(ajS ..).symm,by rw[ahP];omega⟩;subst am;have an:∀(A B C D:List Value),B.length=3->A.length=kp.length * 3->(A++(B++C++D)).take (kp.length * 3+0)++eT x++(A++(B++C++D)).drop (kp.length * 3+0+(eT x).length)=A++(eT x++(C++D)):=by
    intro A B C D hB hA;rw[ajt,<- hA,List.take_left' rfl,lS,<- hB,<- alf,List.drop_left' rfl,ajj B,List.drop_left' rfl,ajj]
   rw[an _ _ _ _ hm0 (fl3 kp)] at rr2;simp only[J];rw[Α,Α];rw[adH,hm0] at U;refine N _ _ ⟨j+1,by omega,by simp,by rw[I];simp,by rw[I];simp;omega,hf3.trans (g2 (·=b) rfl) λ_ _ e=>e,m1++eT x,by rw[I,adH,lS,adH,ako];omega,?_⟩ (by simp only;omega);rw[I,ajT];simpa [ajj] using rr2
  ·rw[ab6,Β];have I:(xs.take (j+1)).filter (λx=> !p x)=kp:=by rw[aj,ake,R];simp[he]
   simp only[J];rw[Α];refine N _ _ ⟨j+1,by omega,by simp,by rw[I],by rw[I];omega,hf3,mid++eT x,by rw[I,adH,lS];omega,?_⟩ (by simp only;omega);rw[I];simpa only [ajj] using Z
 ·rw[abW ah,Β];have ao:j=xs.length:=by omega
  subst ao;rw[ajU] at R;rw[List.drop_length,List.flatMap_nil,akC] at Y;refine⟨by(try simp only);omega,by(try simp only);omega,by(try simp only);omega,?_⟩
  simp only[Η];have aq:sc≠kp.length:=by omega
  have ac:qM (some (⟨b,0,none⟩:Addr)) sc kp.length 3=some ⟨b,kp.length * 3,none⟩:=by
   unfold qM;rw[Ε aq,aik,gJ,ahA]
  rw[ac];refine ab1 Y (by simp only[adH,fl3];omega) λW2 r2 g2=> ?_;have ar:(gW [Value.int .i64 0,Value.int .i64 0,Value.int .i64 0] (xs.length - kp.length)).length=(xs.length - kp.length) * 3:=by rw[mQ];rfl
  have ae:spl (kp.flatMap eT++(mid++pad)) (kp.length * 3) (gW [Value.int .i64 0,Value.int .i64 0,Value.int .i64 0] (xs.length - kp.length))=kp.flatMap eT++(gW [Value.int .i64 0,Value.int .i64 0,Value.int .i64 0] (xs.length - kp.length)++pad):=by
   have:=Ju (A:=kp.flatMap eT) (B:=mid) (C:=pad) (vs:=gW [Value.int .i64 0,Value.int .i64 0,Value.int .i64 0] (xs.length - kp.length)) (by omega);rw[fl3] at this;exact this
  rw[ae] at r2;refine⟨by(try simp only);omega,by(try simp only);omega,by(try simp only);omega,?_⟩
  have aa:qM (some (⟨b,0,none⟩:Addr)) sc 0 3=some ⟨b,0,none⟩:=by
   unfold qM;split<;>simp[Addr.add]
  simp only[Η,ak4,aky,aa];refine⟨⟨by rw[R],.inr ⟨b,gW [Value.int .i64 0,Value.int .i64 0,Value.int .i64 0] (xs.length - kp.length)++pad,rfl,?_,?_⟩⟩,ag (hf.trans g2 λ_ _ e=>e),λc hc=> ?_⟩
  ·rw[R,adH,ar];simp only;omega
  ·rw[R];exact r2
  ·obtain⟨o,e⟩:=hc;exact⟨o,e⟩
theorem ah9 {w:θ} {s:fU} {xs:List Tm} (hs:lD 3 eT w s xs) (hl:xs.length<=2^30) (U:xs≠[]):
  jI s (Value.func (.func Ib) #[] #[]) w λr0 r1 r2 w'=>Ext w w'/\∃t∈xs,r1=(t.a:Int)/\∀u∈xs,t.a<=u.a:=by
 apply qK;have hlen:=hs.len;have N:0<xs.length:=List.length_pos_iff.2 U;refine gu λp4 w1 r1 e1 z1 f1=> ?_;rw[abW (by omega),Β];have hx0:=abe N;generalize xs[0]=x0 at hx0;refine VP (k:=0) (hs.ext f1) hx0 λa c0 c1 c2=> ?_;simp -zeta only[sx,c0,c1,c2];refine Gu rfl rfl λpm w2 r2 e2 z2 f2=> ?_;have x2:=f1.trans f2;have z1':=f1.size;have z2':=f2.size;refine gK (λst W=>∃j:Nat,j<=xs.length/\st.1=(j:Int)/\gU w2 W (·=pm)/\∃t∈xs,Row W pm (eT t)/\∀u∈xs.take j,t.a<=u.a) (λst _=>(s.len - st.1).toNat)
  ⟨1,by omega,rfl,gU.refl _ _,x0,ajF hx0,r2,λu hu=> ?_⟩ ?_
 ·obtain⟨k,hk,he⟩:=alj.1 hu;have:k=0:=by omega
  subst this;rw[abe N] at hx0;simp only[afM] at hx0;rw[<- he,hx0];exact aiq _
 rintro⟨i,⟨⟩⟩ W ⟨j,hj,hi,hf,t,ht,rt,h⟩ next I
 simp only at hi;subst hi;have xW:Ext w W:=x2.new hf λy hy e=>by omega
 by_cases O:(j:Int)<(s.len:Int)
 ·rw[ab9 O,Δ];intro J;have hx:=abe (show j<xs.length by omega);generalize xs[j]=x at hx;have R:xs.take (j+1)=xs.take j++[x]:=by rw[akc,hx];rfl
  have xWd:=xW.trans (Ext.drew W);refine VP (hs.ext xW) hx λa c0 c1 c2=> ?_;have rtd:=rt.drew;have d0:W.drew.cell? (a.add 0)=_:=c0;have d1:W.drew.cell? (a.add 1)=_:=c1;have d2:W.drew.cell? (a.add 2)=_:=c2;simp -zeta only[sx,d0,d1,d2,rtd.cell];refine jZ (by kernel_rfl) ?_;have call:yD x.id x.a x.tn t.id t.a t.tn W.drew λr W'=>r=Xp (x.a:Int) (t.a:Int)/\Ext W.drew W':=by
   apply Gm;refine gu λp W1 q1 _ _ g1=>gu λp' W2 q2 _ _ g2=> ?_;have q1:=q1.ext g2;simp only[sx,q1.cell,q2.cell];refine cmS1 (RG _ _ _) ?_;rintro r W3 ⟨rfl,hw⟩;subst hw;exact⟨rfl,g1.trans g2⟩
  refine Calls.mono call ?_;rintro e W3 ⟨r,he,rfl,g3⟩;refine⟨_,he,_,rfl,?_⟩;have hf3:=(hf.ext (Ext.drew W)).ext g3;have xW3:=xWd.trans g3;have rt3:=rtd.ext g3;by_cases hc:x.a<t.a
  ·have hc1:Xp (x.a:Int) (t.a:Int)<0:=by unfold Xp;rw[Ζ (by omega)];omega
   rw[ab9 hc1,Δ];refine VP (hs.ext xW3) hx λa c0 c1 c2=> ?_;simp -zeta only[c0,c1,c2,fZ,gq];refine gZ rt3 rfl rfl λW4 r4 g4 z4=> ?_;simp only[J];rw[Α];refine I _ _ ⟨j+1,by omega,by simp,hf3.trans (g4 (·=pm) rfl) λ_ _ e=>e,x,ajF hx,r4,λu hu=> ?_⟩ (by simp only;omega);rw[R,ajk,aiB] at hu;rcases hu with hu|rfl
   ·have:=h u hu;omega
   ·omega
  ·have hc1:¬Xp (x.a:Int) (t.a:Int)<0:=by
    unfold Xp;rw[Ε (by omega)];split<;>omega
   rw[abW hc1,Β];simp only[J];rw[Α];refine I _ _ ⟨j+1,by omega,by simp,hf3,t,ht,rt3,λu hu=> ?_⟩ (by simp only;omega);rw[R,ajk,aiB] at hu;rcases hu with hu|rfl
   ·exact h u hu
   ·omega
 ·rw[abW O,Β];rw[aji (by omega)] at h;simp only[sx,rt.cell];have r1W:Row W p4 _:=(r1.ext f2).fr hf (by omega);refine gZ r1W rfl rfl λW4 r4 g4 z4=> ?_;simp only[d_,fZ,gq,r4.cell];exact⟨xW.new (g4 (·=p4) rfl) λy hy e=>by omega,t,ht,by trivial,h⟩
end Go.Proofs.WN
end
section
namespace Go.Proofs.WN
open Gp Gp.Wh
theorem YW {a b:Nat} (ha:a<2^63) (hb:b<2^63):UE .i64 (a:Int) (b:Int)=((a^^^b:Nat):Int):=by
 unfold UE;have h1:(BitVec.ofInt (IntKind.bits .i64) (a:Int)).toNat=a:=by rw[vT,aj1];omega
 have h2:(BitVec.ofInt (IntKind.bits .i64) (b:Int)).toNat=b:=by rw[vT,aj1];omega
 rw[BitVec.toNat_xor,h1,h2];have:a^^^b<2^63:=alB ha hb;rw[Α]
theorem p64 (n:Nat):2^(6 * n)=64^n:=by rw[Nat.pow_mul]
theorem abV (a b n:Nat):(a^^^b) / 64^n=(a / 64^n)^^^(b / 64^n):=by
 rw[<- p64,<- alK,<- alK,<- alK,Nat.shiftRight_xor_distrib]
theorem xor_zero {a b:Nat}:a^^^b=0↔a=b:=by
 constructor
 ·intro h;refine Nat.eq_of_testBit_eq λi=> ?_;have:=congrArg (λx=>Nat.testBit x i) h;simp only[Nat.testBit_xor,Nat.zero_testBit] at this;revert this
  cases a.testBit i<;>cases b.testBit i<;>simp
 ·rintro rfl;exact Nat.xor_self a
theorem ZH {now a:Nat} (h1:now<=2^40) (h2:a<=2^40) (w:θ):xQ now a w λr w'=>(∃n:Nat,r=(n:Int)/\Lv now a n)/\w'=w:=by
 apply Ug;rw[YW (by omega) (by omega)];have hx:now^^^a<2^41:=alB (by omega) (by omega);refine gK (λst W=>W=w/\∃n:Nat,st.1=(n:Int)/\st.2.1=(((now^^^a) / 64^n:Nat):Int)/\n<=7/\(n=0\/now / 64^n≠a / 64^n)) (λst _=>st.2.1.toNat) ⟨rfl,0,rfl,by simp,by omega,.inl rfl⟩ ?_;rintro⟨i,d,⟨⟩⟩ W ⟨rfl,n,hi,hd,hn,J⟩ next u
 simp only at hi hd;subst hi hd;generalize hD:(now^^^a) / 64^n=D;have e1:(now^^^a) / 64^(n+1)=D / 64:=by rw[wE,hD]
 by_cases I:(D:Int)>=64
 ·rw[ab9 I,Δ];refine⟨by omega,?_⟩;have hD7:n<7:=by
   refine akp λh=> ?_;have:(now^^^a) / 64^n=0:=by
    refine aly (ajn hx ?_)
    calc 2^41<=64^7:=by decide
     _<=64^n:=akO (by omega) (by omega)
   omega
  rw[Α,show (6:Int)=((6:Nat):Int) from rfl,CJ (by omega)];refine u _ _ ⟨rfl,n+1,by simp,by rw[e1],by omega,.inr λhe=> ?_⟩ (by simp only[Η];omega);rw[abV,he,Nat.xor_self] at e1;omega
 ·rw[abW I,Β];refine⟨⟨n,rfl,?_,J⟩,rfl⟩;have:D / 64=0:=aly (by omega);rw[this,abV,xor_zero] at e1;exact e1
def RY (k:Int):Value:= .int .i64 k
def slV (s:fU):Value:= .slice s.a s.len s.cap
def evT (t:Tm):Value:= .agg ⟨eT t⟩
theorem eqW (a b:Int):E8 υ 16 3 (RY a) (RY b)=some (decide (a=b)):=by
 have h:E8 υ 16 3 (.int .i64 a) (.int .i64 b)=some (a==b):=by kernel_rfl
 rw[RY,RY,h];congr 1
theorem aaw (a:Int):oz υ 3 (RY a)=true:=by
 have h:oz υ 3 (.int .i64 a)=true:=by kernel_rfl
 exact h
theorem ab7 {α β:Type} [DecidableEq α] {enc:α->Value} {ev:β->Value} {w:θ} {r:Nat} {l:List (α×β)} {P:Program} {kt:TypeId} (h:rG enc ev w r l) (hE:∀a b:α,E8 P 16 kt (enc a) (enc b)=some (decide (a=b))) (a:α) (hk:oz P kt (enc a)=true) {z:Value} {K:Value->Bool->Prop}
  (h0:lJ l a=none->K z false) (h1:∀b,lJ l a=some b->K (ev b) true):I8 P kt (some r) (enc a) z w K:=by
 obtain⟨es,c,g1,g2,_⟩:=h;refine⟨hk,.inr ⟨r,es,c,rfl,g1,?_⟩⟩
 cases hl:lJ l a with
 |none=>
  cases l with
  |nil=>
   have:es.toList=[]:=by simpa using g2
   exact⟨none,by rw[this];rfl,h0 hl⟩
  |cons x l'=>
   rcases Nb hE a x.2 es.toList _ 0 g2 with ⟨_,q2,_⟩|⟨j,v,e,q1,_⟩
   ·exact⟨_,q2,h0 hl⟩
   ·rw[hl] at q1;cases q1
 |some b=>
  rcases Nb hE a b es.toList _ 0 g2 with ⟨q1,_,_⟩|⟨j,v,e,q1,q2,_⟩
  ·rw[hl] at q1;cases q1
  ·rw[hl] at q1;cases q1;exact⟨_,q2,h1 b hl⟩
theorem adE {α β:Type} {enc:α->Value} {ev:β->Value} {w:θ} {r:Nat} {l:List (α×β)} (h:rG enc ev w r l) {K:Int->Prop} (hK:K (l.length:Int)):W_ w (some r) K:=by
 obtain⟨es,c,h1,h2,_⟩:=h;refine⟨es,c,h1,?_⟩;have:es.size=l.length:=by
  have:=congrArg List.length h2;simpa using this
 rw[this];exact hK
abbrev PL:=List (Int×Tm)
def atS (ss:List fU) (b:Nat):Prop:=∃(i:Nat) (s:fU),ss[i]? =some s/\fU.at s b
def pK (d m:Nat) (ss:List fU) (b:Nat):Prop:=b=d\/b=m\/atS ss b
structure WM (w:θ) (d m:Nat) (ss:List fU) (l:PL) (now:Nat) (tn most:Int) (F:Fs):Prop where
 hd:Row w d (ss.map slV++[.map (some m),.int .i64 (now:Int),.int .i64 tn,.int .i64 most])
 len:ss.length=448
 mp:rG RY evT w m l
 nd:(l.map (·.1)).Nodup
 buf:∀n k,n<7->k<64->∃s,ss[n * 64+k]? =some s/\iY 3 eT w s (F n k)
 ap:∀(i j:Nat) s s' b,i≠j->ss[i]? =some s->ss[j]? =some s'->fU.at s b->¬fU.at s' b
 ne:∀b,atS ss b->b≠d/\b≠m
 dm:d≠m
 sm:∀n k,n<7->k<64->(F n k).length<=2^21
section
variable {w w':θ} {d m:Nat} {ss:List fU} {l:PL} {now:Nat} {tn most:Int} {F:Fs}
theorem WM.fr {S:Nat->Prop} (h:WM w d m ss l now tn most F) (hf:gU w w' S) (hs:∀b,pK d m ss b->¬S b):WM w' d m ss l now tn most F:=
 ⟨h.hd.fr hf (hs _ (.inl rfl)),h.len,h.mp.fr hf (hs _ (.inr (.inl rfl))),h.nd,λn k hn hk=>by
  obtain⟨s,h1,h2⟩:=h.buf n k hn hk;exact⟨s,h1,h2.fr hf λb hb=>hs b (.inr (.inr ⟨_,s,h1,hb⟩))⟩,h.ap,h.ne,h.dm,h.sm⟩
theorem WM.ext (h:WM w d m ss l now tn most F) (hf:Ext w w'):WM w' d m ss l now tn most F:=h.fr (hf λ_=>False) (λ_ _=>by simp)
theorem WM.agU (h:WM w d m ss l now tn most F) {b:Nat} (hb:atS ss b):∃n k s,n<7/\k<64/\ss[n * 64+k]? =some s/\fU.at s b/\iY 3 eT w s (F n k):=by
 obtain⟨i,s,hi,hs⟩:=hb;have hlt:=(ady.1 hi).1;have hl:=h.len;obtain⟨s',h1,h2⟩:=h.buf (i / 64) (i % 64) (by omega) (by omega);have e:i / 64 * 64+i % 64=i:=by omega
 rw[e,hi] at h1
 cases h1
 exact⟨i / 64,i % 64,s,by omega,by omega,by rw[e];exact hi,hs,h2⟩
theorem WM.lt (h:WM w d m ss l now tn most F) {b:Nat} (hb:pK d m ss b):b<w.heap.size:=by
 rcases hb with rfl|rfl|hb
 ·exact h.hd.lt
 ·exact h.mp.lt
 ·obtain⟨n,k,s,_,_,_,h1,h2⟩:=h.agU hb;exact h2.lt h1
theorem WM.ad2 (h:WM w d m ss l now tn most F):w.cell? ⟨d,448,none⟩=some (.map (some m)):=by
 rw[h.hd.cell,ajy (by rw[ahv,h.len];omega),ahv,h.len];rfl
theorem WM.Xm (h:WM w d m ss l now tn most F):w.cell? ⟨d,449,none⟩=some (.int .i64 (now:Int)):=by
 rw[h.hd.cell,ajy (by rw[ahv,h.len];omega),ahv,h.len];rfl
theorem WM.ahL (h:WM w d m ss l now tn most F):w.cell? ⟨d,450,none⟩=some (.int .i64 tn):=by
 rw[h.hd.cell,ajy (by rw[ahv,h.len];omega),ahv,h.len];rfl
theorem WM.ajz (h:WM w d m ss l now tn most F):w.cell? ⟨d,451,none⟩=some (.int .i64 most):=by
 rw[h.hd.cell,ajy (by rw[ahv,h.len];omega),ahv,h.len];rfl
theorem WM.cs (h:WM w d m ss l now tn most F) {i:Nat} {s:fU} (hi:ss[i]? =some s):w.cell? ⟨d,i,none⟩=some (.slice s.a s.len s.cap):=by
 have u:=(ady.1 hi).1;rw[h.hd.cell,aj8 (by rw[ahv];exact u),aiF,hi];rfl
theorem WM.agS (h:WM w d m ss l now tn most F) {n k:Nat} (hn:n<7) (hk:k<64) {s:fU} (hs:ss[n * 64+k]? =some s) {w1:θ} {s':fU} {L:List Tm} {S:Nat->Prop} (hf:gU w w1 S) (hS:∀b,pK d m ss b->S b->fU.at s b)
  (hb:iY 3 eT w1 s' L) (N:∀b,fU.at s' b->fU.at s b\/w.heap.size<=b) (hL:L.length<=2^21) {K:b_}
  (hK:∀w2,WM w2 d m (ss.set (n * 64+k) s') l now tn most (vO F n k L)->gU w1 w2 (·=d)->w2.heap.size=w1.heap.size->K w2):St w1 ⟨d,n * 64+k,none⟩ (.slice s'.a s'.len s'.cap) K:=by
 have hl:=h.len;have O:n * 64+k<ss.length:=by omega
 have atd:¬fU.at s d:=λe=>(h.ne d ⟨_,s,hs,e⟩).1 rfl;have atm:¬fU.at s m:=λe=>(h.ne m ⟨_,s,hs,e⟩).2 rfl;have hd1:=h.hd.fr hf λe=>atd (hS d (.inl rfl) e);have I:∀j,(ss.set (n * 64+k) s')[j]? =if n * 64+k=j then some s' else ss[j]? :=λj=>by
  rw[ajo];split
  ·first|rfl|rw[Ζ O]
  ·rfl
 refine gX hd1 rfl (by rw[adH,ahv];omega) λw2 r2 f2 z2=> ?_;have f2d:=f2 (·=d) rfl;rw[List.set_append_left _ _ (by rw[ahv];exact O),<- (show (ss.set (n * 64+k) s').map slV=(ss.map slV).set (n * 64+k) (Value.slice s'.a s'.len s'.cap) from List.map_set)] at r2;have s'd:∀b,fU.at s' b->b≠d/\b≠m:=λb hb'=>by
  rcases N b hb' with e|e
  ·exact h.ne b ⟨_,s,hs,e⟩
  ·have q1:=h.lt (.inl rfl:pK d m ss d);have q2:=h.lt (.inr (.inl rfl):pK d m ss m);exact⟨by omega,by omega⟩
 have s'o:∀b j u,j≠n * 64+k->ss[j]? =some u->fU.at u b->¬fU.at s' b:=λb j u hj hu J hb'=>by
  rcases N b hb' with e|e
  ·exact h.ap j _ u s b hj hu hs J e
  ·have:=h.lt (.inr (.inr ⟨j,u,hu,J⟩):pK d m ss b);omega
 refine hK w2 ⟨r2,by rw[ajl];exact hl,(h.mp.fr hf λe=>atm (hS m (.inr (.inl rfl)) e)).fr f2d (λe=>h.dm e.symm),h.nd,λn' k' hn' hk'=> ?_,λi j u u' b R hi hj hu hu'=> ?_,λb hb'=> ?_,h.dm,λn' k' hn' hk'=> ?_⟩ f2d z2
 ·rw[I];unfold vO;by_cases e:n'=n/\k'=k
  ·rw[Ζ e,Ζ (by rw[e.1,e.2])];exact⟨s',rfl,hb.fr f2d λb hb'=>(s'd b hb').1⟩
  ·rw[Ε e,Ε (by omega)];obtain⟨u,h1,h2⟩:=h.buf n' k' hn' hk';refine⟨u,h1,(h2.fr hf λb J U=> ?_).fr f2d λb J=>(h.ne b ⟨_,u,h1,J⟩).1⟩;exact h.ap _ _ u s b (by omega) h1 hs J (hS b (.inr (.inr ⟨_,u,h1,J⟩)) U)
 ·rw[I] at hi hj;split at hi
  ·rename_i e1;split at hj
   ·omega
   ·rename_i e2
    cases hi
    exact s'o b j u' (by omega) hj hu' hu
  ·rename_i e1;split at hj
   ·cases hj;exact s'o b i u (by omega) hi hu hu'
   ·exact h.ap i j u u' b R hi hj hu hu'
 ·obtain⟨j,u,hj,hu⟩:=hb';rw[I] at hj;split at hj
  ·cases hj;exact s'd b hu
  ·exact h.ne b ⟨j,u,hj,hu⟩
 ·unfold vO;split
  ·exact hL
  ·exact h.sm n' k' hn' hk'
theorem WM.setH (h:WM w d m ss l now tn most F) {now':Nat} {tn':Int} {j:Nat} {v:Value} (hv:iL v=true) (hj:(ss.map slV++[Value.map (some m),Value.int .i64 (now:Int),Value.int .i64 tn,Value.int .i64 most]).set j v=ss.map slV++[Value.map (some m),Value.int .i64 (now':Int),Value.int .i64 tn',Value.int .i64 most]) (hj2:j<452) {K:b_}
  (hK:∀w2,WM w2 d m ss l now' tn' most F->gU w w2 (·=d)->w2.heap.size=w.heap.size->K w2):St w ⟨d,j,none⟩ v K:=by
 refine gX h.hd hv (by rw[adH,ahv,h.len];exact hj2) λw2 r2 f2 z2=> ?_;rw[hj] at r2;have f2d:=f2 (·=d) rfl;exact hK w2 ⟨r2,h.len,h.mp.fr f2d (λe=>h.dm e.symm),h.nd,λn k hn hk=>by
  obtain⟨s,h1,h2⟩:=h.buf n k hn hk;exact⟨s,h1,h2.fr f2d λb hb=>(h.ne b ⟨_,s,h1,hb⟩).1⟩,h.ap,h.ne,h.dm,h.sm⟩ f2d z2
theorem WM.ain (h:WM w d m ss l now tn most F) (now':Nat) {K:b_}
  (hK:∀w2,WM w2 d m ss l now' tn most F->gU w w2 (·=d)->w2.heap.size=w.heap.size->K w2):St w ⟨d,449,none⟩ (.int .i64 (now':Int)) K:=
 h.setH rfl (by rw[akH _ _ (by rw[ahv,h.len];omega),ahv,h.len];rfl) (by omega) hK
theorem WM.ajb (h:WM w d m ss l now tn most F) (tn':Int) {K:b_}
  (hK:∀w2,WM w2 d m ss l now tn' most F->gU w w2 (·=d)->w2.heap.size=w.heap.size->K w2):St w ⟨d,450,none⟩ (.int .i64 tn') K:=
 h.setH rfl (by rw[akH _ _ (by rw[ahv,h.len];omega),ahv,h.len];rfl) (by omega) hK
theorem WM.ajP (h:WM w d m ss l now tn most F) (t:Tm) {K:b_}
  (hK:∀w2,WM w2 d m ss (Bo l t.id t) now tn most F->gU w w2 (·=m)->w2.heap.size=w.heap.size->K w2):oP υ 3 (some m) (.int .i64 t.id) (.agg ⟨eT t⟩) w K:=
 Ag (enc:=RY) (ev:=evT) h.mp eqW t.id t (aaw _) λw2 g2 f2 z2=>hK w2 ⟨h.hd.fr f2 h.dm,h.len,g2,Oc h.nd _ _,λn k hn hk=>by
  obtain⟨s,h1,h2⟩:=h.buf n k hn hk;exact⟨s,h1,h2.fr f2 λb hb=>(h.ne b ⟨_,s,h1,hb⟩).2⟩,h.ap,h.ne,h.dm,h.sm⟩ f2 z2
theorem WM.ajC (h:WM w d m ss l now tn most F) (id:Int) {K:b_}
  (hK:∀w2,WM w2 d m ss (DW l id) now tn most F->gU w w2 (·=m)->w2.heap.size=w.heap.size->K w2):Gy υ 3 (some m) (.int .i64 id) w K:=
 Rh (enc:=RY) (ev:=evT) h.mp eqW id (aaw _) λw2 g2 f2 z2=>hK w2 ⟨h.hd.fr f2 h.dm,h.len,g2,h.nd.sublist ((Xu l id).map _),λn k hn hk=>by
  obtain⟨s,h1,h2⟩:=h.buf n k hn hk;exact⟨s,h1,h2.fr f2 λb hb=>(h.ne b ⟨_,s,h1,hb⟩).2⟩,h.ap,h.ne,h.dm,h.sm⟩ f2 z2
theorem WW (h:WM w d m ss l now tn most F):oL (some ⟨d,0,none⟩) w λr w'=>r=true/\w'=w:=by
 apply IL;simp only[sx,h.ad2,aek];exact⟨by trivial,by trivial⟩
theorem aed {a n:Nat} (hn:n<7):kT .i64 (jy .i64 (a:Int) (ο.wrap (6 * (n:Int)))) 63=((dg a n:Nat):Int)/\ο.wrap (6 * (n:Int))=((6 * n:Nat):Int):=by
 have e:ο.wrap (6 * (n:Int))=((6 * n:Nat):Int):=by rw[Α];omega
 refine⟨?_,e⟩;rw[e,CJ (by omega),p64];unfold dg;have:∀x:Nat,kT .i64 (x:Int) 63=((x % 64:Nat):Int):=by
  intro x;unfold kT;have h1:(BitVec.ofInt (IntKind.bits .i64) (x:Int)).toNat=x % 2^64:=by rw[vT,aj1];omega
  have h2:(BitVec.ofInt (IntKind.bits .i64) 63).toNat=2^6 - 1:=by rw[vT,aj1];rfl
  rw[akU,h1,h2,I_,Α];omega
 exact this _
theorem UD (h:WM w d m ss l now tn most F) (h1:now<=2^40) {a:Nat} (h2:a<=2^40):nC (some ⟨d,0,none⟩) (a:Int) w λr w'=>(∃n,n<7/\Lv now a n/\r=some ⟨d,n * 64+dg a n,none⟩)/\Ext w w':=by
 apply Kv;simp only[sx,h.Xm];refine cmS1 (ZH h1 h2 w) ?_;rintro r w1 ⟨⟨n,rfl,hl⟩,hw⟩;subst hw;have hn:=hl.lt h1 h2;obtain⟨e1,e2⟩:=aed (a:=a) hn;have hd:=AU a n;rw[e1,e2];simp only[Η,ahy];exact⟨by omega,by omega,by omega,by omega,by omega,⟨n,hn,hl,rfl⟩,Ext.drew _⟩
theorem abU (h:WM w d m ss l now tn most F) (h1:now<=2^40) (t:Tm) (h2:t.a<=2^40) (hl:∀n k,n<7->k<64->(F n k).length<2^21):
  rD (some ⟨d,0,none⟩) t.id (t.a:Int) t.tn w λw'=>gU w w' (pK d m ss)/\∃n ss',n<7/\Lv now t.a n/\WM w' d m ss' l now tn most (vO F n (dg t.a n) (F n (dg t.a n)++[t]))/\∀b,pK d m ss' b->pK d m ss b\/w.heap.size<=b:=by
 apply LX;refine gu λp w1 r1 e1 z1 f1=> ?_;have hw1:=h.ext f1;simp only[sx,r1.cell];refine cmS17 (UD hw1 h1 h2) ?_;rintro _ w2 ⟨⟨n,hn,J,rfl⟩,f2⟩;have x2:=f1.trans (f2.trans (Ext.drew w2));have h2w:=h.ext x2;have r2:=(r1.ext f2).drew;have hk:=AU t.a n;obtain⟨s,hs,hb⟩:=h2w.buf n (dg t.a n) hn hk;have hll:=hl n (dg t.a n) hn hk;simp only[wG,d_,fZ,gI,gq,h2w.cs hs,r2.cell];refine gu λq w3 r3 e3 z3 f3=> ?_;have h3:=h2w.ext f3;simp only[aeA,h3.cs hs];have N:lD 3 eT w3 ⟨some ⟨q,0,none⟩,1,1⟩ [t]:=(iY.row (xs:=[t]) (f:=eT) (n:=3) (by simpa using r3)).sl lS (by omega);refine mX lS (hb.ext f3) N rfl (by omega) Xy (by simp only[ako];omega) (by simp only[ako];omega) λs4 w4 b4 f4 n4=> ?_;have x3:=x2.trans f3;refine h3.agS hn hk hs f4 (λb _ hb=>hb) b4 n4 (by rw[adH,ako];omega) λw5 h5 f5 z5=> ?_;have I:∀b,fU.at s b->pK d m ss b:=λb hb=> .inr (.inr ⟨_,s,hs,hb⟩);refine⟨((x3 (pK d m ss)).trans (f4.mono I) λ_ _ e=>e).trans f5 λb _ e=> .inl e,n,_,hn,J,h5,λb hb=> ?_⟩;rcases hb with hb|hb|⟨j,u,hj,hu⟩
 ·exact .inl (.inl hb)
 ·exact .inl (.inr (.inl hb))
 ·rw[ajo] at hj;split at hj
  ·split at hj
   ·cases hj
    rcases n4 b hu with e|e
    ·exact .inl (I b e)
    ·exact .inr (ahO x3.size e)
   ·cases hj
  ·exact .inl (.inr (.inr ⟨j,u,hj,hu⟩))
theorem afw (h:WM w d m ss l now tn most F) (h1:now<=2^40) (t:Tm) (h2:t.a<=2^40):
  vk (some ⟨d,0,none⟩) t.id (t.a:Int) t.tn w λw'=>gU w w' (pK d m ss)/\∃n ss',n<7/\Lv now t.a n/\WM w' d m ss' l now tn most (vO F n (dg t.a n) ((F n (dg t.a n)).filter λx=> !(x.id==t.id)))/\∀b,pK d m ss' b->pK d m ss b\/w.heap.size<=b:=by
 apply Kw;refine gu λp w1 r1 e1 z1 f1=> ?_;have hw1:=h.ext f1;simp only[sx,r1.cell];refine cmS17 (UD hw1 h1 h2) ?_;rintro _ w2 ⟨⟨n,hn,J,rfl⟩,f2⟩;have x2:=f1.trans f2;have h2w:=h.ext x2;have r2:=r1.ext f2;have hk:=AU t.a n;obtain⟨s,hs,hb⟩:=h2w.buf n (dg t.a n) hn hk;have N:=h.sm n (dg t.a n) hn hk;have I:∀b,fU.at s b->pK d m ss b:=λb hb=> .inr (.inr ⟨_,s,hs,hb⟩);have hp:∀b,pK d m ss b->b≠p:=λb hb=>by have:=h.lt hb;omega
 simp only[wG,fZ,gI,h2w.cs hs];have isId:FnT (Value.func (.func Ic) #[] #[.pointer (some ⟨p,0,none⟩)]) (λW=>Row W p (eT t)) (λx=>x.id==t.id):=by
  intro x W K hC hK;refine jZ (by kernel_rfl) ?_;have:yE x.id x.a x.tn ⟨p,0,none⟩ W λr W'=>r=(x.id==t.id)/\Ext W W':=by
   apply Gn;refine gu λq W1 q1 _ _ g1=> ?_;simp only[sx,q1.cell,(hC.ext g1).cell];exact⟨by trivial,g1⟩
  refine Calls.mono this ?_;rintro e W' ⟨r,he,rfl,hf⟩;exact⟨_,he,hK W' hf⟩
 refine cmS2 (Xt hb (by omega) isId λW hf=>r2.fr hf λe=>hp p (I p e) rfl) ?_;rintro s4 w4 ⟨b4,f4,n4⟩;refine h2w.agS hn hk hs f4 (λb _ hb=>hb) b4 (λb hb=> .inl (n4 b hb)) (ahO (alA ..) N) λw5 h5 f5 z5=> ?_;refine⟨((x2 (pK d m ss)).trans (f4.mono I) λ_ _ e=>e).trans f5 λb _ e=> .inl e,n,_,hn,J,h5,λb hb=> ?_⟩;rcases hb with hb|hb|⟨j,u,hj,hu⟩
 ·exact .inl (.inl hb)
 ·exact .inl (.inr (.inl hb))
 ·rw[ajo] at hj;split at hj
  ·split at hj
   ·cases hj
    exact .inl (I b (n4 b hu))
   ·cases hj
  ·exact .inl (.inr (.inr ⟨j,u,hj,hu⟩))
end
end Go.Proofs.WN
end
section
namespace Go.Proofs.WN
open Gp Gp.Wh
theorem abM:∀{a b:List Int},a.Nodup->(∀x∈a,x∈b)->a.length<=b.length
 |[],_,_,_=>by simp
 |x::a,b,h,hs=>by
  rw[akj] at h;have hx:=hs x (by simp);have:=abM (b:=b.erase x) h.2 λy hy=>by
   have u:y≠x:=λe=>h.1 (e ▸ hy);exact(List.mem_erase_of_ne u).2 (hs y (by simp[hy]))
  rw[List.length_erase_of_mem hx] at this;have:=List.length_pos_of_mem hx;simp only[aeW];omega
theorem ah6 {l:PL} {id:Int} {t:Tm} (h:lJ l id=some t):id∈l.map (·.1):=by
 refine akp λhn=> ?_;rw[qA.2 hn] at h;cases h
theorem WI.short {now:Nat} {P:Ps} {F:Fs} {l:PL} (h:WI now P F) (hs:∀id t,P id=some t->lJ l id=some t) {n k:Nat} (hn:n<7) (hk:k<64):(F n k).length<=l.length:=by
 have:=abM (b:=l.map (·.1)) (h.nd n k hn hk) λx hx=>by
  obtain⟨t,ht,rfl⟩:=ajX.1 hx;exact ah6 (hs _ _ ((h.mem n k t hn hk).1 ht).1)
 simpa using this
section
variable {w w':θ} {d m:Nat} {ss:List fU} {l:PL} {now:Nat} {tn most:Int} {F:Fs}
theorem afv (h:WM w d m ss l now tn most F) (hi:WI now (lJ l) F):vg (some ⟨d,0,none⟩) w λr t w'=>Ext w w'/\
  ((t=false/\∀id,lJ l id=none)\/(t=true/\∃u,lJ l u.id=some u/\r=(u.a:Int)/\now<=u.a/\∀id v,lJ l id=some v->u.a<=v.a)):=by
 apply Ku;refine gK (λst W=>W=w/\∃n:Nat,n<=7/\st.1=(n:Int)/\∀n' k',n'<n->k'<64->dg now n'<=k'->F n' k'=[]) (λst _=>7 - st.1.toNat) ⟨rfl,0,by omega,rfl,λn' k' hn=>by omega⟩ ?_;rintro⟨i,⟨⟩⟩ W ⟨rfl,n,hn,R,he⟩ next J
 simp only at R;subst R;by_cases U:(n:Int)<7
 ·rw[ab9 U,Δ];have hn7:n<7:=by omega
  obtain⟨e1,e2⟩:=aed (a:=now) hn7;simp only[sx,h.Xm];rw[e1,e2];refine⟨by omega,?_⟩;have hd:=AU now n;refine gK (λst W'=>W'=W/\∃k:Nat,k<=64/\dg now n<=k/\st.1=(k:Int)/\∀k',k'<k->dg now n<=k'->F n k'=[]) (λst _=>64 - st.1.toNat) ⟨rfl,dg now n,by omega,aiq _,rfl,λk' h1 h2=>by omega⟩ ?_;rintro⟨i,⟨⟩⟩ W' ⟨rfl,k,hk,hdk,Y,N⟩ next' I
  simp only at Y;subst Y;by_cases Z:(k:Int)<64
  ·rw[ab9 Z,Δ];have hk6:k<64:=by omega
   obtain⟨s,hs,hb⟩:=h.buf n k hn7 hk6;have hsm:=h.sm n k hn7 hk6;simp only[fZ,gI,Η,ahy,h.cs hs];refine⟨by omega,by omega,by omega,by omega,?_⟩;have aa:=hb.len;by_cases hz:F n k=[]
   ·have:¬((s.len:Int)>0):=by rw[aa,hz];simp
    rw[abW this,Β];rw[Α];refine I _ _ ⟨rfl,k+1,by omega,by omega,by simp,λk' h1 h2=> ?_⟩ (by simp only;omega);rcases akM k' k with g|g
    ·exact N k' g h2
    ·have:k'=k:=by omega
     rw[this];exact hz
   ·have hpos:=List.length_pos_iff.2 hz;have:((s.len:Int)>0):=by omega
    rw[ab9 this,Δ];refine cmS16 (ah9 (hb.sl lS (by omega)) (by omega) hz) ?_;rintro r0 r1 r2 w3 ⟨f3,t,ht,rfl,O⟩;obtain⟨g1,g2,g3⟩:=hi.next hn7 hk6 he N ht O
    exact⟨f3,.inr ⟨by trivial,t,g1,rfl,g2,g3⟩⟩
  ·rw[abW Z,Β];rw[Α];have:k=64:=by omega
   subst this;refine J _ _ ⟨rfl,n+1,by omega,by simp,λn' k' h1 h2 h3=> ?_⟩ (by simp only;omega);rcases akM n' n with g|g
   ·exact he n' k' g h2 h3
   ·have:n'=n:=by omega
    subst this;exact N k' h2 h3
 ·rw[abW U,Β];have:n=7:=by omega
  subst this;exact⟨Ext.refl _,.inl ⟨rfl,λid=>hi.none he id⟩⟩
theorem adq {F:Fs} {n k:Nat} (h:F n k=[]):vO F n k []=F:=by
 funext n' k';unfold vO;split
 ·rename_i e;rw[e.1,e.2,h]
 ·rfl
theorem Ϥ (h:WM w d m ss l now tn most F) (hi:WI now (lJ l) F) {to:Nat} (h1:now<=to) (h2:to<=2^40) (ai:∀id u,lJ l id=some u->to<=u.a) (hl:l.length<=2^20):
  n_ (some ⟨d,0,none⟩) (to:Int) w λw'=>gU w w' (pK d m ss)/\∃ss' F',WM w' d m ss' l to tn most F'/\WI to (lJ l) F'/\∀b,pK d m ss' b->pK d m ss b\/w.heap.size<=b:=by
 apply Gq;simp only[sx,h.Xm];refine cmS1 (ZH hi.nw h2 w) ?_;rintro r w1 ⟨⟨v,rfl,aj⟩,hw⟩;subst hw;have hv7:=aj.lt hi.nw h2;have low:=λ{n k:Nat}=>hi.low (n:=n) (k:=k) h1 ai aj;have ak:=AU to v;have aA:(F v (dg to v)).length<=2^20:=ahO (WI.short hi (λ_ _ e=>e) hv7 ak) hl;refine gK (λst W=>∃j ss',j<=v/\st.2.1=(j:Int)/\iY 3 eT W st.1 (if j<v then F v (dg to v) else [])/\(∀b,fU.at st.1 b->w1.heap.size<=b)/\(∀b,pK d m ss' b->pK d m ss b)/\gU w1 W (pK d m ss)/\
   WM W d m ss' l now tn most (if j<v then vO F v (dg to v) [] else F)) (λst _=>st.2.1.toNat)
  ⟨v,ss,aiq _,rfl,by rw[Ε (by omega)];exact iY.nil,(λb ⟨o,hb⟩=>by cases hb),λb hb=>hb,gU.refl _ _,by rw[Ε (by omega)];exact h⟩ ?_
 rintro⟨mv,i,⟨⟩⟩ W ⟨j,ss',hj,aq,Z,R,U,hf,hW⟩ next aa
 simp only at aq Z R;subst aq;have mvd:∀b,fU.at mv b->¬pK d m ss' b:=λb hb hx=>by have:=h.lt (U b hx);have:=R b hb;omega
 by_cases ab:(j:Int)>0
 ·rw[ab9 ab,Δ];have hj7:j<7:=by omega
  obtain⟨e1,e2⟩:=aed (a:=to) hj7;have hd:=AU to j;have am:=hW.ext (Ext.drew W);obtain⟨s,hs,hb⟩:=am.buf j (dg to j) hj7 hd;rw[e1,e2];simp only[fZ,gI,Η,ahy,am.cs hs];refine⟨by omega,by omega,by omega,by omega,by omega,?_⟩;have O:(if j<v then vO F v (dg to v) [] else F) j (dg to j)=if j<v then [] else F v (dg to v):=by
   by_cases N:j<v
   ·rw[Ζ N,Ζ N];unfold vO;rw[Ε (by omega)];exact low N hj7 hd
   ·have:j=v:=by omega
    subst this;rw[Ε N,Ε N]
  rw[O] at hb;refine mX lS (Z.ext (Ext.drew W)) (hb.sl lS (by omega)) rfl (by omega) Xy (by split<;>simp only[aiJ]<;>omega) (by split<;>simp only[aiJ]<;>omega) λs4 w4 b4 f4 n4=> ?_
  have an:(if j<v then F v (dg to v) else [])++(if j<v then [] else F v (dg to v))=F v (dg to v):=by split<;>simp
  rw[an] at b4;have hWz:W.drew.heap.size=W.heap.size:=rfl;have hfz:=hf.size;have f4':∀b,pK d m ss' b->fU.at mv b->fU.at s b:=λb hx hb=>absurd hx (mvd b hb);refine am.agS hj7 hd hs (s':=⟨none,0,0⟩) (L:=[]) f4 f4' iY.nil (λb ⟨o,hb⟩=>by cases hb) (by simp) λw5 h5 f5 z5=> ?_;have hF:vO (if j<v then vO F v (dg to v) [] else F) j (dg to j) []=if j - 1<v then vO F v (dg to v) [] else F:=by
   by_cases N:j<v
   ·rw[Ζ N,Ζ (by omega)];exact adq (by rw[<- Ζ (c:=j<v) N (t:=vO F v (dg to v) []) (e:=F),O,Ζ N])
   ·have:j=v:=by omega
    subst this;rw[Ε N,Ζ (by omega)]
  rw[hF] at h5;have hf4:gU w1 w4 (pK d m ss):=(hf.ext (Ext.drew W)).trans f4 λb hb1 hb2=>by have:=R b hb2;omega
  rw[Α];refine aa _ _ ⟨j - 1,_,by omega,by simp only;omega,?_,?_,?_,hf4.trans f5 λb _ e=> .inl e,h5⟩ (by simp only;omega)
  ·simp only;rw[Ζ (show j - 1<v by omega)];refine b4.fr f5 λb hb e=> ?_;have aB:=h.lt (.inl rfl:pK d m ss d);rcases n4 b hb with g|g
   ·have:=R b g;omega
   ·have:W.drew.heap.size<=b:=g;omega
  ·simp only;intro b hb;rcases n4 b hb with g|g
   ·exact R b g
   ·have:W.drew.heap.size<=b:=g;omega
  ·rintro b (hb|hb|⟨q,u,hq,hu⟩)
   ·exact .inl hb
   ·exact .inr (.inl hb)
   ·rw[ajo] at hq;split at hq
    ·split at hq
     ·cases hq;obtain⟨o,ho⟩:=hu;cases ho
     ·cases hq
    ·exact U b (.inr (.inr ⟨q,u,hq,hu⟩))
 ·rw[abW ab,Β];have:j=0:=by omega
  subst this;have J:=hi.turn h1 h2 ai aj;have eM:(if 0<v then F v (dg to v) else [])=if v=0 then [] else F v (dg to v):=by
   by_cases hz:v=0
   ·rw[Ζ hz,Ε (by omega)]
   ·rw[Ε hz,Ζ (by omega)]
  have eF:(if 0<v then vO F v (dg to v) [] else F)=if v=0 then F else vO F v (dg to v) []:=by
   by_cases hz:v=0
   ·rw[Ζ hz,Ε (by omega)]
   ·rw[Ε hz,Ζ (by omega)]
  rw[eM] at Z;rw[eF] at hW;have ar:∀t∈(if v=0 then [] else F v (dg to v)),t∈F v (dg to v):=λt ht=>by
   split at ht
   ·simp at ht
   ·exact ht
  have au:((if v=0 then [] else F v (dg to v)).map Tm.id).Nodup:=by
   split
   ·simp
   ·exact hi.nd v _ hv7 ak
  have aC:(if v=0 then [] else F v (dg to v)).length<=2^20:=by
   split
   ·simp
   ·exact aA
  generalize (if v=0 then [] else F v (dg to v))=Mv at Z J ar au aC
  generalize (if v=0 then F else vO F v (dg to v) [])=F1 at hW J
  simp only[];refine hW.ain to λw5 h5 f5 z5=> ?_;have aB:=h.lt (.inl rfl:pK d m ss d);have ac:=Z.fr f5 λb hb e=>by have:=R b hb;omega
  have hf5:gU w1 w5 (pK d m ss):=hf.trans f5 λb _ e=> .inl e;have mlt:∀b,fU.at mv b->b<w5.heap.size:=λb hb=>ac.lt hb;have mlen:=Z.len;refine gK (λst W'=>∃i ss2 F2,i<=Mv.length/\st.1=(i:Int)/\WM W' d m ss2 l to tn most F2/\WI to (rest (lJ l) (Mv.drop i)) F2/\iY 3 eT W' mv Mv/\gU w1 W' (pK d m ss)/\(∀b,pK d m ss2 b->pK d m ss b\/w5.heap.size<=b)/\w5.heap.size<=W'.heap.size) (λst _=>Mv.length - st.1.toNat)
   ⟨0,ss',F1,by omega,rfl,h5,by simpa using J,ac,hf5,λb hb=> .inl (U b hb),aiq _⟩ ?_
  rintro⟨i,⟨⟩⟩ W' ⟨i,ss2,F2,hin,av,hW',hI',aw,ax,I,hsz⟩ next' Y
  simp only at av;subst av;by_cases ay:(i:Int)<(mv.len:Int)
  ·rw[ab9 ay,Δ];have ae:i<Mv.length:=by omega
   have hx:=abe ae;have ah:=akB ae;generalize Mv[i]=t at hx ah;refine VP (aw.sl lS (by omega)) hx λa c0 c1 c2=> ?_;simp only[fZ,gq,c0,c1,c2];refine Gu rfl rfl λp w6 r6 e6 z6 f6=> ?_;simp only[sx,r6.cell];have h6:=hW'.ext f6;have ao:=ar t (ajF hx);have hp:=((hi.mem v _ t hv7 ak).1 ao).1;have az:=hi.pl _ _ hp;have aD:∀id u,rest (lJ l) (Mv.drop i) id=some u->lJ l id=some u:=λid u hu=>(vK.1 hu).1;refine cmS4 (abU h6 h2 t az.2.2 λn k hn hk=>by have:=WI.short hI' aD hn hk;omega) ?_;rintro w7 ⟨f7,n,ss3,hn7,aE,h7,af⟩;have mvd2:∀b,fU.at mv b->¬pK d m ss2 b:=λb hb hx=>by
    rcases I b hx with g|g
    ·have:=h.lt g;have:=R b hb;omega
    ·have:=mlt b hb;omega
   have aF:rest (lJ l) (Mv.drop i) t.id=none:=by
    unfold rest;rw[hp,ah];simp
   have ag:=hI'.put aF (ai _ _ hp) az.2.2 aE;have aG:t∉Mv.drop (i+1):=by
    intro hx2;have hn2:=au.sublist ((List.drop_sublist i Mv).map Tm.id);rw[ah,aiG,akj] at hn2;exact hn2.1 (ajX.2 ⟨t,hx2,rfl⟩)
   rw[ah,ac9 hp (λid u hu=>(hi.pl id u hu).1) aG] at ag;rw[Α];have s6:=f6.size;have s7:=f7.size;refine Y _ _ ⟨i+1,ss3,_,by omega,by simp,h7,ag,(aw.ext f6).fr f7 λb hb hx=>mvd2 b hb hx,(ax.ext f6).trans f7 λb hb hx=> ?_,λb hb=> ?_,by omega⟩ (by simp only;omega)
   ·rcases I b hx with g|g
    ·exact g
    ·have:=hf5.size;omega
   ·rcases af b hb with g|g
    ·exact I b g
    ·exact .inr (by omega)
  ·rw[abW ay,Β];have:i=Mv.length:=by omega
   subst this;rw[List.drop_length,afe] at hI';exact⟨ax,ss2,F2,hW',hI',λb hb=>by
    rcases I b hb with g|g
    ·exact .inl g
    ·exact .inr (by have:=hf5.size;omega)⟩
structure WS (w:θ) (d m:Nat) (ss:List fU) (l:PL) (now:Nat) (tn most:Int) (F:Fs):Prop where
 wm:WM w d m ss l now tn most F
 wi:WI now (lJ l) F
 mo:most<=1048576/\(l.length:Int)<=most
 tb:∀id t,lJ l id=some t->t.tn<=tn
 ti:∀id id' t u,lJ l id=some t->lJ l id'=some u->t.tn=u.tn->id=id'
 t0:0<=tn
theorem WS.ext (h:WS w d m ss l now tn most F) (hf:Ext w w'):WS w' d m ss l now tn most F:=⟨h.wm.ext hf,h.wi,h.mo,h.tb,h.ti,h.t0⟩
theorem WS.fr {S:Nat->Prop} (h:WS w d m ss l now tn most F) (hf:gU w w' S) (hs:∀b,pK d m ss b->¬S b):WS w' d m ss l now tn most F:=⟨h.wm.fr hf hs,h.wi,h.mo,h.tb,h.ti,h.t0⟩
def Xd (l:PL) (most id at_:Int):Int:=if id<0\/id>2147483648\/at_<0\/at_>1099511627776 then 1 else if lJ l id=none/\most<=(l.length:Int) then 7 else 0
theorem aa9 (l:PL) (a:Int) (b:Tm):((Bo l a b).length:Int)=if lJ l a=none then (l.length:Int)+1 else l.length:=by
 have:=congrArg List.length (QX l a b);rw[ahv] at this;by_cases hm:a∈l.map (·.1)
 ·rw[Ζ hm,ahv] at this;rw[Ε (by rw[qA];simpa using hm),this]
 ·rw[Ε hm,adH,ahv,ako] at this;rw[Ζ (qA.2 hm),this];omega
theorem ah7 (l:PL) (t:Tm):lJ (Bo l t.id t)=Gt (lJ l) t.id (some t):=by
 funext id;rw[Cc];rfl
theorem ag8 (h:WS w d m ss l now tn most F) (id at_:Int) (ht:tn<2^62):
  rC (some ⟨d,0,none⟩) id at_ w λe w'=>e=Xd l most id at_/\gU w w' (pK d m ss)/\
   ∃ss' F',(∀b,pK d m ss' b->pK d m ss b\/w.heap.size<=b)/\
    WS w' d m ss' (if Xd l most id at_=0 then Bo l id ⟨id,max at_.toNat now,tn+1⟩ else l) now (if Xd l most id at_=0 then tn+1 else tn) most F':=by
 apply LV;have hm:=h.mo;have ac:=h.wi.nw;refine cmS0 (WW h.wm) ?_;rintro _ w2 ⟨rfl,hw⟩;subst hw;simp -zeta only[ab6,Β];intro J6;have h6t:(id<0\/id>2147483648\/at_<0\/at_>1099511627776)->J6 true:=by
  intro Z;have e:Xd l most id at_=1:=by unfold Xd;rw[Ζ Z]
  simp only[J6,Δ];rw[e];exact⟨by trivial,gU.refl _ _,ss,F,λb hb=> .inl hb,h⟩
 have h6f:¬(id<0\/id>2147483648\/at_<0\/at_>1099511627776)->J6 false:=by
  intro ae;have eA:Xd l most id at_=if lJ l id=none/\most<=(l.length:Int) then 7 else 0:=by unfold Xd;rw[Ε ae]
  simp only[not_or] at ae;simp -zeta only[sx,J6,h.wm.ad2];have key:∀(K:Value->Bool->Prop),(∀v b,(∃t0:Tm,v= .agg ⟨eT t0⟩/\∀t,lJ l id=some t->t0=t)->b=(lJ l id).isSome->K v b)->I8 υ 3 (some m) (.int .i64 id) (.agg ⟨alM⟩) w2 K:=by
   intro K hh;refine ab7 (enc:=RY) h.wm.mp eqW id (aaw id) (λhl=>hh _ _ ⟨⟨0,0,0⟩,rfl,λt ht=>by rw[hl] at ht;cases ht⟩ (by rw[hl];rfl)) (λb hl=>hh _ _ ⟨b,rfl,λt ht=>by rw[hl] at ht;cases ht;rfl⟩ (by rw[hl];rfl))
  refine key _ ?_;rintro _ b11 ⟨t0,rfl,ht0⟩ hb11;refine⟨t0.id,(t0.a:Int),t0.tn,rfl,Gu rfl rfl λp w3 r3 e3 z3 f3=> ?_⟩;have hw3:=h.wm.ext f3;intro R;have h18t:lJ l id=none/\most<=(l.length:Int)->∀W,Ext w2 W->R true W:=by
   intro U W hx;rw[Ζ U] at eA;simp only[R,Δ];rw[eA];exact⟨by trivial,hx _,ss,F,λb hb=> .inl hb,h.ext hx⟩
  have h18f:¬(lJ l id=none/\most<=(l.length:Int))->∀W,Ext w3 W->R false W:=by
   intro N W hx;rw[Ε N] at eA;simp -zeta only[R,Β];intro aa;have af:∀W1 ss1 F1,WM W1 d m ss1 l now tn most F1->WI now (Gt (lJ l) id none) F1->gU w2 W1 (pK d m ss)->(∀b,pK d m ss1 b->pK d m ss b\/w2.heap.size<=b)->aa W1:=by
    intro W1 ss1 F1 g1 g2 g3 g4;have htn0:=h.t0;simp only[aa,fZ,gq,g1.ahL];rw[Α (n:=tn+1) (by omega) (by omega)];refine g1.ajb (tn+1) λw4 h4 f4 z4=> ?_;have h4d:=h4.ext (Ext.drew w4);simp only[fZ,gq,h4d.Xm,h4d.ahL];refine gu λq w5 r5 e5 z5 f5=> ?_;have h5:=h4d.ext f5;simp only[sx,aeA,h5.Xm,h5.ahL];refine gZ r5 rfl rfl λw6 r6 f6 z6=> ?_;have f6q:=f6 (·=q) rfl;have hq:∀b,pK d m ss1 b->b≠q:=λb hb=>by have:=h4d.lt hb;omega
    have h6:=(h5.fr f6q hq).ext (Ext.drew w6);have r6d:=r6.drew;simp only[d_,fZ,gq,B_,h6.ad2,r6d.cell];have emax:(if (now:Int)>at_ then (now:Int) else at_)=((max at_.toNat now:Nat):Int):=by
     split<;>omega
    have hT:(Value.agg ⟨[.int .i64 id,.int .i64 (if (now:Int)>at_ then (now:Int) else at_),.int .i64 (tn+1)]⟩:Value)= .agg ⟨eT ⟨id,max at_.toNat now,tn+1⟩⟩:=by rw[emax]
    rw[hT];refine h6.ajP ⟨id,max at_.toNat now,tn+1⟩ λw7 h7 f7 z7=> ?_;have ag:m≠q:=hq m (.inr (.inl rfl));have r7:=r6d.fr f7 (λe=>ag e.symm);simp only[d_,fZ,gq,r7.cell];rw[emax];have O:max at_.toNat now<=2^40:=by omega
    have Y:∀id' t,Gt (lJ l) id none id'=some t->lJ l id'=some t:=λid' t hu=>by
     unfold Gt at hu;split at hu
     ·cases hu
     ·exact hu
    refine cmS4 (abU h7 ac ⟨id,max at_.toNat now,tn+1⟩ O λn k hn hk=>by have:=WI.short g2 Y hn hk;omega) ?_;rintro w8 ⟨f8,n,ss8,hn,ab,h8,hs8⟩;have hp:=g2.put (t:=⟨id,max at_.toNat now,tn+1⟩) (by unfold Gt;simp) (by simp only;omega) O ab;have eP:Gt (Gt (lJ l) id none) id (some ⟨id,max at_.toNat now,tn+1⟩)=lJ (Bo l id ⟨id,max at_.toNat now,tn+1⟩):=by
     rw[ah7 l ⟨id,max at_.toNat now,tn+1⟩];funext id';unfold Gt;split<;>rfl
    rw[eP] at hp;have f18:gU W1 w8 (pK d m ss1):=((((((f4.mono (S':=pK d m ss1) λb e=> .inl e).ext (Ext.drew w4)).ext f5).trans f6q λb hb e=>by
      have h1z:=f4.size;have h2z:w4.drew.heap.size=w4.heap.size:=rfl;omega).ext (Ext.drew w6)).trans f7 λb hb e=> .inr (.inl e)).trans f8 λb _ hb=>hb
    have f28:gU w2 w8 (pK d m ss):=g3.trans f18 λb hb hb2=>by
     rcases g4 b hb2 with e|e
     ·exact e
     ·omega
    have s7:w2.heap.size<=w7.heap.size:=by
     have a1:=g3.size;have a2:=f4.size;have a3:=f5.size;have a4:=f6q.size;have a5:=f7.size;have a6:w4.drew.heap.size=w4.heap.size:=rfl;have a7:w6.drew.heap.size=w6.heap.size:=rfl;omega
    obtain⟨F8,h8,hp⟩:∃F8,WM w8 d m ss8 (Bo l id ⟨id,max at_.toNat now,tn+1⟩) now (tn+1) most F8/\WI now (lJ (Bo l id ⟨id,max at_.toNat now,tn+1⟩)) F8:=⟨_,h8,hp⟩;refine⟨eA.symm,f28,ss8,F8,λb hb=> ?_,?_⟩
    ·rcases hs8 b hb with e|e
     ·exact g4 b e
     ·exact .inr (by omega)
    ·rw[eA,Ζ rfl,Ζ rfl];refine⟨h8,hp,⟨hm.1,?_⟩,λid' u hu=> ?_,λi1 i2 u1 u2 q1 q2 q3=> ?_,by omega⟩
     ·rw[aa9];split
      ·rename_i hn;have:¬most<=(l.length:Int):=λe=>N ⟨hn,e⟩;omega
      ·exact hm.2
     ·rw[Cc] at hu;split at hu
      ·cases hu;exact Int.le_refl _
      ·have:=h.tb id' u hu;omega
     ·rw[Cc] at q1 q2;split at q1
      ·rename_i e1;split at q2
       ·rename_i e2;rw[e1,e2]
       ·cases q1
        have:=h.tb _ _ q2;simp only at q3;omega
      ·split at q2
       ·cases q2
        have:=h.tb _ _ q1;simp only at q3;omega
       ·exact h.ti _ _ _ _ q1 q2 q3
   clear_value aa;have hW:=hw3.ext hx;have rW:=r3.ext hx;have xW:=f3.trans hx
   cases I:lJ l id with
   |none=>
    rw[I] at hb11;rw[hb11,aj_,Β];refine af W ss F hW ?_ (xW _) λb hb=> .inl hb;have:Gt (lJ l) id none=lJ l:=by
     funext id';unfold Gt;split
     ·rename_i e;rw[e,I]
     ·rfl
    rw[this];exact h.wi
   |some t=>
    rw[I] at hb11;have:=ht0 t I;subst this;obtain⟨p1,p2,p3⟩:=h.wi.pl id t0 I;rw[hb11,ajv,Δ];simp only[sx,rW.cell];refine cmS4 (afw hW ac t0 p3) ?_;rintro w4 ⟨f4,n,ss4,hn,ab,h4,hs4⟩;have ah:=h.wi.take I ab;rw[p1] at h4;exact af w4 ss4 _ h4 ah ((xW _).trans f4 λb _ e=>e) λb hb=>by
     rcases hs4 b hb with e|e
     ·exact .inl e
     ·exact .inr (ahO xW.size e)
  clear_value R
  cases I:lJ l id with
  |none=>
   rw[I] at hb11;rw[hb11,aj_,aek,Δ];have hw3d:=hw3.ext (Ext.drew w3);simp only[fZ,gq,B_,hw3d.ad2,hw3d.ajz];refine adE hw3d.mp ⟨by trivial,?_⟩;by_cases J:(l.length:Int)>=most
   ·rw[ab9 J];exact h18t ⟨I,J⟩ _ (f3.trans (Ext.drew w3))
   ·rw[abW J];exact h18f (λe=>J e.2) _ (Ext.drew w3)
  |some t=>
   rw[I] at hb11;rw[hb11,ajv,ab6,Β];exact h18f (λe=>by rw[I] at e;cases e.1) _ (Ext.drew w3)
 clear_value J6;by_cases c1:id<0
 ·rw[ab9 c1,Δ];exact h6t (.inl c1)
 ·rw[abW c1,Β];by_cases c2:id>2147483648
  ·rw[ab9 c2,Δ];exact h6t (.inr (.inl c2))
  ·rw[abW c2,Β];by_cases c3:at_<0
   ·rw[ab9 c3,Δ];exact h6t (.inr (.inr (.inl c3)))
   ·rw[abW c3,Β];by_cases c4:at_>1099511627776
    ·rw[ab9 c4];exact h6t (.inr (.inr (.inr c4)))
    ·rw[abW c4];exact h6f (by omega)
end
end Go.Proofs.WN
end
