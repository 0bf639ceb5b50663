import Derived.Test.YtnemccmcpllhcaaGreatDoorW6
import Derived.Test.YtnemccmcpllhcaaGreatDoorW3
import Derived.Test.YtnemccmcpllhcaaGreatDoorW2
set_option maxRecDepth 100000
section
namespace Go.Proofs
open Gp Gp.Hash
open Gp.Bind (Bnd Slots live GoodB freeN getS In64)
section
variable {w w':θ} {A:QZ} {most:Nat} {S:Slots} {Mi Mo:ByteArray->Option Int}
theorem Hz {S:Slots} {id:Int} (h:id<0\/(S.length:Int)<=id):getS S id=none:=by
 unfold Gp.Bind.getS;split
 ·rw[akz (by omega)];rfl
 ·rfl
theorem XG {S:Slots} {id:Int} (h0:0<=id) {o:Option Bnd} (h:S[id.toNat]? =some o):getS S id=o:=by
 unfold Gp.Bind.getS;rw[Ζ h0,h];rfl
theorem abq (h:DB w A most S Mi Mo) (id:Int):xH (some ⟨A.d,0,none⟩) id w λr w'=>r=(getS S id).isSome/\w'=w:=by
 apply Tv;have hl:=h.len;refine cmS0 (DX h) ?_;rintro _ w2 ⟨rfl,hw⟩;subst hw;simp only[Δ];by_cases c1:id>=0
 ·simp only[sx,c1,aaA,h.hd.cell];by_cases c2:id<(most:Int)
  ·have hS:S[id.toNat]? =some S[id.toNat]:=abe (by omega);generalize S[id.toNat]=o at hS;simp only[c2,aaA,Δ,fZ,jK,h.slot hS 8 (by omega),Bj];refine⟨by first|trivial|omega,by first|trivial|omega,?_,by trivial⟩
   rw[XG c1 hS]
  ·simp only[c2,aaV,Β];exact⟨by rw[Hz (.inr (by omega))];rfl,by trivial⟩
 ·simp only[c1,aaV,Β];exact⟨by rw[Hz (.inl (by omega))];rfl,by trivial⟩
def ajs (b:Bnd) (a1 a2 a3 a4 a5 a6 a7:Int) (a8:Bool):Prop:=a1=b.sw/\a2=b.pr/\a3=b.ad/\a4=b.po/\a5=b.opr/\a6=b.oad/\a7=b.opo/\a8=b.st
def ajr:Bnd:=⟨0,0,0,0,0,0,0,false⟩
theorem Jh (h:DB w A most S Mi Mo) (id:Int):mV (some ⟨A.d,0,none⟩) id w λa1 a2 a3 a4 a5 a6 a7 a8 r w'=>r=(getS S id).isSome/\ajs ((getS S id).getD ajr) a1 a2 a3 a4 a5 a6 a7 a8/\Ext w w':=by
 apply Tq;have hl:=h.len;refine gu λp w1 r1 e1 z1 f1=> ?_;have h1:=h.ext f1;refine cmS0 (abq h1 id) ?_;rintro _ w2 ⟨rfl,hw⟩;subst hw
 cases hg:getS S id with
 |none=>
  simp only[aj_,aek,Δ];refine gZ r1 rfl rfl λw3 r3 f3 _=> ?_;simp only[sx,aeA,r3.cell];exact⟨⟨rfl,rfl,rfl,rfl,rfl,rfl,rfl,rfl⟩,f1.new (f3 (·=p) rfl) λy hy e=>by omega⟩
 |some b=>
  obtain⟨g0,g1⟩:=Gp.Bind.nV.1 hg;have gl:=(ady.1 g1).1;have c:∀j,j<9->_:=h1.slot g1;have c0:=c 0 (by omega);have c1:=c 1 (by omega);have c2:=c 2 (by omega);have c3:=c 3 (by omega);have c4:=c 4 (by omega);have c5:=c 5 (by omega);have c6:=c 6 (by omega);have c7:=c 7 (by omega);simp only[ajt] at c0;simp only[sx,ajv,ab6,h1.hd.cell,c0,c1,c2,c3,c4,c5,c6,c7,iO];refine⟨by omega,by omega,gZ r1 rfl rfl λw3 r3 f3 _=> ?_⟩;simp only[aeA,d_,fZ,gq,jK,r3.cell];exact⟨⟨rfl,rfl,rfl,rfl,rfl,rfl,rfl,rfl⟩,f1.new (f3 (·=p) rfl) λy hy e=>by omega⟩
theorem aak (h:DB w A most S Mi Mo) (id:Int) (u:∀x,fp A x->x<w.heap.size):
  wU (some ⟨A.d,0,none⟩) id w λr w'=>r=(getS S id).isSome/\gU w w' (fp A)/\∃Mi' Mo',DB w' A most (if (getS S id).isSome then S.set id.toNat none else S) Mi' Mo':=by
 apply Nu;have hl:=h.len;have hm:=h.mx;refine cmS0 (abq h id) ?_;rintro _ w1 ⟨rfl,hw⟩;subst hw
 cases hg:getS S id with
 |none=>
  simp only[aj_,aek,Δ];exact⟨by trivial,gU.refl _ _,Mi,Mo,by simpa using h⟩
 |some b=>
  obtain⟨g0,g1⟩:=Gp.Bind.nV.1 hg;have gl:=(ady.1 g1).1;have hb:=h.good.ok _ _ g1;have c:∀j,j<9->_:=h.slot g1;have c0:=c 0 (by omega);have c1:=c 1 (by omega);have c2:=c 2 (by omega);have c3:=c 3 (by omega);have c4:=c 4 (by omega);have c5:=c 5 (by omega);have c6:=c 6 (by omega);have c7:=c 7 (by omega);have c8:=c 8 (by omega);simp only[ajt] at c0;simp only[sx,ajv,ab6,h.hd.cell,c0,c1,c2,c3,c4,c5,c6,c7,c8,iO];refine⟨by omega,by omega,Gu rfl rfl λp w2 r2 e2 z2 f2=> ?_⟩;have x2:Ext w1 w2.drew:=f2.trans (Ext.drew _);have h2:=h.ext x2;have r2d:=r2.drew;simp only[sx,h2.hd.cell,r2d.cell];refine cmS9 (XK _ _ _ _ hb.1 _) ?_;rintro _ w3 ⟨rfl,f3⟩;have h3:=h2.ext f3;have r3:=r2d.ext f3;simp only[aeA,d_,h3.hd.cell];obtain⟨LI,tI,cI⟩:=h3.tI;obtain⟨n1,n2,n3,n4,n5,n6,n7,n8,n9,n10,n11,n12,n13⟩:=h.ne;have hp:∀x,fp A x->x≠p:=λx hx e=>by have:=u x hx;rw[e,e2] at this;exact akg _ this
  refine cmS0 (Lj tI (Bind.keyS b.i) (qO _ (by simp[Bnd.i]))) ?_;rintro _ w4 ⟨_,⟨L4,t4,c4'⟩,f4⟩;have I:Mi (Bind.keyS b.i)=some (id.toNat:Int):=(h.good.i _ _).2 ⟨_,b,g1,rfl,rfl⟩;have J:Mo (Bind.keyS b.o)=some (id.toNat:Int):=(h.good.o _ _).2 ⟨_,b,g1,rfl,rfl⟩;have hd4:=(h3.hd.fr f4 (by rintro(h|h);exact n2 h;exact n3 h)).drew;have r4:Row w4.drew p _:=(r3.fr f4 (by rintro(h|h);exact hp _ (.inr (.inr (.inl rfl))) h.symm;exact hp _ (.inr (.inr (.inr (.inl rfl)))) h.symm)).drew;simp only[d_,fZ,gq,oM,hd4.cell,r4.cell];refine cmS9 (Yz _ _ _ hb.2 _) ?_;rintro _ w5 ⟨rfl,f5⟩;have hd5:=hd4.ext f5;simp only[aeA,d_,hd5.cell];have f45:gU w3 w5 (λx=>x=A.ti\/x=A.si):=(f4.ext (Ext.drew _)).ext f5;obtain⟨LO,tO,cO⟩:=h3.tO;have tO5:=tO.fr f45 (by rintro(h|h);exact n10 h.symm;exact n12 h.symm) (by rintro(h|h);exact n11 h.symm;exact n13 h.symm);have tI5:=(t4.KE (Ext.drew _)).KE f5;refine cmS0 (Lj tO5 (Bind.keyS b.o) (qO _ (by simp[Bnd.o]))) ?_;rintro _ w6 ⟨_,⟨L6,t6,c6'⟩,f6⟩;have hd6:=hd5.fr f6 (by rintro(h|h);exact n4 h;exact n5 h);have row6:Row w6 A.sl (S.flatMap iO):=((h3.row.fr f45 (by rintro(h|h);exact n6 h;exact n7 h)).fr f6 (by rintro(h|h);exact n8 h;exact n9 h));simp only[sx,hd6.cell];refine⟨by omega,by omega,?_⟩;refine MG row6 gl none λw7 row7 f7 z7=> ?_;have hd7:=hd6.fr f7 n1;simp only[d_,fZ,gq,hd7.cell];have hlen:=Gp.Bind.kV 0 g1;have hll:=Gp.Bind.jV S 0;rw[Α];refine gX hd7 rfl (by simp) λw8 hd8 f8 z8=> ?_;simp only[agE,aho] at hd8;have f8d:=f8 (·=A.d) rfl;have eu:∀M k v,Go.Proofs.upd M k v=Gp.Bind.upd M k v:=λ_ _ _=>rfl;have tI8:=((tI5.fr f6 (by rintro(h|h);exact n10 h;exact n11 h) (by rintro(h|h);exact n12 h;exact n13 h)).fr f7 (afx n6) (afx n7)).fr f8d (afx n2) (afx n3);have tO8:=(t6.fr f7 (afx n8) (afx n9)).fr f8d (afx n4) (afx n5);rw[eu] at tI8 tO8;have ff:gU w1 w8 (fp A):=by
   have q1:gU w1 w5 (fp A):=((x2.trans f3) _).trans f45 λx _ hx=>by
    rcases hx with hx|hx
    ·exact .inr (.inr (.inl hx))
    ·exact .inr (.inr (.inr (.inl hx)))
   have q2:gU w1 w6 (fp A):=q1.trans f6 λx _ hx=>by
    rcases hx with hx|hx
    ·exact .inr (.inr (.inr (.inr (.inl hx))))
    ·exact .inr (.inr (.inr (.inr (.inr hx))))
   exact(q2.trans f7 λx _ hx=> .inr (.inl hx)).trans f8d λx _ hx=> .inl hx
  have e:((live 0 S).length:Int) - 1=((live 0 (S.set id.toNat none)).length:Int):=by omega
  rw[e] at hd8;rw[I] at c4';rw[J] at c6';simp only[ajv,ahN] at c4' c6';have db:DB w8 A most (S.set id.toNat none) (Gp.Bind.upd Mi (Bind.keyS b.i) none) (Gp.Bind.upd Mo (Bind.keyS b.o) none):=
   ⟨hd8,row7.fr f8d (afx n1),by rw[ajl];exact hl,hm,⟨L4,tI8,by omega⟩,⟨L6,tO8,by omega⟩,h.good.remove g1,h.ne⟩
  exact⟨ff,_,_,db⟩
theorem afS (n:Int) (w:θ):KT n w λp e w'=>Ext w w'/\((¬(0<=n/\n<=4096)/\p=none/\e=1)\/(0<=n/\n<=4096/\e=0/\∃A,p=some ⟨A.d,0,none⟩/\(∀x,fp A x->w.heap.size<=x/\x<w'.heap.size)/\DB w' A n.toNat (List.replicate n.toNat none) (λ_=>none) (λ_=>none))):=by
 apply ZP;by_cases c1:n<0
 ·simp only[c1,aaA,Δ];exact⟨Ext.refl _,.inl ⟨by omega,by trivial,by trivial⟩⟩
 by_cases c2:n>4096
 ·simp only[c1,c2,aaA,aaV,Δ,Β];exact⟨Ext.refl _,.inl ⟨by omega,by trivial,by trivial⟩⟩
 simp only[c1,c2,aaV,Β];refine cmS6 (XI n w) ?_;rintro p1 e1 w1 ⟨f1,(⟨_,_,rfl,ti,rfl,l1,t1⟩|⟨u,_,_⟩)⟩;rotate_left
 ·omega
 refine cmS6 (XI n w1) ?_;rintro p2 e2 w2 ⟨f2,(⟨_,_,rfl,tu,rfl,l2,t2⟩|⟨u,_,_⟩)⟩;rotate_left
 ·omega
 simp only[show ((0:Int) !=0)=false from rfl,Β];refine GH (by omega) (by omega) (by omega) (by omega) λsl w3 r3 e3 z3 f3=> ?_;refine gu λd w4 r4 e4 z4 f4=> ?_;obtain⟨m,rfl⟩:∃m:Nat,n=(m:Int):=⟨n.toNat,by omega⟩;simp only[Η] at r3 r4 ⊢;have f1:Ext w w1:=f1;have f2:Ext w1 w2:=f2;have f3:Ext w2 w3:=f3;have x4:Ext w w4:=(f1.trans f2).trans (f3.trans f4);have i1:=t1.ht.hd.lt;have i2:=t2.ht.hd.lt;have s1:=f1.size;have s2:=f2.size;have sD:∀(k j:Nat),live j (List.replicate k none)=[]:=by
  intro k
  induction k with
  |zero=>intro j;rfl
  |succ k ih=>intro j;rw[aki,live];exact ih _
 have rep:∀k,gW [Value.int .i64 0,Value.int .i64 0,Value.int .i64 0,Value.int .i64 0,Value.int .i64 0,Value.int .i64 0,Value.int .i64 0,Value.bool false,Value.bool false] k=(List.replicate k (none:Option Bnd)).flatMap iO:=by
  intro k
  induction k with
  |zero=>rfl
  |succ k ih=>rw[gW,ih,aki,ajB];rfl
 refine⟨x4,.inr ⟨by omega,by omega,by trivial,⟨d,sl,ti,ti,tu,tu⟩,rfl,?_,?_⟩⟩
 ·intro x hx;rcases hx with hx|hx|hx|hx|hx|hx<;>simp only at hx<;>omega
 ·refine⟨?_,?_,by simp,by omega,⟨[],?_,?_⟩,⟨[],?_,?_⟩,⟨λk v=> ?_,λk v=> ?_,λj b hb=> ?_⟩,?_⟩
  ·rw[sD];exact r4
  ·rw[<- rep];exact r3.ext f4
  ·exact t1.KE (f2.trans (f3.trans f4))
  ·rw[sD];rfl
  ·exact t2.KE (f3.trans f4)
  ·rw[sD];rfl
  ·constructor
   ·intro h;cases h
   ·rintro⟨j,b,hj,_⟩;rw[akb] at hj;split at hj<;>simp at hj
  ·constructor
   ·intro h;cases h
   ·rintro⟨j,b,hj,_⟩;rw[akb] at hj;split at hj<;>simp at hj
  ·rw[akb] at hb;split at hb<;>simp at hb
  ·refine⟨?_,?_,?_,?_,?_,?_,?_,?_,?_,?_,?_,?_,?_⟩<;>simp only<;>omega
end
end Go.Proofs
end
section
namespace Gp.Ses
open Gp.V4
open Gp.Bind (keyB keyS keyS_inj In64 upd)
structure Ses where
 bd:Int
 st:Int
 un:Int
 ra:Int
 rp:Int
deriving DecidableEq
def Ses.k (b:Ses):List Int:=[b.bd,b.ra,b.rp]
def Ses.ok (b:Ses):Prop:=∀n∈b.k,In64 n
abbrev Slots:=List (Option Ses)
def live:Nat->Slots->List (Int×Ses)
 |_,[]=>[]
 |i,none::r=>live (i+1) r
 |i,some b::r=>((i:Int),b)::live (i+1) r
theorem nH:∀{S:Slots} {k:Nat} {v:Int} {b:Ses},(v,b)∈live k S↔∃i:Nat,S[i]? =some (some b)/\v=((k+i:Nat):Int)
 |[],k,v,b=>by simp[live]
 |none::r,k,v,b=>by
  rw[live,nH];constructor
  ·rintro⟨i,h1,h2⟩;exact⟨i+1,by simpa using h1,by omega⟩
  ·rintro⟨i,h1,h2⟩
   cases i with
   |zero=>simp at h1
   |succ i=>exact⟨i,by simpa using h1,by omega⟩
 |some c::r,k,v,b=>by
  rw[live,afm,nH];constructor
  ·rintro(h|⟨i,h1,h2⟩)
   ·simp only[akd] at h;exact⟨0,by simp[h.2],by omega⟩
   ·exact⟨i+1,by simpa using h1,by omega⟩
  ·rintro⟨i,h1,h2⟩
   cases i with
   |zero=>
    simp only[abY,afM] at h1;left;rw[h1,h2];rfl
   |succ i=>right;exact⟨i,by simpa using h1,by omega⟩
theorem jV:∀(S:Slots) (k:Nat),(live k S).length<=S.length
 |[],_=>by simp[live]
 |none::r,k=>by have:=jV r (k+1);simp[live];omega
 |some b::r,k=>by have:=jV r (k+1);simp[live];omega
def freeN:Slots->Option Nat
 |[]=>none
 |none::_=>some 0
 |some _::r=>(freeN r).map (·+1)
theorem jm:∀{S:Slots} {i:Nat} (k:Nat),freeN S=some i->i<S.length/\S[i]? =some none/\(live k S).length<S.length/\i<=(live k S).length/\(∀j,j<i->∃b,(live k S)[j]? =some (((k+j:Nat):Int),b)/\S[j]? =some (some b))/\
  (∀v b,(live k S)[i]? =some (v,b)->v≠((k+i:Nat):Int))/\∀b,live k (S.set i (some b))=(live k S).take i++(((k+i:Nat):Int),b)::(live k S).drop i
 |[],i,_,h=>by simp[freeN] at h
 |none::r,i,k,h=>by
  simp[freeN] at h;subst h;have hl:=jV r (k+1);refine⟨by simp,rfl,by simp[live];omega,by omega,by omega,λv b hv=> ?_,λb=>by simp[live]⟩;have:=ajF hv;rw[live,nH] at this;obtain⟨j,_,hj⟩:=this;omega
 |some c::r,i,k,h=>by
  simp only[freeN,akW] at h;obtain⟨i',h',rfl⟩:=h;obtain⟨h1,h2,h3,h4,h5,h6,h7⟩:=jm (k+1) h';refine⟨by simp;omega,by simpa using h2,by simp[live];omega,by simp[live];omega,λj hj=> ?_,λv b hv=> ?_,λb=> ?_⟩
  ·cases j with
   |zero=>exact⟨c,by simp[live],by simp⟩
   |succ j=>
    obtain⟨b,g1,g2⟩:=h5 j (by omega);refine⟨b,?_,by simpa using g2⟩;rw[live,adB,g1,show k+1+j=k+(j+1) by omega]
  ·rw[live,adB] at hv;have:=h6 v b hv
   rwa [show k+1+i'=k+(i'+1) by omega] at this
  ·rw[aho,live,h7 b,live,List.take_succ_cons,List.drop_succ_cons,show k+1+i'=k+(i'+1) by omega];rfl
theorem kV:∀{S:Slots} {i:Nat} {b:Ses} (k:Nat),S[i]? =some (some b)->(live k (S.set i none)).length+1=(live k S).length
 |[],_,_,_,h=>by simp at h
 |c::r,0,b,k,h=>by
  simp at h;subst h;simp[live]
 |none::r,i+1,b,k,h=>by
  rw[aho,live,live];exact kV (k+1) (by simpa using h)
 |some c::r,i+1,b,k,h=>by
  rw[aho,live,live,aeW,aeW,kV (k+1) (by simpa using h)]
structure GoodS (S:Slots) (M:ByteArray->Option Int):Prop where
 k:∀k v,M k=some v↔∃(j:Nat) (b:Ses),S[j]? =some (some b)/\keyS b.k=k/\v=(j:Int)
 ok:∀(j:Nat) (b:Ses),S[j]? =some (some b)->b.ok
theorem g_ {S:Slots} {i j:Nat} {v:Option Ses} (hi:i<S.length):(S.set i v)[j]? =if i=j then some v else S[j]? :=by
 rw[ajo];split
 ·rename_i h;subst h;simp[]
 ·rfl
theorem GoodS.add {S:Slots} {M:ByteArray->Option Int} (h:GoodS S M) {i:Nat} {b:Ses} (hi:S[i]? =some none) (hb:b.ok) (h1:M (keyS b.k)=none):GoodS (S.set i (some b)) (upd M (keyS b.k) (some i)):=by
 have hl:i<S.length:=(ady.1 hi).1;refine⟨λk v=> ?_,λj c hc=> ?_⟩
 ·unfold upd;by_cases hk:k=keyS b.k
  ·rw[Ζ hk];constructor
   ·intro e;exact⟨i,b,by rw[g_ hl,Ζ rfl],hk.symm,by simpa using e.symm⟩
   ·rintro⟨j,c,hc,hk2,rfl⟩;rw[g_ hl] at hc;split at hc
    ·rename_i e;subst e;rfl
    ·have:=(h.k k j).2 ⟨j,c,hc,hk2,rfl⟩;rw[hk,h1] at this;cases this
  ·rw[Ε hk,h.k];constructor
   ·rintro⟨j,c,hc,hk2,rfl⟩;refine⟨j,c,?_,hk2,rfl⟩;rw[g_ hl,Ε]
    ·exact hc
    ·rintro rfl;rw[hi] at hc;cases hc
   ·rintro⟨j,c,hc,hk2,rfl⟩;rw[g_ hl] at hc;split at hc
    ·rename_i e;subst e;simp only[afM] at hc;subst hc;exact absurd hk2.symm hk
    ·exact⟨j,c,hc,hk2,rfl⟩
 ·rw[g_ hl] at hc;split at hc
  ·simp only[afM] at hc;subst hc;exact hb
  ·exact h.ok j c hc
theorem GoodS.one {S:Slots} {M:ByteArray->Option Int} (h:GoodS S M) {i j:Nat} {b c:Ses} (hi:S[i]? =some (some b)) (hj:S[j]? =some (some c)) (e:keyS b.k=keyS c.k):i=j:=by
 have h1:=(h.k _ i).2 ⟨i,b,hi,rfl,rfl⟩;have h2:=(h.k _ j).2 ⟨j,c,hj,rfl,rfl⟩;rw[e,h2] at h1;simp at h1;omega
theorem GoodS.remove {S:Slots} {M:ByteArray->Option Int} (h:GoodS S M) {i:Nat} {b:Ses} (hi:S[i]? =some (some b)):GoodS (S.set i none) (upd M (keyS b.k) none):=by
 have hl:i<S.length:=(ady.1 hi).1;refine⟨λk v=> ?_,λj c hc=> ?_⟩
 ·unfold upd;by_cases hk:k=keyS b.k
  ·rw[Ζ hk];constructor
   ·intro e;cases e
   ·rintro⟨j,c,hc,hk2,rfl⟩;rw[g_ hl] at hc;split at hc
    ·cases hc
    ·rename_i e;exact absurd (h.one hi hc (by rw[hk2,hk])) e
  ·rw[Ε hk,h.k];constructor
   ·rintro⟨j,c,hc,hk2,rfl⟩;refine⟨j,c,?_,hk2,rfl⟩;rw[g_ hl,Ε]
    ·exact hc
    ·rintro rfl;rw[hi] at hc;simp only[afM] at hc;subst hc;exact hk hk2.symm
   ·rintro⟨j,c,hc,hk2,rfl⟩;rw[g_ hl] at hc;split at hc
    ·cases hc
    ·exact⟨j,c,hc,hk2,rfl⟩
 ·rw[g_ hl] at hc;split at hc
  ·cases hc
  ·exact h.ok j c hc
theorem GoodS.put {S:Slots} {M:ByteArray->Option Int} (h:GoodS S M) {i:Nat} {b b':Ses} (hi:S[i]? =some (some b)) (he:b'.k=b.k):GoodS (S.set i (some b')) M:=by
 have hl:i<S.length:=(ady.1 hi).1;refine⟨λk v=> ?_,λj c hc=> ?_⟩
 ·rw[h.k];constructor
  ·rintro⟨j,c,hc,hk,rfl⟩;by_cases e:i=j
   ·subst e;rw[hi] at hc
    cases hc
    exact⟨i,b',by rw[g_ hl,Ζ rfl],by rw[he,hk],rfl⟩
   ·exact⟨j,c,by rw[g_ hl,Ε e];exact hc,hk,rfl⟩
  ·rintro⟨j,c,hc,hk,rfl⟩;rw[g_ hl] at hc;split at hc
   ·rename_i e;subst e;cases hc;exact⟨i,b,hi,by rw[<- he,hk],rfl⟩
   ·exact⟨j,c,hc,hk,rfl⟩
 ·rw[g_ hl] at hc;split at hc
  ·cases hc
   have:=h.ok i b hi;unfold Ses.ok at this ⊢;rw[he];exact this
  ·exact h.ok j c hc
def getS (S:Slots) (id:Int):Option Ses:=if 0<=id then (S[id.toNat]?).join else none
theorem nV {S:Slots} {id:Int} {b:Ses}:getS S id=some b↔0<=id/\S[id.toNat]? =some (some b):=by
 unfold getS;split
 ·rename_i h;rw[Option.join_eq_some_iff];simp[h]
 ·rename_i h;simp[h]
theorem SL:∀{S:Slots} {i:Nat} {b:Ses} (b':Ses) (k:Nat),S[i]? =some (some b)->live k (S.set i (some b'))=(live k S).map λx=>if x.1=((k+i:Nat):Int) then (x.1,b') else x
 |[],_,_,_,_,h=>by simp at h
 |none::r,0,b,b',k,h=>by simp at h
 |some c::r,0,b,b',k,h=>by
  have u:∀x∈live (k+1) r,(if x.1=((k+0:Nat):Int) then (x.1,b') else x)=x:=by
   rintro⟨v,b⟩ hx;obtain⟨j,_,hj⟩:=nH.1 hx;rw[Ε (by simp only;omega)]
  rw[agE,live,live,aiG,Ζ (by simp),List.map_congr_left u,List.map_id']
 |none::r,i+1,b,b',k,h=>by
  rw[aho,live,live,SL b' (k+1) (by simpa using h),show k+1+i=k+(i+1) by omega]
 |some c::r,i+1,b,b',k,h=>by
  rw[aho,live,live,aiG,SL b' (k+1) (by simpa using h),show k+1+i=k+(i+1) by omega,Ε (by simp only;omega)]
theorem H9:∀(S:Slots) (k:Nat),(live k S).Pairwise (λx y=>x.1<y.1)/\∀x∈live k S,(k:Int)<=x.1
 |[],_=>by simp[live]
 |none::r,k=>by
  have:=H9 r (k+1);refine⟨this.1,λx hx=> ?_⟩;have:=this.2 x hx;omega
 |some b::r,k=>by
  have:=H9 r (k+1);rw[live];refine⟨alz.2 ⟨λx hx=>by have:=this.2 x hx;simp only;omega,this.1⟩,λx hx=> ?_⟩;rcases afm.1 hx with rfl|hx
  ·simp
  ·have:=this.2 x hx;omega
def ids (S:Slots) (k:Int):List Int:=((live 0 S).filter λx=>x.2.bd==k).map (·.1)
theorem qy (S:Slots) (k:Int):(ids S k).Pairwise (·<·):=by
 unfold ids;rw[List.pairwise_map];exact((H9 S 0).1.filter _)
theorem yg {S:Slots} {k v:Int}:v∈ids S k↔∃(i:Nat) (b:Ses),S[i]? =some (some b)/\v=(i:Int)/\b.bd=k:=by
 unfold ids;rw[ajX];constructor
 ·rintro⟨⟨v',b⟩,h,rfl⟩;obtain⟨h1,h2⟩:=aku.1 h;obtain⟨i,h3,h4⟩:=nH.1 h1;exact⟨i,b,h3,by simp only;omega,by simpa using h2⟩
 ·rintro⟨i,b,h1,rfl,h2⟩;exact⟨((i:Int),b),aku.2 ⟨nH.2 ⟨i,h1,by omega⟩,by simpa using h2⟩,rfl⟩
theorem Jt {l m:List Int} (hl:l.Pairwise (·<·)) (hm:m.Pairwise (·<·)) (h:∀v,v∈l↔v∈m):l=m:=by
 induction l generalizing m with
 |nil=>
  cases m with
  |nil=>rfl
  |cons a m=>have:=(h a).2 (by simp);simp at this
 |cons a l ih=>
  cases m with
  |nil=>have:=(h a).1 (by simp);simp at this
  |cons b m=>
   rw[alz] at hl hm;have h1:=(h a).1 (by simp);have h2:=(h b).2 (by simp);have u:a=b:=by
    rcases afm.1 h1 with e|e
    ·exact e
    ·rcases afm.1 h2 with e'|e'
     ·exact e'.symm
     ·have:=hm.1 a e;have:=hl.1 b e';omega
   subst u;rw[ih hl.2 hm.2 λv=> ?_];have:=h v;constructor
   ·intro hv;rcases afm.1 (this.1 (by simp[hv])) with e|e
    ·have:=hl.1 v hv;omega
    ·exact e
   ·intro hv;rcases afm.1 (this.2 (by simp[hv])) with e|e
    ·have:=hm.1 v hv;omega
    ·exact e
theorem af9 {S:Slots} {i:Nat} {b:Ses} (hi:S[i]? =some none) {p:Nat} (h1:∀(j:Nat) v,j<p->(ids S b.bd)[j]? =some v->v<(i:Int)) (h2:∀(j:Nat) v,p<=j->(ids S b.bd)[j]? =some v->¬v<(i:Int)) (hp:p<=(ids S b.bd).length):
  ids (S.set i (some b)) b.bd=(ids S b.bd).take p++(i:Int)::(ids S b.bd).drop p:=by
 have hl:i<S.length:=(ady.1 hi).1;have u:(i:Int)∉ids S b.bd:=λh=>by
  obtain⟨j,c,hc,hj,_⟩:=yg.1 h;have:i=j:=by omega
  subst this;rw[hi] at hc;cases hc
 have hs:=qy S b.bd;refine Jt (qy _ _) ?_ λv=> ?_
 ·rw[List.pairwise_append,alz];refine⟨hs.sublist (List.take_sublist ..),⟨λq hq=> ?_,hs.sublist (List.drop_sublist ..)⟩,λq hq r hr=> ?_⟩
  ·obtain⟨k,hk⟩:=akS hq;rw[akY] at hk;have:=h2 _ q (by omega) hk;have:q≠(i:Int):=λe=>u (e ▸ List.mem_of_mem_drop hq);omega
  ·obtain⟨k,hk,he⟩:=alj.1 hq;have I:=h1 k q (by omega) (by rw[abe (by omega),he]);rcases afm.1 hr with rfl|hr
   ·exact I
   ·obtain⟨k',hk'⟩:=akS hr;rw[akY] at hk';have:=h2 _ r (by omega) hk';omega
 ·rw[yg,ajk,afm,<- or_assoc,or_right_comm,or_comm (b:=v=(i:Int)),<- ajk,ajS,yg];constructor
  ·rintro⟨j,c,hc,rfl,hb⟩;rw[g_ hl] at hc;split at hc
   ·rename_i e;exact .inl (by rw[e])
   ·exact .inr ⟨j,c,hc,rfl,hb⟩
  ·rintro(rfl|⟨j,c,hc,rfl,hb⟩)
   ·exact⟨i,b,by rw[g_ hl,Ζ rfl],rfl,rfl⟩
   ·refine⟨j,c,?_,rfl,hb⟩;rw[g_ hl,Ε]
    ·exact hc
    ·rintro rfl;rw[hi] at hc;cases hc
theorem U2 {S:Slots} {i:Nat} {b:Ses} (hi:S[i]? =some none) {k:Int} (hk:k≠b.bd):ids (S.set i (some b)) k=ids S k:=by
 have hl:i<S.length:=(ady.1 hi).1;refine Jt (qy _ _) (qy _ _) λv=> ?_;rw[yg,yg];constructor
 ·rintro⟨j,c,hc,rfl,hb⟩;rw[g_ hl] at hc;split at hc
  ·cases hc;exact absurd hb.symm hk
  ·exact⟨j,c,hc,rfl,hb⟩
 ·rintro⟨j,c,hc,rfl,hb⟩;refine⟨j,c,?_,rfl,hb⟩;rw[g_ hl,Ε]
  ·exact hc
  ·rintro rfl;rw[hi] at hc;cases hc
theorem SC {S:Slots} {i:Nat} {b:Ses} (hi:S[i]? =some (some b)) (k:Int):ids (S.set i none) k=(ids S k).filter λv=>v !=(i:Int):=by
 have hl:i<S.length:=(ady.1 hi).1;refine Jt (qy _ _) ((qy S k).filter _) λv=> ?_;rw[yg,aku,yg];constructor
 ·rintro⟨j,c,hc,rfl,hb⟩;rw[g_ hl] at hc;split at hc
  ·cases hc
  ·rename_i e;exact⟨⟨j,c,hc,rfl,hb⟩,by simp;omega⟩
 ·rintro⟨⟨j,c,hc,rfl,hb⟩,h⟩;refine⟨j,c,?_,rfl,hb⟩;rw[g_ hl,Ε]
  ·exact hc
  ·rintro rfl;simp at h
theorem OG {S:Slots} {i:Nat} {b:Ses} (hi:S[i]? =some (some b)) {k:Int} (hk:k≠b.bd):ids (S.set i none) k=ids S k:=by
 rw[SC hi,ak5];intro v hv;obtain⟨j,c,hc,rfl,hb⟩:=yg.1 hv;have:j≠i:=λe=>by subst e;rw[hi] at hc;cases hc;exact hk hb.symm
 simp;omega
theorem abB {S:Slots} {i:Nat} {b b':Ses} (hi:S[i]? =some (some b)) (he:b'.bd=b.bd) (k:Int):ids (S.set i (some b')) k=ids S k:=by
 have hl:i<S.length:=(ady.1 hi).1;refine Jt (qy _ _) (qy _ _) λv=> ?_;rw[yg,yg];constructor
 ·rintro⟨j,c,hc,rfl,hb⟩;rw[g_ hl] at hc;split at hc
  ·rename_i e;subst e;cases hc;exact⟨i,b,hi,rfl,by rw[<- he,hb]⟩
  ·exact⟨j,c,hc,rfl,hb⟩
 ·rintro⟨j,c,hc,rfl,hb⟩;by_cases e:i=j
  ·subst e;rw[hi] at hc
   cases hc
   exact⟨i,b',by rw[g_ hl,Ζ rfl],rfl,by rw[he,hb]⟩
  ·exact⟨j,c,by rw[g_ hl,Ε e];exact hc,rfl,hb⟩
theorem QM (S:Slots) (k:Int):(ids S k).length<=S.length:=by
 unfold ids;rw[ahv];exact ahO (alA ..) (jV S 0)
end Gp.Ses
end
section
namespace Go.Proofs.SN
open Gp Gp.Hash
abbrev eI (x:Int):List Value:=[.int .i64 x]
theorem jc (x:Int):(eI x).length=1:=rfl
theorem Ho (x:Int):∀v∈eI x,iL v=true:=by intro v hv;rw[aiB.1 hv];rfl
theorem jE {α:Type} {n:Nat} {f:α->List Value} {w:θ} {s:fU} {xs:List α} (hn:∀x,(f x).length=n) (hn0:0<n) (h:lD n f w s xs) {i:Int} {K:Addr->Prop} {x:α} (h0:0<=i) (hx:xs[i.toNat]? =some x)
  (hK:∀a:Addr,(∀j v,(f x)[j]? =some v->w.cell? (a.add j)=some v)->K a):iF s n i K:=by
 obtain⟨a,ha,hc⟩:=h.at_ hn hn0 hx;have hlt:=(ady.1 hx).1;obtain⟨sa,sl,sc⟩:=s;simp only at ha;subst ha;have hl:sl=xs.length:=h.len;refine(zU ..).2 ⟨h0,by omega,hK _ λj v hj=> ?_⟩;rw[<- hc j v hj];congr 1;obtain⟨b,o,t⟩:=a;unfold Addr.add;by_cases h1:i.toNat * n=0<;>by_cases h2:j=0<;>simp[h1,h2,akr]
theorem af6 {a b:Nat} (h:a+b<=2^40):ο.wrap (jy .u64 (IntKind.u64.wrap (ο.wrap ((a:Int)+(b:Int)))) 1)=(((a+b) / 2:Nat):Int):=by
 rw[Α (n:=(a:Int)+(b:Int)) (by omega) (by omega)];have h1:IntKind.u64.wrap ((a:Int)+(b:Int))=((a+b:Nat):Int):=by
  simp only[IntKind.wrap,IntKind.bits,IntKind.signed,Bool.false_and,ak9,aiC];omega
 rw[h1];have h2:jy .u64 ((a+b:Nat):Int) 1=(((a+b) / 2:Nat):Int):=by
  unfold jy;have:min (1:Int).toNat IntKind.u64.bits=1:=rfl;rw[this];rw[ak2 _ (by decide)];omega
 rw[h2,Α]
theorem Nq (a:Int) (w:θ):lN a w λr w'=>r=false/\w'=w:=by
 apply D7;exact⟨by simp,rfl⟩
theorem acJ {w:θ} {s:fU} {xs:List Int} {y:Int} {vb i:Nat} (hs:iY 1 eI w s xs) (hy:Row w vb (eI y)) (hv:∀b,fU.at s b->b≠vb) (hi:i<=xs.length) (hl:xs.length<=2^30):
  o_ s (i:Int) ⟨some ⟨vb,0,none⟩,1,1⟩ w λr w'=>iY 1 eI w' r (xs.take i++y::xs.drop i)/\gU w w' (fU.at s)/\∀b,fU.at r b->fU.at s b\/w.heap.size<=b:=by
 apply DC;have hlen:=hs.len;have ac:=hs.sl jc (by omega);have U:=ac.cap;have ae:lD 1 eI w ⟨some ⟨vb,0,none⟩,1,1⟩ [y]:=(iY.row (xs:=[y]) (f:=eI) (n:=1) (by simpa using hy)).sl jc (by omega);refine abg jc ac (by omega) (by omega) (by omega) λs4 _=> ?_;simp only;rw[show (((1:Nat):Int)==0)=false from rfl,Β];by_cases he:(i:Int)=(s.len:Int)
 ·rw[show ((i:Int)==(s.len:Int))=true by simpa using he,Δ];refine mX jc hs ae rfl (by omega) Ho (by simp only[ako];omega) (by simp only[ako];omega) λs' w' h1 h2 h3=> ?_;refine⟨?_,h2,h3⟩;rw[aji (by omega),List.drop_of_length_le (by omega)];exact h1
 rw[show ((i:Int)==(s.len:Int))=false by simpa using he,Β];have hi':i<xs.length:=by omega
 have hx:=abe hi';generalize xs[i]=x at hx;obtain⟨b,pad,ha,hc,hr⟩:∃b pad,s.a=some ⟨b,0,none⟩/\s.cap * 1=xs.length * 1+pad.length/\Row w b (xs.flatMap eI++pad):=by
  rcases hs.mem with ⟨_,h,_⟩|h
  ·rw[h] at hi';simp at hi'
  ·exact h
 have af:b≠vb:=hv b ⟨0,ha⟩;obtain⟨sa,sl,sc⟩:=s;simp only at ha hc hlen U he;subst ha;subst hlen;have lt:=iT eI 1 jc (xs.take i);have ld:=iT eI 1 jc (xs.drop i);have ld1:=iT eI 1 jc (xs.drop (i+1));rw[ahP,akw (by omega)] at lt;rw[aj0] at ld ld1;have oned:∀v∈(xs.drop i).flatMap eI,iL v=true:=λv hv=>by
  obtain⟨z,_,hz⟩:=List.mem_flatMap.1 hv;exact Ho z v hz
 rw[Α (n:=(xs.length:Int)+((1:Nat):Int)) (by omega) (by omega)];by_cases hg:(xs.length:Int)+((1:Nat):Int)>(sc:Int)
 ·rw[ab9 hg,Δ];refine⟨by(try simp only);omega,by(try simp only);omega,by(try simp only);omega,?_⟩
  rw[Α,show ((xs.length:Int)+((1:Nat):Int)) - (i:Int)=((xs.length+1 - i:Nat):Int) by omega];simp only[Η,ak4,aky];have Y:qM (some (⟨b,0,none⟩:Addr)) sc 0 1=some ⟨b,0,none⟩:=by
   unfold qM;split<;>simp[Addr.add]
  rw[Y];have Z:nO w (some ⟨b,0,none⟩) (i * 1) ((xs.take i).flatMap eI):=by
   refine Ou (A:=[]) (C:=(xs.drop i).flatMap eI++pad) ?_ rfl lt;rw[XE (i:=i),ajj] at hr;exact hr
  refine Q7 (m:=xs.length+1 - i) (by simp only;omega) (by simp only;omega) (by simp only;omega) Z λc w1 hc1 r1 f1 z1=> ?_;simp only at hc1 r1 ⊢;rw[show i+(xs.length+1 - i)=xs.length+1 by omega] at hc1 r1 ⊢;obtain⟨k,hk⟩:∃k,xs.length+1 - i=k+1:=⟨xs.length - i,by omega⟩;rw[hk] at r1;have u:∀j:Nat,j<c->qM (some (⟨w.heap.size,0,none⟩:Addr)) c j 1=some ⟨w.heap.size,j * 1,none⟩:=by
   intro j hj;unfold qM;rw[Ε (by omega),aik,gJ,ahA]
  refine⟨by(try simp only);omega,by(try simp only);omega,by(try simp only);omega,?_⟩
  simp only[Η];rw[u i (by omega)];have r1':Row w1 w.heap.size ((xs.take i).flatMap eI++([Value.int .i64 0]++(gW [Value.int .i64 0] k++gW [Value.int .i64 0] (c - (xs.length+1))))):=by
   simpa [gW] using r1
  have aa:=ae.ext f1;refine Ad (m:=1) (vs:=eI y) (by show min (_:Nat) _=_;simp only;omega) (by have:=aa.cells;simpa using this) r1' (by simp only[adH,aeW,aiJ];omega) (Ho y) λw2 r2 f2=> ?_;rw[<- lt,Ju (by rfl)] at r2;rw[Α (n:=(i:Int)+((1:Nat):Int)) (by omega) (by omega),show (i:Int)+((1:Nat):Int)=((i+1:Nat):Int) by omega];refine⟨by(try simp only);omega,by(try simp only);omega,by(try simp only);omega,?_⟩
  simp only[Η];rw[u (i+1) (by omega)];have hr2:=((hr.ext f1).fr f2 (by have:=hr.lt;omega)).drew;refine⟨by(try simp only);omega,by(try simp only);omega,by(try simp only);omega,?_⟩
  simp only[Η];have J:qM (some (⟨b,0,none⟩:Addr)) sc i 1=some ⟨b,i * 1,none⟩:=by
   unfold qM;rw[Ε (by omega),aik,gJ,ahA]
  rw[J];have I:nO w2.drew (some ⟨b,i * 1,none⟩) ((xs.length - i) * 1) ((xs.drop i).flatMap eI):=by
   refine Ou (A:=(xs.take i).flatMap eI) (C:=pad) ?_ lt ld;rw[XE (i:=i),ajj] at hr2;exact hr2
  have r2':Row w2.drew w.heap.size (((xs.take i).flatMap eI++eI y)++(gW [Value.int .i64 0] k++gW [Value.int .i64 0] (c - (xs.length+1)))):=by
   rw[ajj];exact r2.drew
  have lA:((xs.take i).flatMap eI++eI y).length=(i+1) * 1:=by rw[adH,lt,jc];omega
  have lk:(gW [Value.int .i64 0] k).length=((xs.drop i).flatMap eI).length:=by rw[mQ,ld];simp only[aeW,aiJ];omega
  refine Ad (m:=xs.length - i) (vs:=(xs.drop i).flatMap eI) (by show min (_:Nat) _=_;simp only;omega) I r2' (by rw[adH,lA,adH,lk];omega) oned λw3 r3 f3=> ?_;rw[<- lA,Ju lk] at r3;have f23:gU w1 w3 (·=w.heap.size):=(f2.ext (Ext.drew w2)).trans f3 λ_ _ e=>e;refine⟨⟨by simp;omega,.inr ⟨w.heap.size,gW [Value.int .i64 0] (c - (xs.length+1)),rfl,?_,?_⟩⟩,f1.new f23 (by intro x hx e;omega) _,λb' hb'=> ?_⟩
  ·rw[mQ];simp only[adH,ahP,aeW,aj0,aiJ];omega
  ·rw[ajT,ajB];simpa using r3
  ·obtain⟨o,e⟩:=hb'
   cases e
   exact .inr (aiq _)
 ·rw[abW hg,Β];obtain⟨p1,p2,hp,lp1⟩:∃p1 p2,pad=p1++p2/\p1.length=1:=⟨pad.take 1,pad.drop 1,(ajS 1 pad).symm,by rw[ahP];omega⟩;subst hp;refine⟨by(try simp only);omega,by(try simp only);omega,by(try simp only);omega,?_⟩
  rw[Α (n:=(i:Int)+((1:Nat):Int)) (by omega) (by omega),show (i:Int)+((1:Nat):Int)=((i+1:Nat):Int) by omega];have N:qM (some (⟨b,0,none⟩:Addr)) sc 0 1=some ⟨b,0,none⟩:=by
   unfold qM;split<;>simp[Addr.add]
  have u:∀j:Nat,j<sc->qM (some (⟨b,0,none⟩:Addr)) sc j 1=some ⟨b,j * 1,none⟩:=by
   intro j hj;unfold qM;rw[Ε (by omega),aik,gJ,ahA]
  simp only[ak4,aky,N];refine⟨by(try simp only);omega,by(try simp only);omega,by(try simp only);omega,?_⟩
  simp only[Η];rw[u (i+1) (by omega)];have O:xs.flatMap eI=(xs.take i).flatMap eI++(eI x++(xs.drop (i+1)).flatMap eI):=aan hx;refine UL Tryz.func251 (by kernel_rfl) (by kernel_rfl) (by kernel_rfl) (tS:=25) (tR:=4) (by kernel_rfl) (e:=3) (by kernel_rfl) (by kernel_rfl) hy hr (λe=>af e.symm) (by
   intro h;have:=congrArg List.length h;simp only[adH,aiJ] at this;omega) ?_
  refine⟨false,rfl,?_⟩;rw[aek,Δ];refine⟨by(try simp only);omega,by(try simp only);omega,by(try simp only);omega,?_⟩
  simp only[Η];rw[u (i+1) (by omega)];refine⟨by(try simp only);omega,by(try simp only);omega,by(try simp only);omega,?_⟩
  simp only[Η];rw[u i (by omega)];have R:=hr.drew;have I:nO w.drew (some ⟨b,i * 1,none⟩) ((xs.length - i) * 1) ((xs.drop i).flatMap eI):=by
   refine Ou (A:=(xs.take i).flatMap eI) (C:=p1++p2) ?_ lt ld;rw[XE (i:=i),ajj] at R;exact R
  have r0:Row w.drew b (((xs.take i).flatMap eI++eI x)++(((xs.drop (i+1)).flatMap eI++p1)++p2)):=by
   rw[O] at R;simpa using R
  have lA:((xs.take i).flatMap eI++eI x).length=(i+1) * 1:=by rw[adH,lt,jc];omega
  have lB:((xs.drop (i+1)).flatMap eI++p1).length=((xs.drop i).flatMap eI).length:=by rw[adH,ld1,ld,lp1];omega
  refine Ad (m:=xs.length - i) (vs:=(xs.drop i).flatMap eI) (by show min (_:Nat) _=_;simp only;omega) I r0 (by rw[adH,lA,adH,lB];omega) oned λw2 r2 f2=> ?_;rw[<- lA,Ju lB] at r2;refine⟨by(try simp only);omega,by(try simp only);omega,by(try simp only);omega,?_⟩
  simp only[Η];rw[u i (by omega)];have hy2:Row w2 vb (eI y):=hy.drew.fr f2 (λe=>af e.symm);have ab:lD 1 eI w2 ⟨some ⟨vb,0,none⟩,1,1⟩ [y]:=(iY.row (xs:=[y]) (f:=eI) (n:=1) (by simpa using hy2)).sl jc (by omega);have r2':Row w2 b ((xs.take i).flatMap eI++(eI x++((xs.drop i).flatMap eI++p2))):=by simpa using r2
  refine Ad (m:=1) (vs:=eI y) (by show min (_:Nat) _=_;simp only;omega) (by have:=ab.cells;simpa using this) r2' (by simp only[adH,jc];omega) (Ho y) λw3 r3 f3=> ?_;rw[<- lt,Ju (by rfl)] at r3;have f13:gU w w3 (·=b):=((gU.drew w _).trans f2 λ_ _ e=>e).trans f3 λ_ _ e=>e;refine⟨⟨by simp;omega,.inr ⟨b,p2,rfl,?_,?_⟩⟩,f13.mono λc hc=>⟨0,by rw[hc]⟩,λb' hb'=> .inl ?_⟩
  ·simp only[adH,ahP,aeW,aj0] at hc ⊢;omega
  ·rw[ajT,ajB];simpa using r3
  ·obtain⟨o,e⟩:=hb';exact⟨o,e⟩
theorem acK (a:Int) (w:θ):qm a w λr w'=>r=false/\w'=w:=by
 apply Ko;exact⟨by simp,rfl⟩
theorem agm (a b:Int) (w:θ):Ai a b w λr w'=>r=decide (a<b)/\w'=w:=by
 apply Qn;intro J;refine cmS0 (Nq _ _) ?_;rintro r w' ⟨rfl,hw⟩;subst hw;rw[Β];exact⟨rfl,rfl⟩
theorem BJ {w:θ} {s:fU} {l:List Int} (h:lD 1 eI w s l) {k:Nat} {z:Int} (hk:l[k]? =some z) {K:Addr->Prop} (hK:∀a,w.cell? a=some (.int .i64 z)->K a):iF s 1 (k:Int) K:=
 jE jc (by omega) h (by omega) (by rw[Η];exact hk) λa hc=>hK a (hc 0 _ rfl)
theorem ahJ {w:θ} {s:fU} {xs:List Int} (hs:lD 1 eI w s xs) (hl:xs.length<=2^30) (N:xs.Pairwise (·<·)) (v:Int):
  lH s v w λr _ w'=>(∃i:Nat,r=(i:Int)/\i<=xs.length/\(∀(k:Nat) u,k<i->xs[k]? =some u->u<v)/\∀(k:Nat) u,i<=k->xs[k]? =some u->¬u<v)/\w'=w:=by
 apply xu;have hlen:=hs.len;have mono:∀(i j:Nat) (u u':Int),i<j->xs[i]? =some u->xs[j]? =some u'->u<u':=by
  intro i j u u' O h1 h2;obtain⟨g1,rfl⟩:=ady.1 h1;obtain⟨g2,rfl⟩:=ady.1 h2;exact alk.1 N i j g1 g2 O
 refine gK (λst W=>∃i j:Nat,i<=j/\j<=xs.length/\st.1=(i:Int)/\st.2.1=(j:Int)/\W=w/\(∀(k:Nat) u,k<i->xs[k]? =some u->u<v)/\∀(k:Nat) u,j<=k->xs[k]? =some u->¬u<v)
  (λst _=>(st.2.1 - st.1).toNat) ⟨0,xs.length,by omega,by omega,rfl,by simp only;omega,rfl,λk u h=>by omega,λk u h hx=>by
   have:=(ady.1 hx).1;omega⟩ ?_
 rintro⟨i',j',⟨⟩⟩ W ⟨i,j,O,hj,hi1,hj1,rfl,hb,ha⟩ next I
 simp only at hi1 hj1;subst hi1 hj1;simp -zeta only[af6 (show i+j<=2^40 by omega)];by_cases R:(i:Int)<(j:Int)
 ·rw[ab9 R,Δ];refine⟨by decide,?_⟩;have hm:(i+j) / 2<xs.length:=by omega
  have hx:=abe hm;generalize xs[(i+j) / 2]=u at hx;refine BJ hs hx λa hc=> ?_;simp -zeta only[sx,hc];refine cmS0 (agm _ _ _) ?_;rintro r w' ⟨rfl,hw⟩;subst hw;by_cases hg:u<v
  ·rw[ab9 hg,Δ,Α];refine I _ _ ⟨(i+j) / 2+1,j,by omega,hj,by simp,rfl,rfl,λk z hk hz=> ?_,ha⟩ (by simp only;omega);rcases akM k ((i+j) / 2) with h|h
   ·have:=mono _ _ _ _ h hz hx;omega
   ·have:k=(i+j) / 2:=by omega
    subst this;rw[hx] at hz
    cases hz
    exact hg
  ·rw[abW hg,Β];refine I _ _ ⟨i,(i+j) / 2,by omega,by omega,rfl,rfl,rfl,hb,λk z hk hz=> ?_⟩ (by simp only;omega);rcases akM ((i+j) / 2) k with h|h
   ·have:=mono _ _ _ _ h hx hz;omega
   ·have:k=(i+j) / 2:=by omega
    subst this;rw[hx] at hz
    cases hz
    exact hg
 ·rw[abW R,Β];have:i=j:=by omega
  subst this;intro J;have fin:∀b,J (i:Int) b W:=λb=>⟨⟨i,rfl,hj,hb,ha⟩,rfl⟩;clear_value J;by_cases hg:(i:Int)<(s.len:Int)
  ·rw[ab9 hg,Δ];have hx:=abe (show i<xs.length by omega);generalize xs[i]=u at hx;refine BJ hs hx λa hc=> ?_;simp -zeta only[sx,hc];by_cases he:u=v
   ·rw[show (u==v)=true by simpa using he,Δ];exact fin _
   ·rw[show (u==v)=false by simpa using he,Β];refine BJ hs hx λa hc=> ?_;simp -zeta only[fZ,gq,hc];refine cmS0 (acK _ _) ?_;rintro r w' ⟨rfl,hw⟩;subst hw;rw[Β];exact fin _
  ·rw[abW hg,Β];exact fin _
theorem Ov {w:θ} {s:fU} {xs:List Int} (hs:lD 1 eI w s xs) (hl:xs.length<=2^30):
  mM s w λr w'=>Ext w w'/\iY 1 eI w' r xs/\∀b,fU.at r b->w.heap.size<=b:=by
 apply Ed;have hlen:=hs.len
 cases ha:s.a with
 |none=>
  have hc:=hs.cells;rw[ha] at hc;have h0:xs.flatMap eI=[]:=hc;have u:=iT eI 1 jc xs;rw[h0] at u;have:xs=[]:=by
   cases xs with
   |nil=>rfl
   |cons _ _=>simp only[aeW,aiJ] at u;omega
  subst this;simp only[alx,Δ];exact⟨Ext.refl _,iY.nil,λb ⟨o,hb⟩=>by cases hb⟩
 |some a=>
  simp only[ak3,Β];refine gu λt w1 rt et zt f1=> ?_;have hb:iY 1 eI w1 ⟨some ⟨t,0,none⟩,0,0⟩ ([]:List Int):=iY.row (xs:=[]) rt;refine mX jc hb (hs.ext f1) rfl (by omega) Ho (by simp only[aiJ];omega) (by simp only[aiJ];omega) λs' w' h1 h2 h3=> ?_;refine⟨f1.new h2 λb hb ⟨o,he⟩=>by cases he;omega,h1,λb hb=> ?_⟩;rcases h3 b hb with ⟨o,he⟩|h
  ·cases he;omega
  ·omega
theorem ai5 (l:List Int):l.flatMap eI=l.map λx=>Value.int .i64 x:=by
 induction l with
 |nil=>rfl
 |cons a l ih=>rw[ajB,ih];rfl
theorem Y3 {w:θ} {b o n c:Nat} {L:List Value} {K:b_} (hr:Row w b L) (ho:o+n<=L.length) (hK:∀w',Row w' b (spl L o (gW [.int .i64 0] n))->gU w w' (·=b)->K w'):I7 [.int .i64 0] ⟨some ⟨b,o,none⟩,n,c⟩ w K:=by
 have hrl:(gW [Value.int .i64 0] n).length=n:=by rw[mQ];simp
 refine⟨?_,by intro v hv;rw[aiB.1 hv];rfl,?_⟩
 ·rintro a ha
  cases ha
  intro j hj;simp only[aeW,aiJ] at hj;rw[gJ,hr.cell];exact⟨by simp;omega,hr.frozen _⟩
 ·obtain⟨r,f⟩:=wL (gW [Value.int .i64 0] n) w L o 0 hr (by omega);refine hK _ ?_ (f (·=b) rfl);simpa [spl] using r
def FnI (v:Value) (C:b_) (p:Int->Bool):Prop:=∀x W (K:Value->b_),C W->K (.bool (p x)) W->jB υ [.one .bool] v [.int .i64 x] W K
theorem ahW {w:θ} {s:fU} {xs:List Int} {v:Value} {p:Int->Bool} {C:b_} (hs:lD 1 eI w s xs) (hl:xs.length<=2^30) (hp:FnI v C p) (hC:C w):
  jO s v w λr w'=>((r= -1/\xs.any p=false)\/∃j:Nat,r=(j:Int)/\j<xs.length/\(xs.take j).any p=false/\(xs.take (j+1)).filter (λx=> !p x)=xs.take j)/\w'=w:=by
 apply rF;have hlen:=hs.len;refine gK (λst W=>∃j:Nat,j<=xs.length/\st.1=(j:Int)/\W=w/\(xs.take j).any p=false) (λst _=>(s.len - st.1).toNat) ⟨0,by omega,rfl,rfl,by simp⟩ ?_;rintro⟨i,⟨⟩⟩ W ⟨j,hj,hi,rfl,hm⟩ next h
 simp only at hi;subst hi;by_cases u:(j:Int)<(s.len:Int)
 ·simp only[u,aaA,Δ];have hx:=abe (show j<xs.length by omega);generalize xs[j]=x at hx;have I:xs.take (j+1)=xs.take j++[x]:=by rw[akc,hx];rfl
  refine BJ hs hx λa hc=> ?_;simp only[sx,hc];refine hp x W _ hC ⟨p x,rfl,?_⟩
  cases he:p x
  ·simp only[Β];rw[Α];refine h _ _ ⟨j+1,by omega,by simp,rfl,?_⟩ (by simp only;omega);rw[I,ak6,hm,ak7,he,ak8];rfl
  ·simp only[Δ];refine⟨.inr ⟨j,rfl,by omega,hm,?_⟩,by trivial⟩;rw[I,ake,ak5.2 (λy hy=>by have:=akN.1 hm y hy;simpa using this)];simp[he]
 ·simp only[u,aaV,Β];rw[aji (by omega)] at hm;exact⟨.inl ⟨by trivial,hm⟩,by trivial⟩
theorem afN {w:θ} {s:fU} {xs:List Int} {v:Value} {p:Int->Bool} {C:b_} (hs:iY 1 eI w s xs) (hl:xs.length<=2^30) (hp:FnI v C p) (hC:∀W,gU w W (fU.at s)->C W):
  mO s v w λr w'=>iY 1 eI w' r (xs.filter λx=> !p x)/\gU w w' (fU.at s)/\∀b,fU.at r b->fU.at s b:=by
 apply yR;have hlen:=hs.len;have af:=hs.sl jc (by omega);have ab:=af.cap;refine cmS1 (ahW af hl hp (hC w (gU.refl _ _))) ?_;rintro r w' ⟨h,hw⟩;subst hw;rcases h with ⟨rfl,ak⟩|⟨i0,rfl,hi0,hany,N⟩
 ·rw[show ((-1:Int)== -1)=true from rfl,Δ];refine⟨?_,gU.refl _ _,λb hb=>hb⟩;rw[ak5.2 (λy hy=>by have:=akN.1 ak y hy;simpa using this)];exact hs
 rw[show ((i0:Int)== -1)=false from akJ.2 (by omega),Β];obtain⟨b,pad,ha,hc,hr⟩:∃b pad,s.a=some ⟨b,0,none⟩/\s.cap * 1=xs.length * 1+pad.length/\Row w' b (xs.flatMap eI++pad):=by
  rcases hs.mem with ⟨_,h,_⟩|h
  ·rw[h] at hi0;simp at hi0
  ·exact h
 obtain⟨sa,sl,sc⟩:=s;simp only at ha hc hlen ab;subst ha;subst hlen;rw[ai5] at hr;rw[Α (n:=(i0:Int)+1) (by omega) (by omega)];have ag:∀{W},gU w' W (·=b)->gU w' W (fU.at ⟨some ⟨b,0,none⟩,xs.length,sc⟩):=λhf=>hf.mono λc hc=>⟨0,by rw[hc]⟩;refine gK (λst W=>∃j:Nat,j<=xs.length/\st.2.1=(j:Int)/\st.1=(((xs.take j).filter λx=> !p x).length:Int)/\((xs.take j).filter λx=> !p x).length<j/\gU w' W (·=b)/\∃mid,mid.length=j - ((xs.take j).filter λx=> !p x).length/\Row W b ((((xs.take j).filter λx=> !p x).map λx=>Value.int .i64 x)++(mid++(((xs.drop j).map λx=>Value.int .i64 x)++pad))))
  (λst _=>(xs.length - st.2.1).toNat) ⟨i0+1,by omega,by simp,by rw[N,ahP,akw (by omega)],by rw[N,ahP];omega,gU.refl _ _,?_⟩ ?_
 ·rw[N,ahP,akw (by omega)];have hx:=abe hi0;refine⟨[.int .i64 xs[i0]],by rw[ako];omega,?_⟩;have:xs.map (λx=>Value.int .i64 x)=(xs.take i0).map (λx=>Value.int .i64 x)++(Value.int .i64 xs[i0]::(xs.drop (i0+1)).map λx=>Value.int .i64 x):=by
   conv=>lhs;rw[<- ajS i0 xs,akB hi0,akk,aiG]
  rw[this] at hr;simpa using hr
 rintro⟨i',j',⟨⟩⟩ W ⟨j,hj,hj1,hi1,hij,hf,mid,U,O⟩ next I
 simp only at hj1 hi1;subst hj1 hi1;generalize R:(xs.take j).filter (λx=> !p x)=kp at *;have aa:(kp.map λx=>Value.int .i64 x).length=kp.length:=ahv ..;by_cases ah:(j:Int)<(xs.length:Int)
 ·rw[ab9 ah,Δ];intro J;have hx:=abe (show j<xs.length by omega);have ai:=akB (show j<xs.length by omega);generalize xs[j]=x at hx ai;have aj:xs.take (j+1)=xs.take j++[x]:=by rw[akc,hx];rfl
  rw[ai,aiG] at O;have Y:W.cell? ⟨b,j,none⟩=some (.int .i64 x):=by
   rw[O.cell,ajy (by omega),ajy (by omega),show j - (kp.map λx=>Value.int .i64 x).length - mid.length=0 by omega];rfl
  refine(zU _ xs.length sc _ (j:Int) _).2 ⟨by omega,by omega,?_⟩;rw[gJ,ahA,Η,ahy];simp -zeta only[sx,Y];refine hp x W _ (hC W (ag hf)) ⟨p x,rfl,?_⟩
  cases he:p x
  ·rw[aek,Δ];have u:(xs.take (j+1)).filter (λx=> !p x)=kp++[x]:=by rw[aj,ake,R];simp[he]
   refine⟨by omega,by omega,?_⟩;rw[Η,ahy];refine gX O rfl (by simp only[adH,aa];omega) λW2 r2 g2 z2=> ?_;obtain⟨m0,ms,am⟩:∃m0 ms,mid=m0::ms:=by
    cases mid with
    |nil=>simp at U;omega
    |cons a l=>exact⟨a,l,rfl⟩
   subst am;rw[akH _ _ (by omega),aa,Nat.sub_self] at r2;simp only[akv,agE] at r2;simp only[J];rw[Α,Α];simp only[aeW] at U;refine I _ _ ⟨j+1,by omega,by simp,by rw[u];simp,by rw[u];simp;omega,hf.trans (g2 (·=b) rfl) λ_ _ e=>e,ms++[Value.int .i64 x],by rw[u];simp;omega,?_⟩ (by simp only;omega);rw[u];simpa using r2
  ·rw[ab6,Β];have u:(xs.take (j+1)).filter (λx=> !p x)=kp:=by rw[aj,ake,R];simp[he]
   simp only[J];rw[Α];refine I _ _ ⟨j+1,by omega,by simp,by rw[u],by rw[u];omega,hf,mid++[Value.int .i64 x],by rw[u];simp;omega,?_⟩ (by simp only;omega);rw[u];simpa using O
 ·rw[abW ah,Β];have an:j=xs.length:=by omega
  subst an;rw[ajU] at R;rw[List.drop_length,List.map_nil,akC] at O;refine⟨by(try simp only);omega,by(try simp only);omega,by(try simp only);omega,?_⟩
  simp only[Η];have ao:sc≠kp.length:=by omega
  have ac:qM (some (⟨b,0,none⟩:Addr)) sc kp.length 1=some ⟨b,kp.length,none⟩:=by
   unfold qM;rw[Ε ao,aik,gJ,ahA,ahy]
  rw[ac];refine Y3 O (by simp only[adH,aa];omega) λW2 r2 g2=> ?_;have aq:(gW [Value.int .i64 0] (xs.length - kp.length)).length=xs.length - kp.length:=by rw[mQ];simp
  have ae:spl ((kp.map λx=>Value.int .i64 x)++(mid++pad)) kp.length (gW [Value.int .i64 0] (xs.length - kp.length))=(kp.map λx=>Value.int .i64 x)++(gW [Value.int .i64 0] (xs.length - kp.length)++pad):=by
   have:=Ju (A:=kp.map λx=>Value.int .i64 x) (B:=mid) (C:=pad) (vs:=gW [Value.int .i64 0] (xs.length - kp.length)) (by omega);rw[aa] at this;exact this
  rw[ae] at r2;refine⟨by(try simp only);omega,by(try simp only);omega,by(try simp only);omega,?_⟩
  have Z:qM (some (⟨b,0,none⟩:Addr)) sc 0 1=some ⟨b,0,none⟩:=by
   unfold qM;split<;>simp[Addr.add]
  simp only[Η,ak4,aky,Z];refine⟨⟨by rw[R],.inr ⟨b,gW [Value.int .i64 0] (xs.length - kp.length)++pad,rfl,?_,?_⟩⟩,ag (hf.trans g2 λ_ _ e=>e),λc hc=> ?_⟩
  ·rw[R,adH,aq];simp only;omega
  ·rw[ai5,R];exact r2
  ·obtain⟨o,e⟩:=hc;exact⟨o,e⟩
theorem ahI (m:Nat):V4.jX 8 m=V4.jX 4 (m / 4294967296)++V4.jX 4 (m % 4294967296):=by
 simp only[V4.jX,akv,akC,akF,akD];refine⟨?_,?_,?_,?_,?_,?_,?_,?_⟩<;>apply UInt8.toNat_inj.1<;>simp<;>omega
theorem aeF {x:Int} (h:Bind.In64 x):kT .i64 (jy .i64 x 32) 4294967295=(((x % 18446744073709551616).toNat / 4294967296:Nat):Int)/\kT .i64 x 4294967295=(((x % 18446744073709551616).toNat % 4294967296:Nat):Int):=by
 obtain⟨h1,h2⟩:=h;have low:∀y:Int,kT .i64 y 4294967295=(((y % 18446744073709551616).toNat % 4294967296:Nat):Int):=by
  intro y;unfold kT;have e1:(BitVec.ofInt (IntKind.bits .i64) y).toNat=(y % 18446744073709551616).toNat:=by rw[vT,aj1];rfl
  have e2:(BitVec.ofInt (IntKind.bits .i64) 4294967295).toNat=2^32 - 1:=by rw[vT,aj1];rfl
  rw[akU,e1,e2,I_];rw[Α]
 refine⟨?_,low x⟩;rw[low];unfold jy;have e:(2:Int)^(min (32:Int).toNat (IntKind.bits .i64))=4294967296:=by decide
 rw[e,ak2 _ (by omega)];omega
theorem YG (bd ra rp:Int) (hr:∀n∈[bd,ra,rp],Bind.In64 n) (w:θ):uK bd ra rp w λr w'=>r=Bind.keyS [bd,ra,rp]/\Ext w w':=by
 apply Ud;refine gu λa w1 r1 e1 z1 f1=> ?_;simp only[VL,gJ,ahA,d_,fZ,gq,r1.cell];refine gu λb w2 h e2 z2 f2=> ?_;have f12:=f1.trans f2;obtain⟨ns,J⟩:∃ns:List Int,ns=[bd,ra,rp]:=⟨_,rfl⟩;have hl:ns.length<=10:=by rw[J];simp
 have hl3:ns.length=3:=by rw[J];rfl
 have h:Row w2 b (ns.map λn=>Value.int .i64 n):=by rw[J];exact h
 rw[<- J] at hr ⊢;have e3:(3:Int)=(ns.length:Int):=by omega
 have e3n:(⟨some ⟨b,0,none⟩,3,3⟩:fU)=⟨some ⟨b,0,none⟩,ns.length,3⟩:=by rw[hl3]
 rw[e3n,e3];refine gK (λst W=>∃i:Nat,i<=ns.length/\st.2.1=(i:Int)/\h_ W st.1 (Bind.keyB (ns.take i))/\Ext w2 W) (λst _=>ns.length - st.2.1.toNat) ⟨0,by omega,rfl,h_.nil,Ext.refl _⟩ ?_;rintro⟨s,x,⟨⟩⟩ W ⟨i,hi,rfl,hs,hx⟩ next I
 have hs:h_ W s (Bind.keyB (ns.take i)):=hs;by_cases N:i<ns.length
 ·have u:((i:Int)<(ns.length:Int)):=by omega
  simp only[sx,u,aaA,Η,ahy,(h.ext hx).cell,aiF,abe N,aik];refine⟨by omega,by trivial,by omega,?_⟩;obtain⟨e1,e2⟩:=aeF (hr _ (ajm N));rw[e1,e2];generalize hm:(ns[i] % 18446744073709551616).toNat=m;have hm2:m<18446744073709551616:=by omega
  have kl:=Bind.Nr (ns.take i);have kl2:(ns.take i).length<=10:=by simp;omega
  refine cmS2 (yT hs (by omega) _ 4) ?_;rintro t1 w1 ⟨b1,f1,_⟩;have p1:j_ (Bind.keyB (ns.take i)) ((m / 4294967296:Nat):Int) 4=Bind.keyB (ns.take i)++V4.jX 4 (m / 4294967296):=by
   unfold j_;rw[Ζ ⟨⟨by omega,by omega⟩,by omega,by simp;omega⟩];rfl
  rw[p1] at b1;refine cmS2 (yT (h_.iG b1) (by simp[V4.iQ];omega) _ 4) ?_;rintro t2 w2 ⟨b2,f2,_⟩;have p2:j_ (Bind.keyB (ns.take i)++V4.jX 4 (m / 4294967296)) ((m % 4294967296:Nat):Int) 4=Bind.keyB (ns.take i)++V4.jX 4 (m / 4294967296)++V4.jX 4 (m % 4294967296):=by
   unfold j_;rw[Ζ ⟨⟨by omega,by omega⟩,by omega,by simp;omega⟩];rfl
  rw[p2] at b2;rw[Α];refine I _ _ ⟨i+1,by omega,by simp,?_,(hx.trans f1).trans f2⟩ (by simp only;omega);have ek:Bind.keyB (ns.take (i+1))=Bind.keyB (ns.take i)++V4.jX 4 (m / 4294967296)++V4.jX 4 (m % 4294967296):=by
   rw[ajM N];unfold Bind.keyB;rw[ajT,List.flatMap_singleton,hm,ahI,ajj]
  rw[ek];exact h_.iG b2
 ·have u:¬((i:Int)<(ns.length:Int)):=by omega
  simp only[u,aaV,Β];have:i=ns.length:=by omega
  subst this;rw[ajU] at hs;exact Pz hs ⟨rfl,f12.trans hx⟩
theorem qO (l:List Int) (h:l.length<=10):(Bind.keyS l).size<=2^63 - 1:=by
 have:(Bind.keyS l).size=(Bind.keyB l).length:=rfl;rw[this,Bind.Nr];omega
end Go.Proofs.SN
end
section
namespace Go.Proofs.SN
open Gp Gp.Hash
open Gp.Ses (Ses Slots live GoodS freeN getS ids)
open Gp.Bind (In64)
def iO:Option Ses->List Value
 |none=>alW
 |some b=>[.int .i64 b.bd,.int .i64 b.st,.int .i64 b.un,.int .i64 b.ra,.int .i64 b.rp,.bool true]
theorem kS (o:Option Ses):(iO o).length=6:=by cases o<;>rfl
theorem Pn (o:Option Ses):(iO o).all iL=true:=by cases o<;>rfl
theorem Bj (o:Option Ses):(iO o)[5]? =some (.bool o.isSome):=by cases o<;>rfl
def encI (k:Int):Value:= .int .i64 k
def slV (s:fU):Value:= .slice s.a s.len s.cap
abbrev OL:=List (Int×fU)
theorem eqI (a b:Int):E8 υ 16 3 (encI a) (encI b)=some (decide (a=b)):=by
 have h:E8 υ 16 3 (.int .i64 a) (.int .i64 b)=some (a==b):=by kernel_rfl
 rw[encI,encI,h];congr 1
theorem ah5 (a:Int):oz υ 3 (encI a)=true:=by
 have h:oz υ 3 (.int .i64 a)=true:=by kernel_rfl
 exact h
def ownB (l:OL) (b:Nat):Prop:=∃k s,lJ l k=some s/\fU.at s b
structure En (w:θ) (m:Nat) (l:OL) (S:Slots):Prop where
 mp:rG encI slV w m l
 nd:(l.map (·.1)).Nodup
 has:∀k s,lJ l k=some s->iY 1 eI w s (ids S k)
 non:∀k,lJ l k=none->ids S k=[]
 ap:∀k k' s s' b,k≠k'->lJ l k=some s->lJ l k'=some s'->fU.at s b->¬fU.at s' b
 ne:∀b,ownB l b->b≠m
section
variable {w w':θ} {m:Nat} {l:OL} {S S':Slots}
theorem En.fr {F:Nat->Prop} (h:En w m l S) (hf:gU w w' F) (hm:¬F m) (ho:∀b,ownB l b->¬F b):En w' m l S:=
 ⟨h.mp.fr hf hm,h.nd,λk s hk=>(h.has k s hk).fr hf λb hb=>ho b ⟨k,s,hk,hb⟩,h.non,h.ap,h.ne⟩
theorem En.lt (h:En w m l S) {b:Nat} (hb:ownB l b):b<w.heap.size:=by
 obtain⟨k,s,hk,hs⟩:=hb;exact(h.has k s hk).lt hs
def lkS (l:OL) (k:Int):fU:=(lJ l k).getD ⟨none,0,0⟩
theorem OI {k:Int} {b:Nat} (h:fU.at (lkS l k) b):∃s,lJ l k=some s/\lkS l k=s/\fU.at s b:=by
 unfold lkS at h ⊢
 cases hl:lJ l k with
 |none=>rw[hl] at h;obtain⟨o,ho⟩:=h;cases ho
 |some s=>rw[hl] at h;exact⟨s,rfl,rfl,h⟩
theorem En.buf (h:En w m l S) (k:Int):iY 1 eI w (lkS l k) (ids S k):=by
 unfold lkS
 cases hl:lJ l k with
 |none=>rw[h.non k hl];exact iY.nil
 |some s=>exact h.has k s hl
theorem En.get (h:En w m l S) (k:Int) {K:fU->Prop} (hK:K (lkS l k)):rP υ 3 .slice (some m) (.int .i64 k) (.slice none 0 0) w K:=by
 refine Gz (enc:=encI) h.mp eqI k (ah5 k) ?_ ?_
 ·intro hl;rw[lkS,hl] at hK;rw[gI];exact hK
 ·intro s hl;rw[lkS,hl] at hK;rw[slV,gI];exact hK
theorem En.set (h:En w m l S) {bd:Int} {s':fU} {F:Nat->Prop} (hf:gU w w' F) (hm:¬F m) (ho:∀b,ownB l b->F b->fU.at (lkS l bd) b) (hb:iY 1 eI w' s' (ids S' bd)) (hn:∀b,fU.at s' b->fU.at (lkS l bd) b\/w.heap.size<=b)
  (hS:∀k,k≠bd->ids S' k=ids S k) {K:b_} (hK:∀w2,En w2 m (Bo l bd s') S'->gU w' w2 (·=m)->w2.heap.size=w'.heap.size->K w2):oP υ 3 (some m) (.int .i64 bd) (.slice s'.a s'.len s'.cap) w' K:=by
 have mlt:=h.mp.lt;have old:∀b,fU.at (lkS l bd) b->ownB l b:=λb hb=>by
  obtain⟨s,h1,_,h2⟩:=OI hb;exact⟨bd,s,h1,h2⟩
 have nm:∀b,fU.at s' b->b≠m:=λb hb e=>by
  rcases hn b hb with h1|h1
  ·exact h.ne b (old b h1) e
  ·omega
 have ap:∀k s b,k≠bd->lJ l k=some s->fU.at s b->¬fU.at s' b:=λk s b hk hl hs hb=>by
  rcases hn b hb with h1|h1
  ·obtain⟨s2,g1,_,g2⟩:=OI h1;exact h.ap k bd s s2 b hk hl g1 hs g2
  ·have:=h.lt ⟨k,s,hl,hs⟩;omega
 refine Ag (enc:=encI) (ev:=slV) (h.mp.fr hf hm) eqI bd s' (ah5 bd) λw2 g2 f2 z2=> ?_;refine hK w2 ⟨g2,Oc h.nd bd s',λk s hk=> ?_,λk hk=> ?_,λk k' s s2 b u h1 h2 h3=> ?_,λb hb=> ?_⟩ f2 z2
 ·rw[Cc] at hk;split at hk
  ·rename_i e;subst e;cases hk;exact hb.fr f2 nm
  ·rename_i e;rw[hS k e];refine((h.has k s hk).fr hf λb hb hF=> ?_).fr f2 λb hb=>h.ne b ⟨k,s,hk,hb⟩;obtain⟨s2,g1,_,g2⟩:=OI (ho b ⟨k,s,hk,hb⟩ hF);exact h.ap k bd s s2 b e hk g1 hb g2
 ·rw[Cc] at hk;split at hk
  ·cases hk
  ·rename_i e;rw[hS k e];exact h.non k hk
 ·rw[Cc] at h1 h2;split at h1
  ·rename_i e1;split at h2
   ·rename_i e2;exact absurd (e1.trans e2.symm) u
   ·rename_i e2;cases h1;exact λh4=>ap k' s2 b e2 h2 h4 h3
  ·rename_i e1;split at h2
   ·cases h2;exact ap k s b e1 h1 h3
   ·exact h.ap k k' s s2 b u h1 h2 h3
 ·obtain⟨k,s,hk,hs⟩:=hb;rw[Cc] at hk;split at hk
  ·cases hk;exact nm b hs
  ·exact h.ne b ⟨k,s,hk,hs⟩
theorem QT {bd:Int} {s':fU} {b:Nat} (hb:ownB (Bo l bd s') b):fU.at s' b\/ownB l b:=by
 obtain⟨k,s,hk,hs⟩:=hb;rw[Cc] at hk;split at hk
 ·cases hk;exact .inl hs
 ·exact .inr ⟨k,s,hk,hs⟩
theorem En.del (h:En w m l S) {bd:Int} (hS:ids S bd=[]) {K:b_} (hK:∀w2,En w2 m (DW l bd) S->gU w w2 (·=m)->w2.heap.size=w.heap.size->K w2):Gy υ 3 (some m) (.int .i64 bd) w K:=by
 refine Rh (enc:=encI) (ev:=slV) h.mp eqI bd (ah5 bd) λw2 g2 f2 z2=> ?_;have lk:∀k,lJ (DW l bd) k=if k=bd then none else lJ l k:=λk=>XR h.nd bd k
 refine hK w2 ⟨g2,h.nd.sublist ((Xu l bd).map _),λk s hk=> ?_,λk hk=> ?_,λk k' s s2 b u h1 h2 h3=> ?_,λb hb=> ?_⟩ f2 z2
 ·rw[lk] at hk;split at hk
  ·cases hk
  ·exact(h.has k s hk).fr f2 λb hb=>h.ne b ⟨k,s,hk,hb⟩
 ·rw[lk] at hk;split at hk
  ·rename_i e;rw[e,hS]
  ·exact h.non k hk
 ·rw[lk] at h1 h2;split at h1
  ·cases h1
  ·split at h2
   ·cases h2
   ·exact h.ap k k' s s2 b u h1 h2 h3
 ·obtain⟨k,s,hk,hs⟩:=hb;rw[lk] at hk;split at hk
  ·cases hk
  ·exact h.ne b ⟨k,s,hk,hs⟩
theorem ae6 (h:(l.map (·.1)).Nodup) {bd:Int} {b:Nat} (hb:ownB (DW l bd) b):ownB l b:=by
 obtain⟨k,s,hk,hs⟩:=hb;rw[XR h] at hk;split at hk
 ·cases hk
 ·exact⟨k,s,hk,hs⟩
end
structure QZ where
 d:Nat
 sl:Nat
 ti:Nat
 si:Nat
 m:Nat
 l:OL
def fp (A:QZ) (b:Nat):Prop:=b=A.d\/b=A.sl\/b=A.ti\/b=A.si\/b=A.m\/ownB A.l b
structure QZ.ne (A:QZ):Prop where
 p:A.d≠A.sl/\A.d≠A.ti/\A.d≠A.si/\A.d≠A.m/\A.sl≠A.ti/\A.sl≠A.si/\A.sl≠A.m/\A.ti≠A.m/\A.si≠A.m
 o:∀b,ownB A.l b->b≠A.d/\b≠A.sl/\b≠A.ti/\b≠A.si
structure TA (w:θ) (A:QZ) (most:Nat) (S:Slots) (M:ByteArray->Option Int):Prop where
 hd:Row w A.d [.slice (some ⟨A.sl,0,none⟩) most most,.pointer (some ⟨A.ti,0,none⟩),.map (some A.m),.int .i64 ((live 0 S).length:Int)]
 row:Row w A.sl (S.flatMap iO)
 len:S.length=most
 mx:most<=4096
 tb:∃L,TB w A.ti A.si L most M/\cnt L=(live 0 S).length
 own:En w A.m A.l S
 good:GoodS S M
 ne:A.ne
section
variable {w w':θ} {A:QZ} {most:Nat} {S:Slots} {M:ByteArray->Option Int}
theorem TA.fr {F:Nat->Prop} (h:TA w A most S M) (hf:gU w w' F) (hs:∀b,fp A b->¬F b):TA w' A most S M:=by
 obtain⟨L,h1,h2⟩:=h.tb;exact⟨h.hd.fr hf (hs _ (.inl rfl)),h.row.fr hf (hs _ (.inr (.inl rfl))),h.len,h.mx,⟨L,h1.fr hf (hs _ (.inr (.inr (.inl rfl)))) (hs _ (.inr (.inr (.inr (.inl rfl))))),h2⟩,
  h.own.fr hf (hs _ (.inr (.inr (.inr (.inr (.inl rfl)))))) (λb hb=>hs _ (.inr (.inr (.inr (.inr (.inr hb)))))),h.good,h.ne⟩
theorem TA.ext (h:TA w A most S M) (hf:Ext w w'):TA w' A most S M:=h.fr (hf λ_=>False) (λ_ _=>by simp)
theorem ahp {b s:Nat} {L:List vF} {mo:Int} (t:TB w b s L mo M):s<w.heap.size:=by
 by_cases hL:L=[]
 ·rw[t.nils hL];exact t.ht.hd.lt
 ·exact(t.ht.row hL).lt
theorem TA.lt (h:TA w A most S M) {x:Nat} (hx:fp A x):x<w.heap.size:=by
 obtain⟨L,h1,h2⟩:=h.tb;rcases hx with rfl|rfl|rfl|rfl|rfl|hx
 ·exact h.hd.lt
 ·exact h.row.lt
 ·exact h1.ht.hd.lt
 ·exact ahp h1
 ·exact h.own.mp.lt
 ·exact h.own.lt hx
theorem TA.slot (h:TA w A most S M) {i:Nat} {o:Option Ses} (hi:S[i]? =some o) (j:Nat) (hj:j<6):w.cell? ⟨A.sl,i * 6+j,none⟩=(iO o)[j]? :=by
 rw[h.row.cell,flat_get iO 6 kS _ _ j hj,hi];rfl
theorem Aa (h:TA w A most S M):jG (some ⟨A.d,0,none⟩) w λr w'=>r=true/\w'=w:=by
 apply FD;simp only[sx,h.hd.cell,aek];exact⟨by trivial,by trivial⟩
theorem ϖ (h:TA w A most S M) (bd ra rp:Int) (hq:∀n∈[bd,ra,rp],In64 n):
  nZ (some ⟨A.d,0,none⟩) bd ra rp w λn t w'=>t=(M (Bind.keyS [bd,ra,rp])).isSome/\n=(M (Bind.keyS [bd,ra,rp])).getD 0/\Ext w w':=by
 apply Gl;refine gu λp w1 r1 _ _ f1=> ?_;refine cmS0 (Aa (h.ext f1)) ?_;rintro _ w2 ⟨rfl,hw⟩;subst hw;have h2:=(h.ext f1).ext (Ext.drew _);simp only[sx,ab6,h2.hd.cell,r1.drew.cell];refine cmS9 (YG bd ra rp hq _) ?_;rintro _ w3 ⟨rfl,f3⟩;have h3:=h2.ext f3;simp only[aeA,d_,h3.hd.cell];obtain⟨L,hL,_⟩:=h3.tb;refine cmS3 (XH hL _ (qO _ (by simp))) ?_;rintro n t w4 ⟨f4,rfl,rfl⟩;exact⟨rfl,rfl,((f1.trans (Ext.drew _)).trans f3).trans f4⟩
theorem agY (h:TA w A most S M):um (some ⟨A.d,0,none⟩) w λn w'=>n=((live 0 S).length:Int)/\w'=w:=by
 apply IC;refine cmS0 (Aa h) ?_;rintro _ w2 ⟨rfl,hw⟩;subst hw;simp only[sx,ab6,h.hd.cell];exact⟨by trivial,by trivial⟩
theorem vw:∀{S:Slots} {i:Nat},freeN S=some i↔S[i]? =some none/\∀j,j<i->∃b,S[j]? =some (some b)
 |[],i=>by simp[freeN]
 |none::r,i=>by
  simp only[freeN,afM];constructor
  ·rintro rfl;exact⟨rfl,by omega⟩
  ·rintro⟨_,h2⟩
   cases i with
   |zero=>rfl
   |succ i=>obtain⟨b,hb⟩:=h2 0 (by omega);simp at hb
 |some c::r,i=>by
  simp only[freeN,akW];constructor
  ·rintro⟨k,hk,rfl⟩;obtain⟨h1,h2⟩:=vw.1 hk;refine⟨by simpa using h1,λj hj=> ?_⟩
   cases j with
   |zero=>exact⟨c,rfl⟩
   |succ j=>simpa using h2 j (by omega)
  ·rintro⟨h1,h2⟩
   cases i with
   |zero=>simp at h1
   |succ i=>exact⟨i,vw.2 ⟨by simpa using h1,λj hj=>by simpa using h2 (j+1) (by omega)⟩,rfl⟩
theorem DY:∀{S:Slots},(∀j,j<S.length->∃b,S[j]? =some (some b))->freeN S=none
 |[],_=>rfl
 |none::r,h=>by obtain⟨b,hb⟩:=h 0 (by simp);simp at hb
 |some c::r,h=>by
  simp only[freeN,Option.map_eq_none_iff];exact DY λj hj=>by simpa using h (j+1) (by simp;omega)
theorem jZ {f:FuncId} {cap:Array Value} {sh:List Shape} {args:List Value} {w:θ} {K:Value->b_} (hb:oq υ f=true) (h:Gw υ sh f (args++cap.toList) w K):
  jB υ sh (.func (.func f) #[] cap) args w K:=by
 unfold jB;simp only[hb,Δ];exact h
theorem WU (o:Option Ses) (W:θ) {v0 v1 v2 v3 v4:Int} {v5:Bool} (hv:iO o=[.int .i64 v0,.int .i64 v1,.int .i64 v2,.int .i64 v3,.int .i64 v4,.bool v5]):wR v0 v1 v2 v3 v4 v5 W λr W'=>r= !o.isSome/\Ext W W':=by
 apply FC;refine gu λa w1 r1 e1 z1 f1=> ?_;simp only[sx,r1.cell];have:=Bj o;rw[hv] at this;simp only[d_,afM,Value.bool.injEq] at this;exact⟨by rw[this],f1⟩
theorem aeL (h:TA w A most S M):jf ⟨some ⟨A.sl,0,none⟩,most,most⟩ (Value.func (.func Gf) #[] #[]) w λr w'=>Ext w w'/\((freeN S=none/\r= -1)\/∃i,freeN S=some i/\r=(i:Int)):=by
 apply oI;have hm:=h.mx;have hl:=h.len;refine gK (λst W=>Ext w W/\∃i:Nat,i<=most/\st.1=(i:Int)/\∀j,j<i->∃b,S[j]? =some (some b)) (λst _=>most - st.1.toNat) ⟨Ext.refl _,0,by omega,rfl,by omega⟩ ?_;rintro⟨x,⟨⟩⟩ W ⟨hx,i,hi,rfl,hp⟩ next I
 have h1:=h.ext hx;by_cases hlt:i<most
 ·have u:((i:Int)<(most:Int)):=by omega
  have hS:S[i]? =some S[i]:=abe (by omega);generalize S[i]=o at hS;have c:∀j,j<6->_:=h1.slot hS;have c0:=c 0 (by omega);have c1:=c 1 (by omega);have c2:=c 2 (by omega);have c3:=c 3 (by omega);have c4:=c 4 (by omega);have c5:=c 5 (by omega);simp only[ajt] at c0;have step:∀W',Ext W W'->(∃b,o=some b)->next (ο.wrap ((i:Int)+1),()) W':=by
   rintro W' hx' ⟨b,rfl⟩;rw[Α];refine I _ _ ⟨hx.trans hx',i+1,by omega,by simp,λj hj=> ?_⟩ (by simp only;omega);by_cases J:j<i
   ·exact hp j J
   ·have:j=i:=by omega
    subst this;exact⟨b,hS⟩
  cases o with
  |none=>
   simp only[iO,d_] at c0 c1 c2 c3 c4 c5;simp only[sx,u,aaA,Η,c0,c1,c2,c3,c4,c5];refine⟨by omega,by trivial,jZ (by kernel_rfl) ?_⟩;refine Calls.mono (WU none W rfl) ?_;rintro e W' ⟨r,he,rfl,hf⟩;refine⟨_,he,_,rfl,?_⟩;simp only[aj_,aek,Δ];exact⟨hx.trans hf,.inr ⟨i,vw.2 ⟨hS,hp⟩,rfl⟩⟩
  |some b=>
   simp only[iO,d_] at c0 c1 c2 c3 c4 c5;simp only[sx,u,aaA,Η,c0,c1,c2,c3,c4,c5];refine⟨by omega,by trivial,jZ (by kernel_rfl) ?_⟩;refine Calls.mono (WU (some b) W rfl) ?_;rintro e W' ⟨r,he,rfl,hf⟩;refine⟨_,he,_,rfl,?_⟩;simp only[ajv,ab6,Β];exact step W' hf ⟨b,rfl⟩
 ·have u:¬((i:Int)<(most:Int)):=by omega
  simp only[u,aaV,Β];exact⟨hx,.inl ⟨DY (S:=S) λj hj=>hp j (by omega),by trivial⟩⟩
theorem Hz {S:Slots} {id:Int} (h:id<0\/(S.length:Int)<=id):getS S id=none:=by
 unfold Gp.Ses.getS;split
 ·rw[akz (by omega)];rfl
 ·rfl
theorem XG {S:Slots} {id:Int} (h0:0<=id) {o:Option Ses} (h:S[id.toNat]? =some o):getS S id=o:=by
 unfold Gp.Ses.getS;rw[Ζ h0,h];rfl
theorem YN (h:TA w A most S M) (id:Int):lZ (some ⟨A.d,0,none⟩) id w λr w'=>r=(getS S id).isSome/\w'=w:=by
 apply IG;have hl:=h.len;refine cmS0 (Aa h) ?_;rintro _ w2 ⟨rfl,hw⟩;subst hw;simp only[Δ];by_cases c1:id>=0
 ·simp only[sx,c1,aaA,h.hd.cell];by_cases c2:id<(most:Int)
  ·have hS:S[id.toNat]? =some S[id.toNat]:=abe (by omega);generalize S[id.toNat]=o at hS;simp only[c2,aaA,Δ,fZ,jK,h.slot hS 5 (by omega),Bj];refine⟨by first|trivial|omega,by first|trivial|omega,?_,by trivial⟩
   rw[XG c1 hS]
  ·simp only[c2,aaV,Β];exact⟨by rw[Hz (.inr (by omega))];rfl,by trivial⟩
 ·simp only[c1,aaV,Β];exact⟨by rw[Hz (.inl (by omega))];rfl,by trivial⟩
def ajx (b:Ses) (a1 a2 a3 a4 a5:Int):Prop:=a1=b.bd/\a2=b.st/\a3=b.un/\a4=b.ra/\a5=b.rp
def Ϯ:Ses:=⟨0,0,0,0,0⟩
theorem YM (h:TA w A most S M) (id:Int):lY (some ⟨A.d,0,none⟩) id w λa1 a2 a3 a4 a5 r w'=>r=(getS S id).isSome/\ajx ((getS S id).getD Ϯ) a1 a2 a3 a4 a5/\Ext w w':=by
 apply IB;have hl:=h.len;refine gu λp w1 r1 e1 z1 f1=> ?_;have h1:=h.ext f1;refine cmS0 (YN h1 id) ?_;rintro _ w2 ⟨rfl,hw⟩;subst hw
 cases hg:getS S id with
 |none=>
  simp only[aj_,aek,Δ];refine gZ r1 rfl rfl λw3 r3 f3 _=> ?_;simp only[sx,aeA,r3.cell];exact⟨⟨rfl,rfl,rfl,rfl,rfl⟩,f1.new (f3 (·=p) rfl) λy hy e=>by omega⟩
 |some b=>
  obtain⟨g0,g1⟩:=Gp.Ses.nV.1 hg;have gl:=(ady.1 g1).1;have c:∀j,j<6->_:=h1.slot g1;have c0:=c 0 (by omega);have c1:=c 1 (by omega);have c2:=c 2 (by omega);have c3:=c 3 (by omega);have c4:=c 4 (by omega);simp only[ajt] at c0;simp only[sx,ajv,ab6,h1.hd.cell,c0,c1,c2,c3,c4,iO];refine⟨by omega,by omega,gZ r1 rfl rfl λw3 r3 f3 _=> ?_⟩;simp only[aeA,d_,fZ,gq,r3.cell];exact⟨⟨rfl,rfl,rfl,rfl,rfl⟩,f1.new (f3 (·=p) rfl) λy hy e=>by omega⟩
theorem OB {S:Slots} {i:Nat} (hi:i<S.length) (o:Option Ses):(S.flatMap iO).take (i * 6)++iO o++(S.flatMap iO).drop (i * 6+6)=(S.set i o).flatMap iO:=by
 have e1:(S.flatMap iO).take (i * 6)=(S.take i).flatMap iO:=by
  have h:S=S.take i++S.drop i:=(ajS i S).symm;have hl:((S.take i).flatMap iO).length=i * 6:=by rw[iT iO 6 kS];simp;omega
  conv=>lhs;rw[h,ajT]
  rw[<- hl];simp
 have e2:(S.flatMap iO).drop (i * 6+6)=(S.drop (i+1)).flatMap iO:=by
  have h:S=S.take (i+1)++S.drop (i+1):=(ajS (i+1) S).symm;have hl:((S.take (i+1)).flatMap iO).length=i * 6+6:=by rw[iT iO 6 kS];simp;omega
  conv=>lhs;rw[h,ajT]
  rw[<- hl];simp
 rw[e1,e2,alI,Ζ hi,ajT,ajB,ajj]
theorem MG (h:Row w A.sl (S.flatMap iO)) {i:Nat} (hi:i<S.length) (o:Option Ses) {K:b_} (hK:∀w',Row w' A.sl ((S.set i o).flatMap iO)->gU w w' (·=A.sl)->w'.heap.size=w.heap.size->K w'):ig (iO o) w ⟨A.sl,i * 6,none⟩ 0 K:=by
 refine QC (iO o) w _ (i * 6) 0 h (λv hv=>akh.1 (Pn o) v hv) ?_ λw1 r1 f1 z1=> ?_
 ·rw[kS,iT iO 6 kS];omega
 ·rw[ajt,kS,OB hi] at r1;exact hK w1 r1 (f1 _ rfl) z1
end
end Go.Proofs.SN
end
section
namespace Go.Proofs.SN
open Gp Gp.Hash
open Gp.Ses (Ses Slots live GoodS freeN getS ids)
open Gp.Bind (In64)
section
variable {w w':θ} {A:QZ} {most:Nat} {S:Slots} {M:ByteArray->Option Int}
def vS (S:Slots) (M:ByteArray->Option Int) (b:Ses):Int×Int:=
 if (M (Bind.keyS b.k)).isSome then (0,9) else match freeN S with
  |none=>(0,7)
  |some i=>((i:Int),0)
theorem ag1 (h:TA w A most S M) (id st un:Int):
  uo (some ⟨A.d,0,none⟩) id st un w λr w'=>r=(getS S id).isSome/\gU w w' (fp A)/\∃S',TA w' A most S' M/\S'=(match getS S id with|none=>S|some b=>S.set id.toNat (some {b with st:=st,un:=un})):=by
 apply IE;have hl:=h.len;refine cmS0 (YN h id) ?_;rintro _ w1 ⟨rfl,hw⟩;subst hw
 cases hg:getS S id with
 |none=>
  simp only[aj_,aek,Δ];exact⟨by trivial,gU.refl _ _,S,h,rfl⟩
 |some b=>
  obtain⟨g0,g1⟩:=Gp.Ses.nV.1 hg;have gl:=(ady.1 g1).1;simp only[sx,ajv,ab6,h.hd.cell];refine⟨by omega,by omega,?_⟩;have I:=h.row;have e0:S.flatMap iO=(S.flatMap iO).take (id.toNat * 6)++iO (some b)++(S.flatMap iO).drop (id.toNat * 6+6):=by
   have J:S.set id.toNat (some b)=S:=by
    apply alp;intro j;rw[Gp.Ses.g_ gl];split
    ·rename_i e;subst e;exact g1.symm
    ·rfl
   rw[OB gl,J]
  have hl6:((S.flatMap iO).take (id.toNat * 6)).length=id.toNat * 6:=by rw[ahP,iT iO 6 kS];omega
  rw[e0] at I;refine gX I rfl (by simp[kS,hl6];omega) λw2 r2 f2 z2=> ?_;refine gX r2 rfl (by simp[kS,hl6];omega) λw3 r3 f3 z3=> ?_;have f23:gU w1 w3 (·=A.sl):=(f2 (·=A.sl) rfl).trans (f3 (·=A.sl) rfl) λ_ _ e=>e;refine⟨by trivial,f23.mono λx hx=> .inr (.inl hx),_,?_,rfl⟩;obtain⟨⟨n1,n2,n3,n4,n5,n6,n7,n8,n9⟩,no⟩:=h.ne;obtain⟨L,t,c⟩:=h.tb;have u:(live 0 (S.set id.toNat (some {b with st:=st,un:=un}))).length=(live 0 S).length:=by rw[Gp.Ses.SL _ 0 g1];simp
  refine⟨by rw[u];exact h.hd.fr f23 n1,?_,by rw[ajl];exact hl,h.mx,⟨L,t.fr f23 (afx n5) (afx n6),by rw[u];exact c⟩,?_,h.good.put g1 rfl,h.ne⟩
  ·rw[<- OB gl];have e3:∀(X Y:List Value),((X++iO (some b)++Y).set (X.length+1) (.int .i64 st)).set (X.length+2) (.int .i64 un)=X++iO (some {b with st:=st,un:=un})++Y:=by
    intro X Y;rw[ajj,akH _ _ (by omega),akH _ _ (by omega),ajj];congr 1;rw[Nat.add_sub_cancel_left,Nat.add_sub_cancel_left];rfl
   have:=e3 ((S.flatMap iO).take (id.toNat * 6)) ((S.flatMap iO).drop (id.toNat * 6+6));rw[hl6] at this;rw[<- this];exact r3
  ·have o:=h.own.fr f23 (λe=>n7 e.symm) λx hx e=>(no x hx).2.1 e;exact⟨o.mp,o.nd,λk s hk=>by rw[Gp.Ses.abB (b':={b with st:=st,un:=un}) g1 rfl];exact o.has k s hk,λk hk=>by rw[Gp.Ses.abB (b':={b with st:=st,un:=un}) g1 rfl];exact o.non k hk,o.ap,o.ne⟩
theorem agX (h:TA w A most S M) (b:Ses) (hb:b.ok):
  uj (some ⟨A.d,0,none⟩) b.bd b.st b.un b.ra b.rp w λn e w'=>(n,e)=vS S M b/\gU w w' (fp A)/\
   ∃A' S' M',TA w' A' most S' M'/\A'.d=A.d/\(∀x,fp A' x->fp A x\/w.heap.size<=x)/\S'=(if (vS S M b).2=0 then S.set (vS S M b).1.toNat (some b) else S):=by
 apply Iz;refine gu λp w1 r1 e1 z1 f1=> ?_;have h1:=h.ext f1;refine cmS0 (Aa h1) ?_;rintro _ w2 ⟨rfl,hw⟩;subst hw;simp only[sx,ab6,r1.cell];refine cmS3 (ϖ h1 _ _ _ hb) ?_;rintro n2 t2 w3 ⟨ht2,_,f3⟩;have ht2:t2=(M (Bind.keyS b.k)).isSome:=ht2;have x3:Ext w w3:=f1.trans f3;have h3:=h.ext x3;have r3:=r1.ext f3
 cases U:t2 with
 |true=>
  rw[U] at ht2;simp only[Δ];have e:vS S M b=(0,9):=by unfold vS;rw[<- ht2];rfl
  rw[e];exact⟨rfl,x3 _,A,S,M,h3,rfl,λx hx=> .inl hx,by rw[Ε (by simp)]⟩
 |false=>
 rw[U] at ht2;simp only[Β,abY,fZ,gI,h3.hd.cell];refine cmS1 (aeL h3) ?_;rintro r5 w5 ⟨f5,(⟨J,rfl⟩|⟨i,J,rfl⟩)⟩
 ·simp only[show decide ((-1:Int)<0)=true from rfl,Δ];have e:vS S M b=(0,7):=by unfold vS;rw[<- ht2,J];rfl
  rw[e];exact⟨rfl,(x3.trans f5) _,A,S,M,h3.ext f5,rfl,λx hx=> .inl hx,by rw[Ε (by simp)]⟩
 ·have e:vS S M b=((i:Int),0):=by unfold vS;rw[<- ht2,J];rfl
  rw[e];obtain⟨g1,g2,g3,g4,g5,g6,g7⟩:=Gp.Ses.jm 0 J;have hm:=h.mx;have hl:=h.len;have x5:Ext w w5.drew:=(x3.trans f5).trans (Ext.drew _);have h5:=h.ext x5;have r5:=(r3.ext f5).drew;have i0:¬((i:Int)<0):=by omega
  simp only[sx,i0,aaV,h5.hd.cell,r5.cell,Η];refine⟨by omega,by omega,?_⟩;refine MG h5.row g1 (some b) λw6 row6 f6 z6=> ?_;obtain⟨⟨n1,n2,n3,n4,n5,n6,n7,n8,n9⟩,no⟩:=h.ne;have hp:∀x,fp A x->x≠p:=λx hx=>by have:=h.lt hx;omega
  have hd6:=(h5.hd.fr f6 n1).drew;have r6:=(r5.fr f6 (hp _ (.inr (.inl rfl))).symm).drew;simp only[d_,fZ,gq,oM,hd6.cell,r6.cell];refine cmS9 (YG _ _ _ hb _) ?_;rintro _ w7 ⟨rfl,f7⟩;have hd7:=hd6.ext f7;have r7:=r6.ext f7;simp only[aeA,d_,hd7.cell];obtain⟨L,tb,cL⟩:=h5.tb;have f57:gU w5.drew w7 (·=A.sl):=(f6.ext (Ext.drew _)).ext f7;have tb7:=tb.fr f57 (afx n5) (afx n6);have hM:M (Bind.keyS b.k)=none:=by cases hx:M (Bind.keyS b.k) with
   |none=>rfl
   |some v=>rw[hx] at ht2;cases ht2
  refine cmS1 (XJ tb7 (Bind.keyS b.k) (i:Int) (qO _ (by simp[Ses.k]))) ?_;rintro e8 w8 (⟨rfl,hlt8,s8,L8,t8,c8,f8,hs8⟩|⟨_,_,N,_⟩);rotate_left
  ·exfalso;rw[cL] at N;omega
  have hd8:=(hd7.fr f8 (by rintro(h|h);exact n2 h;exact n3 h)).drew;have r8:Row w8.drew p _:=(r7.fr f8 (by rintro(h|h);exact hp _ (.inr (.inr (.inl rfl))) h.symm;exact hp _ (.inr (.inr (.inr (.inl rfl)))) h.symm)).drew;simp only[d_,fZ,gq,B_,hd8.cell,r8.cell];have f58:gU w5.drew w8.drew (λx=>x=A.sl\/x=A.ti\/x=A.si):=((f57.mono λx hx=> .inl hx).trans f8 λx _ hx=>by
   rcases hx with hx|hx
   ·exact .inr (.inl hx)
   ·exact .inr (.inr hx)).ext (Ext.drew _)
  have own8:En w8.drew A.m A.l S:=h5.own.fr f58 (by rintro(h|h|h);exact n7 h.symm;exact n8 h.symm;exact n9 h.symm) λx hx=>by
   have:=no x hx;rintro(h|h|h)
   ·exact this.2.1 h
   ·exact this.2.2.1 h
   ·exact this.2.2.2 h
  refine own8.get b.bd ?_;have O:=own8.buf b.bd;have hil:=Gp.Ses.QM S b.bd;have srt:=Gp.Ses.qy S b.bd;refine cmS3 (ahJ (O.sl jc (by omega)) (by omega) srt (i:Int)) ?_;rintro _ _ w9 ⟨⟨q,rfl,hq,q1,q2⟩,hw⟩;subst hw;have own9:=own8.fr (Ext.drew _ λ_=>False) (by simp) (by simp);have hd9:=hd8.drew;have r9:=r8.drew;simp only[d_,fZ,gq,B_,hd9.cell,r9.cell];refine gu λv aa ab e10 z10 f10=> ?_;have own10:=own9.fr (f10 λ_=>False) (by simp) (by simp);have hd10:=hd9.ext f10;have r10p:=r9.ext f10;simp only[aeA,d_,hd10.cell,r10p.cell];have vlt:∀x,fU.at (lkS A.l b.bd) x->x≠v:=λx hx e=>by
   obtain⟨s,g1,_,g2⟩:=OI hx;have:=own9.lt ⟨_,s,g1,g2⟩;omega
  have lold:∀x,fU.at (lkS A.l b.bd) x->ownB A.l x:=λx hx=>by
   obtain⟨s,g1,_,g2⟩:=OI hx;exact⟨_,s,g1,g2⟩
  refine cmS2 (acJ (own10.buf b.bd) (y:=(i:Int)) ab vlt hq (by omega)) ?_;rintro R w11 ⟨Y,f11,n11⟩;have hd11:=hd10.fr f11 λhx=>(no _ (lold _ hx)).1 rfl;have ac:=r10p.fr f11 λhx=>hp _ (.inr (.inr (.inr (.inr (.inr (lold _ hx)))))) rfl;simp only[aeA,d_,hd11.cell,ac.cell];rw[<- Gp.Ses.af9 g2 (λj v hj hv=>q1 j v hj hv) (λj v hj hv=>q2 j v hj hv) hq] at Y;refine own10.set (S':=S.set i (some b)) f11 (λhx=>own10.ne _ (lold _ hx) rfl) (λx _ hx=>hx) Y n11 (λk hk=>Gp.Ses.U2 g2 hk) λZ own12 f12 z12=> ?_;have hd12:=hd11.fr f12 n4;simp only[d_,fZ,gq,hd12.cell];have hll:=Gp.Ses.jV S 0;rw[Α];refine gX hd12 rfl (by simp) λI hd13 f13 z13=> ?_;simp only[agE,aho] at hd13;have f13d:=f13 (·=A.d) rfl;have u:(live 0 (S.set i (some b))).length=(live 0 S).length+1:=by
   rw[g7 b];simp only[adH,aeW,ahP,aj0];omega
  have f8x:gU w8 Z (λx=>x=A.m\/ownB A.l x):=((((Ext.drew w8).trans (Ext.drew _)).trans f10) _).trans ((f11.mono λx hx=> .inr (lold x hx)).trans f12 λx _ hx=> .inl hx) λ_ _ hx=>hx;have hs8':s8≠A.d/\s8≠A.sl/\s8≠A.m/\¬ownB A.l s8:=by
   rcases hs8 with h8|h8
   ·rw[h8];exact⟨afx n3,afx n6,n9,λho=>(no _ ho).2.2.2 rfl⟩
   ·have big:∀x,fp A x->s8≠x:=λx hx e=>by
     have l1:=h.lt hx;have l2:w.heap.size<=w7.heap.size:=ahO x5.size f57.size;rw[e] at h8;exact akg _ (ajn l1 (ahO l2 h8))
    exact⟨big _ (.inl rfl),big _ (.inr (.inl rfl)),big _ (.inr (.inr (.inr (.inr (.inl rfl))))),λho=>big _ (.inr (.inr (.inr (.inr (.inr ho))))) rfl⟩
  have tb13:TB I A.ti s8 L8 most (Go.Proofs.upd M (Bind.keyS b.k) (some (i:Int))):=(t8.fr f8x (by rintro(h|h);exact n8 h;exact(no _ h).2.2.1 rfl) (by rintro(h|h);exact hs8'.2.2.1 h;exact hs8'.2.2.2 h)).fr f13d (afx n2) hs8'.1;have row13:Row I A.sl ((S.set i (some b)).flatMap iO):=(((((row6.ext (Ext.drew _)).ext f7).fr f8 (by rintro(h|h);exact n5 h;exact n6 h))).fr f8x (by rintro(h|h);exact n7 h;exact(no _ h).2.1 rfl)).fr f13d (afx n1);have eu:∀M k v,Go.Proofs.upd M k v=Gp.Bind.upd M k v:=λ_ _ _=>rfl;rw[eu] at tb13;have f512:gU w Z (fp A):=((x5 (fp A)).trans (f58.mono (S':=fp A) λx hx=>by
    rcases hx with hx|hx|hx
    ·exact .inr (.inl hx)
    ·exact .inr (.inr (.inl hx))
    ·exact .inr (.inr (.inr (.inl hx)))) λ_ _ hx=>hx).trans (((((Ext.drew w8.drew).trans f10) _).trans ((f11.mono (S':=λx=>x=A.m\/ownB A.l x) λx hx=> .inr (lold x hx)).trans f12 λx _ hx=> .inl hx) λ_ _ hx=>hx)) λx _ hx=>by
    rcases hx with hx|hx
    ·exact .inr (.inr (.inr (.inr (.inl hx))))
    ·exact .inr (.inr (.inr (.inr (.inr hx))))
  have ftot:gU w I (fp A):=f512.trans f13d λx _ hx=> .inl hx;have s11new:∀x,fU.at R x->ownB A.l x\/(w.heap.size<=x/\w8.heap.size<=x):=λx hx=>by
   rcases n11 x hx with h|h
   ·exact .inl (lold x h)
   ·right;have a1:w5.drew.heap.size<=w8.heap.size:=f58.size;have a2:w8.heap.size<=aa.heap.size:=(((Ext.drew w8).trans (Ext.drew _)).trans f10).size;exact⟨ahO x5.size (ahO a1 (ahO a2 h)),ahO a2 h⟩
  have own13:En I A.m (Bo A.l b.bd R) (S.set i (some b)):=own12.fr f13d n4.symm λx hx e=>by
   rcases QT hx with h1|h1
   ·rcases s11new x h1 with h2|h2
    ·exact(no x h2).1 e
    ·have:=h.lt (.inl rfl:fp A A.d);omega
   ·exact(no x h1).1 e
  have ta:TA I ⟨A.d,A.sl,A.ti,s8,A.m,Bo A.l b.bd R⟩ most (S.set i (some b)) (Gp.Bind.upd M (Bind.keyS b.k) (some (i:Int))):=by
   refine⟨?_,row13,by rw[ajl];exact hl,hm,⟨L8,tb13,?_⟩,own13,h.good.add g2 hb hM,⟨⟨n1,n2,afx hs8'.1,n4,n5,afx hs8'.2.1,n7,n8,hs8'.2.2.1⟩,λx hx=> ?_⟩⟩
   ·rw[u];simpa using hd13
   ·rw[c8,u,hM,cL];rfl
   ·rcases QT hx with h1|h1
    ·rcases s11new x h1 with h2|⟨h2,h4⟩
     ·have:=no x h2;exact⟨this.1,this.2.1,this.2.2.1,λe=>hs8'.2.2.2 ((show x=s8 from e) ▸ h2)⟩
     ·have k1:=h.lt (.inl rfl:fp A A.d);have k2:=h.lt (.inr (.inl rfl):fp A A.sl);have k3:=h.lt (.inr (.inr (.inl rfl)):fp A A.ti);have k4:=ahp t8;exact⟨λe=>by rw[e] at h2;exact akg _ (ajn k1 h2),λe=>by rw[e] at h2;exact akg _ (ajn k2 h2),λe=>by rw[e] at h2;exact akg _ (ajn k3 h2),λe=>by rw[e] at h4;exact akg _ (ajn k4 h4)⟩
    ·have:=no x h1;exact⟨this.1,this.2.1,this.2.2.1,λe=>hs8'.2.2.2 ((show x=s8 from e) ▸ h1)⟩
  refine⟨ftot,_,_,_,ta,rfl,?_,by simp⟩;intro x hx;rcases hx with hx|hx|hx|hx|hx|hx
  ·exact .inl (.inl hx)
  ·exact .inl (.inr (.inl hx))
  ·exact .inl (.inr (.inr (.inl hx)))
  ·have hx:x=s8:=hx;rcases hs8 with h8|h8
   ·exact .inl (.inr (.inr (.inr (.inl (hx.trans h8)))))
   ·right;rw[hx];exact ahO x5.size (ahO f57.size h8)
  ·exact .inl (.inr (.inr (.inr (.inr (.inl hx)))))
  ·rcases QT hx with h1|h1
   ·rcases s11new x h1 with h2|h2
    ·exact .inl (.inr (.inr (.inr (.inr (.inr h2)))))
    ·exact .inr h2.1
   ·exact .inl (.inr (.inr (.inr (.inr (.inr h1)))))
end
end Go.Proofs.SN
end
