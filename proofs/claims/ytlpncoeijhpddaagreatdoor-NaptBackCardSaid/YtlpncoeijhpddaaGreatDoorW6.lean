import Derived.Test.YtlpncoeijhpddaaGreatDoorW5
import Derived.Test.YtlpncoeijhpddaaGreatDoorW3
import Derived.Test.YtlpncoeijhpddaaGreatDoorW2
set_option maxRecDepth 100000
section
namespace Gp.Bind
open Gp.V4
def keyB (l:List Int):List UInt8:=l.flatMap λn=>kC 8 (n % 18446744073709551616).toNat
def keyS (l:List Int):ByteArray:=⟨⟨keyB l⟩⟩
def In64 (n:Int):Prop:= -9223372036854775808<=n/\n<=9223372036854775807
theorem OH (l:List Int):(keyB l).length=l.length * 8:=by
 induction l with
 |nil=>rfl
 |cons n l ih=>
  have:keyB (n::l)=kC 8 (n % 18446744073709551616).toNat++keyB l:=rfl;rw[this,ahP,jf,ih,ajg];omega
theorem aah:∀{l m:List Int},l.length=m.length->(∀n∈l,In64 n)->(∀n∈m,In64 n)->keyB l=keyB m->l=m
 |[],[],_,_,_,_=>rfl
 |[],_::_,h,_,_,_=>by simp at h
 |_::_,[],h,_,_,_=>by simp at h
 |a::l,b::m,h,hl,hm,he=>by
  have he:kC 8 (a % 18446744073709551616).toNat++keyB l=kC 8 (b % 18446744073709551616).toNat++keyB m:=he;obtain⟨h1,h2⟩:=List.append_inj he (by simp[jf]);have h3:=congrArg oK h1;rw[Yo,Yo] at h3;have e:(256:Nat)^8=18446744073709551616:=by decide
  rw[e] at h3;have ha:=hl a (amk ..);have hb:=hm b (amk ..);obtain⟨ha1,ha2⟩:=ha;obtain⟨hb1,hb2⟩:=hb;have u:a=b:=by omega
  rw[u,aah (by simpa using h) (λn hn=>hl n (alU _ hn)) (λn hn=>hm n (alU _ hn)) h2]
theorem keyS_inj {l m:List Int} (h:l.length=m.length) (hl:∀n∈l,In64 n) (hm:∀n∈m,In64 n) (he:keyS l=keyS m):l=m:=by
 refine aah h hl hm ?_;unfold keyS at he;injection he with he;injection he
structure Bnd where
 sw:Int
 pr:Int
 ad:Int
 po:Int
 opr:Int
 oad:Int
 opo:Int
 st:Bool
deriving DecidableEq
def Bnd.i (b:Bnd):List Int:=[b.sw,b.pr,b.ad,b.po]
def Bnd.o (b:Bnd):List Int:=[b.opr,b.oad,b.opo]
def Bnd.ok (b:Bnd):Prop:=(∀n∈b.i,In64 n)/\∀n∈b.o,In64 n
abbrev Slots:=List (Option Bnd)
def live:Nat->Slots->List (Int×Bnd)
 |_,[]=>[]
 |i,none::r=>live (i+1) r
 |i,some b::r=>((i:Int),b)::live (i+1) r
theorem kY:∀{S:Slots} {k:Nat} {v:Int} {b:Bnd},(v,b)∈live k S↔∃i:Nat,S[i]? =some (some b)/\v=((k+i:Nat):Int)
 |[],k,v,b=>by simp[live]
 |none::r,k,v,b=>by
  rw[live,kY];constructor
  ·rintro⟨i,h1,h2⟩;exact⟨i+1,by simpa using h1,by omega⟩
  ·rintro⟨i,h1,h2⟩
   cases i with
   |zero=>simp at h1
   |succ i=>exact⟨i,by simpa using h1,by omega⟩
 |some c::r,k,v,b=>by
  rw[live,agI,kY];constructor
  ·rintro(h|⟨i,h1,h2⟩)
   ·simp only[alX] at h;exact⟨0,by simp[h.2],by omega⟩
   ·exact⟨i+1,by simpa using h1,by omega⟩
  ·rintro⟨i,h1,h2⟩
   cases i with
   |zero=>
    simp only[afe,aho] at h1;left;rw[h1,h2];rfl
   |succ i=>right;exact⟨i,by simpa using h1,by omega⟩
theorem jL:∀(S:Slots) (k:Nat),(live k S).length<=S.length
 |[],_=>by simp[live]
 |none::r,k=>by have:=jL r (k+1);simp[live];omega
 |some b::r,k=>by have:=jL r (k+1);simp[live];omega
def freeN:Slots->Option Nat
 |[]=>none
 |none::_=>some 0
 |some _::r=>(freeN r).map (·+1)
theorem jE:∀{S:Slots} {i:Nat} (k:Nat),freeN S=some i->i<S.length/\S[i]? =some none/\(live k S).length<S.length/\i<=(live k S).length/\(∀j,j<i->∃b,(live k S)[j]? =some (((k+j:Nat):Int),b)/\S[j]? =some (some b))/\
  (∀v b,(live k S)[i]? =some (v,b)->v≠((k+i:Nat):Int))/\∀b,live k (S.set i (some b))=(live k S).take i++(((k+i:Nat):Int),b)::(live k S).drop i
 |[],i,_,h=>by simp[freeN] at h
 |none::r,i,k,h=>by
  simp[freeN] at h;subst h;have hl:=jL r (k+1);refine⟨by simp,rfl,by simp[live];omega,by omega,by omega,λv b hv=> ?_,λb=>by simp[live]⟩;have:=als hv;rw[live,kY] at this;obtain⟨j,_,hj⟩:=this;omega
 |some c::r,i,k,h=>by
  simp only[freeN,ams] at h;obtain⟨i',h',rfl⟩:=h;obtain⟨h1,h2,h3,h4,h5,h6,h7⟩:=jE (k+1) h';refine⟨by simp;omega,by simpa using h2,by simp[live];omega,by simp[live];omega,λj hj=> ?_,λv b hv=> ?_,λb=> ?_⟩
  ·cases j with
   |zero=>exact⟨c,by simp[live],by simp⟩
   |succ j=>
    obtain⟨b,g1,g2⟩:=h5 j (by omega);refine⟨b,?_,by simpa using g2⟩;rw[live,afh,g1,show k+1+j=k+(j+1) by omega]
  ·rw[live,afh] at hv;have:=h6 v b hv
   rwa [show k+1+i'=k+(i'+1) by omega] at this
  ·rw[ahm,live,h7 b,live,anb,List.drop_succ_cons,show k+1+i'=k+(i'+1) by omega];rfl
theorem kT:∀{S:Slots} {i:Nat} {b:Bnd} (k:Nat),S[i]? =some (some b)->(live k (S.set i none)).length+1=(live k S).length
 |[],_,_,_,h=>by simp at h
 |c::r,0,b,k,h=>by
  simp at h;subst h;simp[live]
 |none::r,i+1,b,k,h=>by
  rw[ahm,live,live];exact kT (k+1) (by simpa using h)
 |some c::r,i+1,b,k,h=>by
  rw[ahm,live,live,ajg,ajg,kT (k+1) (by simpa using h)]
structure GoodB (S:Slots) (Mi Mo:ByteArray->Option Int):Prop where
 i:∀k v,Mi k=some v↔∃(j:Nat) (b:Bnd),S[j]? =some (some b)/\keyS b.i=k/\v=(j:Int)
 o:∀k v,Mo k=some v↔∃(j:Nat) (b:Bnd),S[j]? =some (some b)/\keyS b.o=k/\v=(j:Int)
 ok:∀(j:Nat) (b:Bnd),S[j]? =some (some b)->b.ok
def upd (M:ByteArray->Option Int) (k:ByteArray) (v:Option Int):ByteArray->Option Int:=λx=>if x=k then v else M x
theorem jl {S:Slots} {i j:Nat} {v:Option Bnd} (hi:i<S.length):(S.set i v)[j]? =if i=j then some v else S[j]? :=by
 rw[akQ];split
 ·rename_i h;subst h;simp
 ·rfl
theorem GoodB.add {S:Slots} {Mi Mo:ByteArray->Option Int} (h:GoodB S Mi Mo) {i:Nat} {b:Bnd} (hi:S[i]? =some none) (hb:b.ok) (h1:Mi (keyS b.i)=none) (h2:Mo (keyS b.o)=none):
  GoodB (S.set i (some b)) (upd Mi (keyS b.i) (some i)) (upd Mo (keyS b.o) (some i)):=by
 have hl:i<S.length:=(afg.1 hi).1;refine⟨λk v=> ?_,λk v=> ?_,λj c hc=> ?_⟩
 ·unfold upd;by_cases hk:k=keyS b.i
  ·rw[adZ hk];constructor
   ·intro e;exact⟨i,b,by rw[jl hl,adZ rfl],hk.symm,by simpa using e.symm⟩
   ·rintro⟨j,c,hc,hk2,rfl⟩;rw[jl hl] at hc;split at hc
    ·rename_i e;subst e;rfl
    ·have:=(h.i k j).2 ⟨j,c,hc,hk2,rfl⟩;rw[hk,h1] at this;cases this
  ·rw[acZ hk,h.i];constructor
   ·rintro⟨j,c,hc,hk2,rfl⟩;refine⟨j,c,?_,hk2,rfl⟩;rw[jl hl,acZ]
    ·exact hc
    ·rintro rfl;rw[hi] at hc;cases hc
   ·rintro⟨j,c,hc,hk2,rfl⟩;rw[jl hl] at hc;split at hc
    ·rename_i e;subst e;simp only[aho] at hc;subst hc;exact absurd hk2.symm hk
    ·exact⟨j,c,hc,hk2,rfl⟩
 ·unfold upd;by_cases hk:k=keyS b.o
  ·rw[adZ hk];constructor
   ·intro e;exact⟨i,b,by rw[jl hl,adZ rfl],hk.symm,by simpa using e.symm⟩
   ·rintro⟨j,c,hc,hk2,rfl⟩;rw[jl hl] at hc;split at hc
    ·rename_i e;subst e;rfl
    ·have:=(h.o k j).2 ⟨j,c,hc,hk2,rfl⟩;rw[hk,h2] at this;cases this
  ·rw[acZ hk,h.o];constructor
   ·rintro⟨j,c,hc,hk2,rfl⟩;refine⟨j,c,?_,hk2,rfl⟩;rw[jl hl,acZ]
    ·exact hc
    ·rintro rfl;rw[hi] at hc;cases hc
   ·rintro⟨j,c,hc,hk2,rfl⟩;rw[jl hl] at hc;split at hc
    ·rename_i e;subst e;simp only[aho] at hc;subst hc;exact absurd hk2.symm hk
    ·exact⟨j,c,hc,hk2,rfl⟩
 ·rw[jl hl] at hc;split at hc
  ·simp only[aho] at hc;subst hc;exact hb
  ·exact h.ok j c hc
theorem GoodB.one {S:Slots} {Mi Mo:ByteArray->Option Int} (h:GoodB S Mi Mo) {i j:Nat} {b c:Bnd} (hi:S[i]? =some (some b)) (hj:S[j]? =some (some c)) (e:keyS b.i=keyS c.i\/keyS b.o=keyS c.o):i=j:=by
 rcases e with e|e
 ·have h1:=(h.i _ i).2 ⟨i,b,hi,rfl,rfl⟩;have h2:=(h.i _ j).2 ⟨j,c,hj,rfl,rfl⟩;rw[e,h2] at h1;simp at h1;omega
 ·have h1:=(h.o _ i).2 ⟨i,b,hi,rfl,rfl⟩;have h2:=(h.o _ j).2 ⟨j,c,hj,rfl,rfl⟩;rw[e,h2] at h1;simp at h1;omega
theorem GoodB.remove {S:Slots} {Mi Mo:ByteArray->Option Int} (h:GoodB S Mi Mo) {i:Nat} {b:Bnd} (hi:S[i]? =some (some b)):
  GoodB (S.set i none) (upd Mi (keyS b.i) none) (upd Mo (keyS b.o) none):=by
 have hl:i<S.length:=(afg.1 hi).1;refine⟨λk v=> ?_,λk v=> ?_,λj c hc=> ?_⟩
 ·unfold upd;by_cases hk:k=keyS b.i
  ·rw[adZ hk];constructor
   ·intro e;cases e
   ·rintro⟨j,c,hc,hk2,rfl⟩;rw[jl hl] at hc;split at hc
    ·cases hc
    ·rename_i e;exact absurd (h.one hi hc (.inl (by rw[hk2,hk]))) e
  ·rw[acZ hk,h.i];constructor
   ·rintro⟨j,c,hc,hk2,rfl⟩;refine⟨j,c,?_,hk2,rfl⟩;rw[jl hl,acZ]
    ·exact hc
    ·rintro rfl;rw[hi] at hc;simp only[aho] at hc;subst hc;exact hk hk2.symm
   ·rintro⟨j,c,hc,hk2,rfl⟩;rw[jl hl] at hc;split at hc
    ·cases hc
    ·exact⟨j,c,hc,hk2,rfl⟩
 ·unfold upd;by_cases hk:k=keyS b.o
  ·rw[adZ hk];constructor
   ·intro e;cases e
   ·rintro⟨j,c,hc,hk2,rfl⟩;rw[jl hl] at hc;split at hc
    ·cases hc
    ·rename_i e;exact absurd (h.one hi hc (.inr (by rw[hk2,hk]))) e
  ·rw[acZ hk,h.o];constructor
   ·rintro⟨j,c,hc,hk2,rfl⟩;refine⟨j,c,?_,hk2,rfl⟩;rw[jl hl,acZ]
    ·exact hc
    ·rintro rfl;rw[hi] at hc;simp only[aho] at hc;subst hc;exact hk hk2.symm
   ·rintro⟨j,c,hc,hk2,rfl⟩;rw[jl hl] at hc;split at hc
    ·cases hc
    ·exact⟨j,c,hc,hk2,rfl⟩
 ·rw[jl hl] at hc;split at hc
  ·cases hc
  ·exact h.ok j c hc
def getS (S:Slots) (id:Int):Option Bnd:=if 0<=id then (S[id.toNat]?).join else none
theorem lX {S:Slots} {id:Int} {b:Bnd}:getS S id=some b↔0<=id/\S[id.toNat]? =some (some b):=by
 unfold getS;split
 ·rename_i h;rw[Option.join_eq_some_iff];simp[h]
 ·rename_i h;simp[h]
end Gp.Bind
end
section
namespace Go.Proofs
open Gp Gp.Hash
theorem ajz (m:Nat):V4.kC 8 m=V4.kC 4 (m / 4294967296)++V4.kC 4 (m % 4294967296):=by
 simp only[V4.kC,alY,amd,amh,amf];refine⟨?_,?_,?_,?_,?_,?_,?_,?_⟩<;>apply UInt8.toNat_inj.1<;>simp<;>omega
theorem agp {x:Int} (h:Bind.In64 x):lZ .i64 (jR .i64 x 32) 4294967295=(((x % 18446744073709551616).toNat / 4294967296:Nat):Int)/\lZ .i64 x 4294967295=(((x % 18446744073709551616).toNat % 4294967296:Nat):Int):=by
 obtain⟨h1,h2⟩:=h;have low:∀y:Int,lZ .i64 y 4294967295=(((y % 18446744073709551616).toNat % 4294967296:Nat):Int):=by
  intro y;unfold lZ;have e1:(BitVec.ofInt (IntKind.bits .i64) y).toNat=(y % 18446744073709551616).toNat:=by rfl
  have e2:(BitVec.ofInt (IntKind.bits .i64) 4294967295).toNat=2^32 - 1:=by rfl
  rw[amx,e1,e2,JZ];rw[Α]
 refine⟨?_,low x⟩;rw[low];unfold jR;have e:(2:Int)^(min (32:Int).toNat (IntKind.bits .i64))=4294967296:=by decide
 rw[e,amX _ (by omega)];omega
theorem key_ok {w:θ} {b:Nat} {ns:List Int} {vs:List Value} (h:Row w b vs) (hv:vs=ns.map λn=>Β n) (n c:Nat) (hn:n=ns.length) (hl:ns.length<=10) (hr:∀n∈ns,Bind.In64 n):
  FP ⟨some ⟨b,0,none⟩,n,c⟩ w λr w'=>r=Bind.keyS ns/\Ext w w':=by
 subst hv hn;apply aaw;refine g_ (λst W=>∃i:Nat,i<=ns.length/\st.2.1=(i:Int)/\iH W st.1 (Bind.keyB (ns.take i))/\Ext w W) (λst _=>ns.length - st.2.1.toNat) ⟨0,by omega,rfl,iH.nil,Ext.refl _⟩ ?_;rintro⟨s,x,⟨⟩⟩ W ⟨i,hi,rfl,hs,hx⟩ next I
 have hs:=hs;by_cases J:i<ns.length
 ·have u:((i:Int)<(ns.length:Int)):=by omega
  simp only[sx,u,acI,abu,aiC,(h.ext hx).cell,aiK,adP J,ahF];refine⟨by omega,by trivial,by omega,?_⟩;obtain⟨e1,e2⟩:=agp (hr _ (akU J));rw[e1,e2];generalize hm:(ns[i] % 18446744073709551616).toNat=m;have hm2:m<18446744073709551616:=by omega
  have kl:=Bind.OH (ns.take i);have kl2:(ns.take i).length<=10:=by simp;omega
  refine cmS2 (Ah hs (by omega) _ 4) ?_;rintro t1 w1 ⟨b1,f1,_⟩;have p1:mP (Bind.keyB (ns.take i)) ((m / 4294967296:Nat):Int) 4=Bind.keyB (ns.take i)++V4.kC 4 (m / 4294967296):=by
   unfold mP;rw[adZ ⟨⟨by omega,by omega⟩,by omega,by simp;omega⟩];rfl
  rw[p1] at b1;refine cmS2 (Ah (iH.iM b1) (by simp[V4.jf];omega) _ 4) ?_;rintro t2 w2 ⟨b2,f2,_⟩;have p2:mP (Bind.keyB (ns.take i)++V4.kC 4 (m / 4294967296)) ((m % 4294967296:Nat):Int) 4=Bind.keyB (ns.take i)++V4.kC 4 (m / 4294967296)++V4.kC 4 (m % 4294967296):=by
   unfold mP;rw[adZ ⟨⟨by omega,by omega⟩,by omega,by simp;omega⟩];rfl
  rw[p2] at b2;rw[Α];refine I _ _ ⟨i+1,by omega,by simp,?_,(hx.trans f1).trans f2⟩ (by grind);have ek:Bind.keyB (ns.take (i+1))=Bind.keyB (ns.take i)++V4.kC 4 (m / 4294967296)++V4.kC 4 (m % 4294967296):=by
   rw[akx J];unfold Bind.keyB;rw[alR,List.flatMap_singleton,hm,ajz,aky]
  rw[ek];exact iH.iM b2
 ·have u:¬((i:Int)<(ns.length:Int)):=by omega
  simp only[u,acR,aaf];have:i=ns.length:=by omega
  subst this;rw[alo] at hs;exact QO hs ⟨rfl,hx⟩
theorem rU (l:List Int) (h:l.length<=10):(Bind.keyS l).size<=2^63 - 1:=by
 have:(Bind.keyS l).size=(Bind.keyB l).length:=rfl;rw[this,Bind.OH];omega
theorem Ze (a b c d:Int) (h:∀n∈[a,b,c,d],Bind.In64 n) (w:θ):rD a b c d w λr w'=>r=Bind.keyS [a,b,c,d]/\Ext w w':=by
 apply Qm;refine gU λp w1 r1 _ _ f1=> ?_;simp only[sx,r1.cell];refine gU λq w2 r2 _ _ f2=> ?_;refine cmS9 (key_ok r2 rfl 4 4 rfl (by simp) h) ?_;rintro _ w3 ⟨rfl,f3⟩;exact⟨rfl,(f1.trans f2).trans f3⟩
theorem Z8 (a b c:Int) (h:∀n∈[a,b,c],Bind.In64 n) (w:θ):rE a b c w λr w'=>r=Bind.keyS [a,b,c]/\Ext w w':=by
 apply Qn;refine gU λp w1 r1 _ _ f1=> ?_;simp only[sx,r1.cell];refine gU λq w2 r2 _ _ f2=> ?_;refine cmS9 (key_ok r2 rfl 3 3 rfl (by simp) h) ?_;rintro _ w3 ⟨rfl,f3⟩;exact⟨rfl,(f1.trans f2).trans f3⟩
open Gp.Bind (Bnd Slots live GoodB freeN getS In64)
def iV:Option Bnd->List Value
 |none=>[Β 0,Β 0,Β 0,Β 0,Β 0,Β 0,Β 0,.bool false,.bool false]
 |some b=>[Β b.sw,Β b.pr,Β b.ad,Β b.po,Β b.opr,Β b.oad,Β b.opo,.bool b.st,.bool true]
theorem lY (o:Option Bnd):(iV o).length=9:=by cases o<;>rfl
theorem QI (o:Option Bnd):(iV o).all iP=true:=by cases o<;>rfl
theorem CP (o:Option Bnd):(iV o)[8]? =some (.bool o.isSome):=by cases o<;>rfl
structure Rn where
 d:Nat
 sl:Nat
 ti:Nat
 si:Nat
 tu:Nat
 su:Nat
def fp (A:Rn) (b:Nat):Prop:=b=A.d\/b=A.sl\/b=A.ti\/b=A.si\/b=A.tu\/b=A.su
def Rn.ne (A:Rn):Prop:=A.d≠A.sl/\A.d≠A.ti/\A.d≠A.si/\A.d≠A.tu/\A.d≠A.su/\A.sl≠A.ti/\A.sl≠A.si/\A.sl≠A.tu/\A.sl≠A.su/\A.ti≠A.tu/\A.ti≠A.su/\A.si≠A.tu/\A.si≠A.su
structure DB (w:θ) (A:Rn) (most:Nat) (S:Slots) (Mi Mo:ByteArray->Option Int):Prop where
 hd:Row w A.d [.slice (some ⟨A.sl,0,none⟩) most most,.pointer (some ⟨A.ti,0,none⟩),.pointer (some ⟨A.tu,0,none⟩),Β ((live 0 S).length:Int)]
 row:Row w A.sl (S.flatMap iV)
 len:S.length=most
 mx:most<=4096
 tI:∃L,TB w A.ti A.si L most Mi/\cnt L=(live 0 S).length
 tO:∃L,TB w A.tu A.su L most Mo/\cnt L=(live 0 S).length
 good:GoodB S Mi Mo
 ne:A.ne
section
variable {w w':θ} {A:Rn} {most:Nat} {S:Slots} {Mi Mo:ByteArray->Option Int}
theorem DB.fr {F:Nat->Prop} (h:DB w A most S Mi Mo) (hf:ig w w' F) (hs:∀b,fp A b->¬F b):DB w' A most S Mi Mo:=by
 obtain⟨L,h1,h2⟩:=h.tI;obtain⟨L',h3,h4⟩:=h.tO;exact⟨h.hd.fr hf (hs _ (.inl rfl)),h.row.fr hf (hs _ (.inr (.inl rfl))),h.len,h.mx,⟨L,h1.fr hf (hs _ (.inr (.inr (.inl rfl)))) (hs _ (.inr (.inr (.inr (.inl rfl))))),h2⟩,
  ⟨L',h3.fr hf (hs _ (.inr (.inr (.inr (.inr (.inl rfl)))))) (hs _ (.inr (.inr (.inr (.inr (.inr rfl)))))),h4⟩,h.good,h.ne⟩
theorem DB.ext (h:DB w A most S Mi Mo) (hf:Ext w w'):DB w' A most S Mi Mo:=h.fr (hf λ_=>False) (λ_ _=>by simp)
theorem DB.slot (h:DB w A most S Mi Mo) {i:Nat} {o:Option Bnd} (hi:S[i]? =some o) (j:Nat) (hj:j<9):w.cell? ⟨A.sl,i * 9+j,none⟩=(iV o)[j]? :=by
 rw[h.row.cell,flat_get iV 9 lY _ _ j hj,hi];rfl
theorem A_ (h:DB w A most S Mi Mo):mD (some ⟨A.d,0,none⟩) w λr w'=>r=true/\w'=w:=by
 apply Ql;simp only[sx,h.hd.cell,afk];trivial
theorem IU (h:DB w A most S Mi Mo) (a b c d:Int) (hq:∀n∈[a,b,c,d],In64 n):
  oq (some ⟨A.d,0,none⟩) a b c d w λn t w'=>t=(Mi (Bind.keyS [a,b,c,d])).isSome/\n=(Mi (Bind.keyS [a,b,c,d])).getD 0/\Ext w w':=by
 apply RH;refine gU λp w1 r1 _ _ f1=> ?_;refine cmS0 (A_ (h.ext f1)) ?_;rintro _ w2 ⟨rfl,hw⟩;subst hw;have h2:=(h.ext f1).ext (Ext.drew _);simp only[sx,adt,h2.hd.cell,r1.drew.cell];refine cmS9 (Ze a b c d hq _) ?_;rintro _ w3 ⟨rfl,f3⟩;have h3:=h2.ext f3;simp only[afp,d_,h3.hd.cell];obtain⟨L,hL,_⟩:=h3.tI;refine cmS3 (Zb hL _ (rU _ (by simp))) ?_;rintro n t w4 ⟨f4,rfl,rfl⟩;exact⟨rfl,rfl,((f1.trans (Ext.drew _)).trans f3).trans f4⟩
theorem Ou (h:DB w A most S Mi Mo) (a b c:Int) (hq:∀n∈[a,b,c],In64 n):
  pV (some ⟨A.d,0,none⟩) a b c w λn t w'=>t=(Mo (Bind.keyS [a,b,c])).isSome/\n=(Mo (Bind.keyS [a,b,c])).getD 0/\Ext w w':=by
 apply RG;refine gU λp w1 r1 _ _ f1=> ?_;refine cmS0 (A_ (h.ext f1)) ?_;rintro _ w2 ⟨rfl,hw⟩;subst hw;have h2:=(h.ext f1).ext (Ext.drew _);simp only[sx,adt,h2.hd.cell,r1.drew.cell];refine cmS9 (Z8 a b c hq _) ?_;rintro _ w3 ⟨rfl,f3⟩;have h3:=h2.ext f3;simp only[afp,d_,h3.hd.cell];obtain⟨L,hL,_⟩:=h3.tO;refine cmS3 (Zb hL _ (rU _ (by simp))) ?_;rintro n t w4 ⟨f4,rfl,rfl⟩;exact⟨rfl,rfl,((f1.trans (Ext.drew _)).trans f3).trans f4⟩
theorem ahJ (h:DB w A most S Mi Mo):D7 (some ⟨A.d,0,none⟩) w λn w'=>n=((live 0 S).length:Int)/\w'=w:=by
 apply U2;refine cmS0 (A_ h) ?_;rintro _ w2 ⟨rfl,hw⟩;subst hw;simp only[sx,adt,h.hd.cell];trivial
theorem wF:∀{S:Slots} {i:Nat},freeN S=some i↔S[i]? =some none/\∀j,j<i->∃b,S[j]? =some (some b)
 |[],i=>by simp[freeN]
 |none::r,i=>by
  simp only[freeN,aho];constructor
  ·grind
  ·rintro⟨_,h2⟩
   cases i with
   |zero=>rfl
   |succ i=>obtain⟨b,hb⟩:=h2 0 (by omega);simp at hb
 |some c::r,i=>by
  simp only[freeN,ams];constructor
  ·rintro⟨k,hk,rfl⟩;obtain⟨h1,h2⟩:=wF.1 hk;refine⟨by trivial,λj hj=> ?_⟩
   cases j with
   |zero=>simp
   |succ j=>simp_all
  ·rintro⟨h1,h2⟩
   cases i with
   |zero=>simp at h1
   |succ i=>exact⟨i,wF.2 ⟨by trivial,λj hj=>by grind⟩,rfl⟩
theorem ER:∀{S:Slots},(∀j,j<S.length->∃b,S[j]? =some (some b))->freeN S=none
 |[],_=>rfl
 |none::r,h=>by obtain⟨b,hb⟩:=h 0 (by simp);simp at hb
 |some c::r,h=>by
  simp only[freeN,Option.map_eq_none_iff];exact ER λj hj=>by simpa using h (j+1) (by simp;omega)
theorem afT (h:DB w A most S Mi Mo):Bl (some ⟨A.d,0,none⟩) w λn t w'=>w'=w/\t=(freeN S).isSome/\n=(((freeN S).getD 0:Nat):Int):=by
 apply RI;have hm:=h.mx;have hl:=h.len;simp only[sx,h.hd.cell];refine g_ (λst W=>W=w/\∃i:Nat,i<=most/\st.1=(i:Int)/\∀j,j<i->∃b,S[j]? =some (some b)) (λst _=>most - st.1.toNat) ⟨rfl,0,by omega,rfl,by omega⟩ ?_;rintro⟨x,⟨⟩⟩ W ⟨rfl,i,hi,rfl,hp⟩ next I
 by_cases hlt:i<most
 ·have u:((i:Int)<(most:Int)):=by omega
  have hS:S[i]? =some S[i]:=adP (by omega);generalize S[i]=o at hS;simp only[sx,u,acI,h.hd.cell,abu,h.slot hS 8 (by omega),CP];refine⟨by omega,by trivial,?_⟩
  cases o with
  |none=>
   have hf:=wF.2 ⟨hS,hp⟩;simp only[alH,afk,abt,hf];trivial
  |some b=>
   simp only[akt,adt,aaf];rw[Α];refine I _ _ ⟨rfl,i+1,by omega,by simp,λj hj=> ?_⟩ (by omega);by_cases hji:j<i
   ·simp_all
   grind
 ·have u:¬((i:Int)<(most:Int)):=by omega
  simp only[u,acR,aaf];have hf:=ER λj hj=>hp j (by omega)
  simp_all
theorem aen {S:Slots} {i:Nat} (hi:i<S.length) (o:Option Bnd):(S.flatMap iV).take (i * 9)++iV o++(S.flatMap iV).drop (i * 9+9)=(S.set i o).flatMap iV:=by
 have e1:(S.flatMap iV).take (i * 9)=(S.take i).flatMap iV:=by
  have h:=(aks i S).symm;have hl:((S.take i).flatMap iV).length=i * 9:=by rw[jh iV 9 lY];simp;omega
  grind
 have e2:(S.flatMap iV).drop (i * 9+9)=(S.drop (i+1)).flatMap iV:=by
  have h:=(aks (i+1) S).symm;have hl:((S.take (i+1)).flatMap iV).length=i * 9+9:=by rw[jh iV 9 lY];simp;omega
  grind
 rw[e1,e2,ani,adZ hi,alR,alx,aky]
theorem Oa (h:Row w A.sl (S.flatMap iV)) {i:Nat} (hi:i<S.length) (o:Option Bnd) {K:b_} (hK:∀w',Row w' A.sl ((S.set i o).flatMap iV)->ig w w' (·=A.sl)->w'.heap.size=w.heap.size->K w'):iE (iV o) w ⟨A.sl,i * 9,none⟩ 0 K:=by
 refine Sz (iV o) w _ (i * 9) 0 h (λv hv=>al5.1 (QI o) v hv) ?_ λw1 r1 f1 z1=> ?_
 ·rw[lY,jh iV 9 lY];omega
 ·rw[akC,lY,aen hi] at r1;exact hK w1 r1 (f1 _ rfl) z1
def wS (S:Slots) (Mi Mo:ByteArray->Option Int) (b:Bnd):Int×Int:=
 if (Mi (Bind.keyS b.i)).isSome||(Mo (Bind.keyS b.o)).isSome then (0,9) else match freeN S with
  |none=>(0,7)
  |some i=>((i:Int),0)
theorem ac_ (h:DB w A most S Mi Mo) (b:Bnd) (hb:b.ok) (u:∀x,fp A x->x<w.heap.size):
  yT (some ⟨A.d,0,none⟩) b.sw b.pr b.ad b.po b.opr b.oad b.opo b.st w λn e w'=>(n,e)=wS S Mi Mo b/\ig w w' (fp A)/\
   ∃A' S' Mi' Mo',DB w' A' most S' Mi' Mo'/\A'.d=A.d/\(∀x,fp A' x->fp A x\/w.heap.size<=x)/\(∀x,fp A' x->x<w'.heap.size)/\S'=(if (wS S Mi Mo b).2=0 then S.set (wS S Mi Mo b).1.toNat (some b) else S):=by
 apply UZ;refine gU λp w1 r1 e1 z1 f1=> ?_;refine cmS0 (A_ (h.ext f1)) ?_;rintro _ w2 ⟨rfl,hw⟩;subst hw;simp only[sx,adt,r1.cell];refine cmS3 (IU (h.ext f1) _ _ _ _ hb.1) ?_;rintro n2 t2 w3 ⟨ht2,_,f3⟩;simp only[d_,gJ,gK,(r1.ext f3).cell];refine cmS3 (Ou ((h.ext f1).ext f3) _ _ _ hb.2) ?_;rintro n4 t4 w4 ⟨ht4,_,f4⟩;have ht2:t2=(Mi (Bind.keyS b.i)).isSome:=ht2;have ht4:t4=(Mo (Bind.keyS b.o)).isSome:=ht4;have y4:=f3.trans f4;have x4:=f1.trans y4;have h4:=h.ext x4;have twice:(t2||t4)=true->((0:Int),(9:Int))=wS S Mi Mo b/\ig w w4 (fp A)/\∃A' S' Mi' Mo',DB w4 A' most S' Mi' Mo'/\A'.d=A.d/\(∀x,fp A' x->fp A x\/w.heap.size<=x)/\(∀x,fp A' x->x<w4.heap.size)/\S'=(if (wS S Mi Mo b).2=0 then S.set (wS S Mi Mo b).1.toNat (some b) else S):=by
  intro ht;have e:wS S Mi Mo b=(0,9):=by unfold wS;simp_all
  rw[e];exact⟨rfl,x4 _,A,S,Mi,Mo,h4,rfl,λx hx=> .inl hx,λx hx=>by have:=u x hx;have:=x4.size;omega,by rfl⟩
 cases Y:t2 with
 |true=>simp only[abt];simp_all
 |false=>
 cases N:t4 with
 |true=>simp only[abt,aaf];simp_all
 |false=>
 rw[Y] at ht2;rw[N] at ht4;simp only[aaf];refine cmS3 (afT h4) ?_;rintro n5 t5 w5 ⟨hw,ht5,hn5⟩;subst hw
 cases O:freeN S with
 |none=>
  rw[O] at ht5;subst ht5;simp only[alH,afk,abt];have e:wS S Mi Mo b=(0,7):=by unfold wS;simp_all
  rw[e];exact⟨rfl,x4 _,A,S,Mi,Mo,h4,rfl,λx hx=> .inl hx,λx hx=>by have:=u x hx;have:=x4.size;omega,by rfl⟩
 |some i=>
  rw[O] at ht5 hn5;subst ht5;have hn5:n5=(i:Int):=hn5;subst hn5;have e:wS S Mi Mo b=((i:Int),0):=by unfold wS;simp_all
  rw[e];obtain⟨g1,g2,g3,g4,g5,g6,g7⟩:=Bind.jE 0 O;have hm:=h.mx;have hl:=h.len;have h5:=h4.ext (Ext.drew _);have r5:=(r1.ext y4).drew;simp only[sx,akt,adt,h5.hd.cell,r5.cell,abu];refine⟨by omega,by omega,?_⟩;refine Oa h5.row g1 (some b) λw6 row6 f6 z6=> ?_;obtain⟨n1,n2,n3,n4,n5,n6,n7,n8,n9,n10,n11,n12,n13⟩:=h.ne;have hp:∀x,fp A x->x≠p:=λx hx=>by grind
  have hpd:=hp _ (.inl rfl);have Z:=hp _ (.inr (.inl rfl));have hd6:=(h5.hd.fr f6 n1).drew;have r6:=(r5.fr f6 (air Z)).drew;simp only[d_,gJ,gK,pR,hd6.cell,r6.cell];refine cmS9 (Ze _ _ _ _ hb.1 _) ?_;rintro _ w7 ⟨rfl,f7⟩;have hd7:=hd6.ext f7;have r7:=r6.ext f7;simp only[afp,d_,hd7.cell];obtain⟨LI,tI,cI⟩:=h5.tI;obtain⟨LO,tO,cO⟩:=h5.tO;have f67:=(f6.ext (Ext.drew _)).ext f7;have tI7:=tI.fr f67 (air n6) (air n7);have tO7:=tO.fr f67 (air n8) (air n9);have aa:Mi (Bind.keyS b.i)=none:=by simp_all
  have ab:Mo (Bind.keyS b.o)=none:=by cases hx:Mo (Bind.keyS b.o) with
   |none=>rfl
   |some v=>grind
  have z7:=f67.size;have hdrz:w5.drew.heap.size=w5.heap.size:=rfl;have x4z:=x4.size;refine cmS1 (Zd tI7 (Bind.keyS b.i) (i:Int) (rU _ (by simp[Bnd.i]))) ?_;rintro e8 w8 (⟨rfl,hlt8,s8,L8,t8,c8,f8,hs8⟩|⟨_,_,R,_⟩);rotate_left
  ·exfalso;omega
  have hd8:=(hd7.fr f8 (by grind)).drew;have r8:=(r7.fr f8 (by rintro(h|h);exact hp _ (.inr (.inr (.inl rfl))) h.symm;exact hp _ (.inr (.inr (.inr (.inl rfl)))) h.symm)).drew;simp only[d_,gJ,gK,pR,hd8.cell,r8.cell];refine cmS9 (Z8 _ _ _ hb.2 _) ?_;rintro _ w9 ⟨rfl,f9⟩;have hd9:=hd8.ext f9;simp only[afp,d_,hd9.cell];have hs8':s8≠A.tu/\s8≠A.su/\s8≠A.d/\s8≠A.sl:=by
   have q1:=u A.tu (.inr (.inr (.inr (.inr (.inl rfl)))));have q2:=u A.su (.inr (.inr (.inr (.inr (.inr rfl)))));have q3:=u A.d (.inl rfl);have q4:=u A.sl (.inr (.inl rfl));omega
  have f89:=(f8.ext (Ext.drew _)).ext f9;have tO9:=tO7.fr f89 (by grind) (by grind);have tI9:=(t8.Md (Ext.drew w8)).Md f9;have z8:=f8.size;have z9:=f9.size;have hdrz8:w8.drew.heap.size=w8.heap.size:=rfl;refine cmS1 (Zd tO9 (Bind.keyS b.o) (i:Int) (rU _ (by simp[Bnd.o]))) ?_;rintro e10 w10 (⟨rfl,hlt10,I,ac,t10,c10,f10,hs10⟩|⟨_,_,R,_⟩);rotate_left
  ·exfalso;omega
  have hs10':I≠A.ti/\I≠s8/\I≠A.d/\I≠A.sl:=by
   have q1:=u A.ti (.inr (.inr (.inl rfl)));have q2:=u A.d (.inl rfl);have q4:=u A.sl (.inr (.inl rfl));have q5:s8<w9.heap.size:=by
    have:s8<w8.heap.size:=by
     by_cases hL:L8=[]
     ·rw[t8.nils hL];omega
     ·exact(t8.ht.row hL).lt
    omega
   grind
  have hd10:=hd9.fr f10 (by grind);simp only[d_,gJ,gK,hd10.cell];have hll:=Bind.jL S 0;rw[Α];refine iC hd10 rfl (by simp) λU hd11 f11 z11=> ?_;simp only[af5,ahm] at hd11;have f11d:=f11 (·=A.d) rfl;have J:(live 0 (S.set i (some b))).length=(live 0 S).length+1:=by
   grind
  have tI11:=(tI9.fr f10 (by grind) (by omega)).fr f11d (air n2) hs8'.2.2.1;have tO11:=t10.fr f11d (air n4) hs10'.2.2.1;have row11:=((((row6.ext (Ext.drew _)).ext f7).fr f89 (by grind)).fr f10 (by grind)).fr f11d (air n1);have zb:=f67.size;have ftot:ig w U (fp A):=by
   have q1:ig w w7 (fp A):=((x4.trans (Ext.drew w5)) _).trans f67 λx _ hx=> .inr (.inl hx);have q2:=q1.trans f89 λx _ hx=>by
    rcases hx with hx|hx
    ·exact .inr (.inr (.inl hx))
    ·exact .inr (.inr (.inr (.inl hx)))
   have q3:=q2.trans f10 λx _ hx=>by
    rcases hx with hx|hx
    ·exact .inr (.inr (.inr (.inr (.inl hx))))
    ·exact .inr (.inr (.inr (.inr (.inr hx))))
   exact q3.trans f11d λx _ hx=> .inl hx
  have zt:=ftot.size;have eu:∀M k v,Go.Proofs.upd M k v=Gp.Bind.upd M k v:=λ_ _ _=>rfl;rw[eu] at tI11 tO11;have db:DB U ⟨A.d,A.sl,A.ti,s8,A.tu,I⟩ most (S.set i (some b)) (Gp.Bind.upd Mi (Bind.keyS b.i) (some (i:Int))) (Gp.Bind.upd Mo (Bind.keyS b.o) (some (i:Int))):=by
   refine⟨?_,row11,by grind,hm,⟨L8,tI11,?_⟩,⟨ac,tO11,?_⟩,h.good.add g2 hb aa ab,?_⟩
   ·rw[J];simpa using hd11
   ·grind
   ·grind
   ·exact⟨n1,n2,air hs8'.2.2.1,n4,air hs10'.2.2.1,n6,air hs8'.2.2.2,n8,air hs10'.2.2.2,n10,air hs10'.1,hs8'.1,air hs10'.2.1⟩
  refine⟨ftot,_,_,_,_,db,rfl,?_,?_,by simp⟩
  ·intro x hx;rcases hx with hx|hx|hx|hx|hx|hx
   ·exact .inl (.inl hx)
   ·exact .inl (.inr (.inl hx))
   ·exact .inl (.inr (.inr (.inl hx)))
   ·have hx:x=s8:=hx;rcases hs8 with h8|h8
    ·exact .inl (.inr (.inr (.inr (.inl (hx.trans h8)))))
    omega
   ·exact .inl (.inr (.inr (.inr (.inr (.inl hx)))))
   ·have hx:x=I:=hx;rcases hs10 with W|W
    ·exact .inl (.inr (.inr (.inr (.inr (.inr (hx.trans W))))))
    omega
  ·intro x hx;have tlt:∀{w0:θ} {b s:Nat} {L:List uS} {m:Int} {M:ByteArray->Option Int},TB w0 b s L m M->s<w0.heap.size:=by
    intro w0 b s L m M t;by_cases hL:L=[]
    ·rw[t.nils hL];exact t.ht.hd.lt
    ·exact(t.ht.row hL).lt
   have lt:=λy hy=>alA (u y hy) zt;rcases hx with hx|hx|hx|hx|hx|hx
   ·exact lt x (.inl hx)
   ·exact lt x (.inr (.inl hx))
   ·exact lt x (.inr (.inr (.inl hx)))
   ·grind
   ·exact lt x (.inr (.inr (.inr (.inr (.inl hx)))))
   grind
end
end Go.Proofs
end
section
namespace Go.Proofs
open Gp Gp.Hash
open Gp.Bind (Bnd Slots live GoodB freeN getS In64)
section
variable {w w':θ} {A:Rn} {most:Nat} {S:Slots} {Mi Mo:ByteArray->Option Int}
theorem I7 {S:Slots} {id:Int} (h:id<0\/(S.length:Int)<=id):getS S id=none:=by
 unfold Gp.Bind.getS
 grind
theorem Y_ {S:Slots} {id:Int} (h0:0<=id) {o:Option Bnd} (h:S[id.toNat]? =some o):getS S id=o:=by
 unfold Gp.Bind.getS
 simp_all
theorem ade (h:DB w A most S Mi Mo) (id:Int):yV (some ⟨A.d,0,none⟩) id w λr w'=>r=(getS S id).isSome/\w'=w:=by
 apply U3;have hl:=h.len;refine cmS0 (A_ h) ?_;rintro _ w2 ⟨rfl,hw⟩;subst hw;simp only[abt];by_cases c1:id>=0
 ·simp only[sx,c1,acI,h.hd.cell];by_cases c2:id<(most:Int)
  ·have hS:S[id.toNat]? =some S[id.toNat]:=adP (by omega);generalize S[id.toNat]=o at hS;simp only[c2,acI,abt,gJ,jr,h.slot hS 8 (by omega),CP];refine⟨by trivial,by trivial,?_,by trivial⟩;rw[Y_ c1 hS]
  ·simp only[c2,acR,aaf];exact⟨by rw[I7 (.inr (by omega))];rfl,by trivial⟩
 ·simp only[c1,acR,aaf];exact⟨by rw[I7 (.inl (by omega))];rfl,by trivial⟩
def aln (b:Bnd) (a1 a2 a3 a4 a5 a6 a7:Int) (a8:Bool):Prop:=a1=b.sw/\a2=b.pr/\a3=b.ad/\a4=b.po/\a5=b.opr/\a6=b.oad/\a7=b.opo/\a8=b.st
def alm:Bnd:=⟨0,0,0,0,0,0,0,false⟩
theorem Dz (h:DB w A most S Mi Mo) (id:Int):lD (some ⟨A.d,0,none⟩) id w λa1 a2 a3 a4 a5 a6 a7 a8 r w'=>r=(getS S id).isSome/\aln ((getS S id).getD alm) a1 a2 a3 a4 a5 a6 a7 a8/\Ext w w':=by
 apply U1;have hl:=h.len;refine gU λp w1 r1 e1 z1 f1=> ?_;have h1:=h.ext f1;refine cmS0 (ade h1 id) ?_;rintro _ w2 ⟨rfl,hw⟩;subst hw
 cases hg:getS S id with
 |none=>
  simp only[alH,afk,abt];refine gZ r1 rfl rfl λw3 r3 f3 _=> ?_;simp only[sx,afp,r3.cell];exact⟨⟨rfl,rfl,rfl,rfl,rfl,rfl,rfl,rfl⟩,f1.new (f3 (·=p) rfl) λy hy e=>by omega⟩
 |some b=>
  obtain⟨g0,g1⟩:=Gp.Bind.lX.1 hg;have gl:=(afg.1 g1).1;have c:=h1.slot g1;have c0:=c 0 (by omega);have c1:=c 1 (by omega);have c2:=c 2 (by omega);have c3:=c 3 (by omega);have c4:=c 4 (by omega);have c5:=c 5 (by omega);have c6:=c 6 (by omega);have c7:=c 7 (by omega);simp only[akC] at c0;simp only[sx,akt,adt,h1.hd.cell,c0,c1,c2,c3,c4,c5,c6,c7,iV];refine⟨by omega,by omega,gZ r1 rfl rfl λw3 r3 f3 _=> ?_⟩;simp only[afp,d_,gJ,gK,jr,r3.cell];exact⟨⟨rfl,rfl,rfl,rfl,rfl,rfl,rfl,rfl⟩,f1.new (f3 (·=p) rfl) λy hy e=>by omega⟩
theorem abW (h:DB w A most S Mi Mo) (id:Int) (hlt:∀x,fp A x->x<w.heap.size):
  yh (some ⟨A.d,0,none⟩) id w λr w'=>r=(getS S id).isSome/\ig w w' (fp A)/\∃Mi' Mo',DB w' A most (if (getS S id).isSome then S.set id.toNat none else S) Mi' Mo':=by
 apply OJ;have hl:=h.len;have hm:=h.mx;refine cmS0 (ade h id) ?_;rintro _ w1 ⟨rfl,hw⟩;subst hw
 cases hg:getS S id with
 |none=>
  simp only[alH,afk,abt];exact⟨by trivial,ig.refl _ _,Mi,Mo,by simpa using h⟩
 |some b=>
  obtain⟨g0,g1⟩:=Gp.Bind.lX.1 hg;have gl:=(afg.1 g1).1;have hb:=h.good.ok _ _ g1;have c:∀j,j<9->_:=h.slot g1;have c0:=c 0 (by omega);have c1:=c 1 (by omega);have c2:=c 2 (by omega);have c3:=c 3 (by omega);have c4:=c 4 (by omega);have c5:=c 5 (by omega);have c6:=c 6 (by omega);have c7:=c 7 (by omega);have c8:=c 8 (by omega);simp only[akC] at c0;simp only[sx,akt,adt,h.hd.cell,c0,c1,c2,c3,c4,c5,c6,c7,c8,iV];refine⟨by omega,by omega,D5 rfl rfl λp w2 r2 e2 z2 f2=> ?_⟩;have x2:Ext w1 w2.drew:=f2.trans (Ext.drew _);have h2:=h.ext x2;have r2d:=r2.drew;simp only[sx,h2.hd.cell,r2d.cell];refine cmS9 (Ze _ _ _ _ hb.1 _) ?_;rintro _ w3 ⟨rfl,f3⟩;have h3:=h2.ext f3;have r3:=r2d.ext f3;simp only[afp,d_,h3.hd.cell];obtain⟨LI,tI,cI⟩:=h3.tI;obtain⟨n1,n2,n3,n4,n5,n6,n7,n8,n9,n10,n11,n12,n13⟩:=h.ne;have hp:∀x,fp A x->x≠p:=λx hx e=>by grind
  refine cmS0 (Nj tI (Bind.keyS b.i) (rU _ (by simp[Bnd.i]))) ?_;rintro _ w4 ⟨_,⟨L4,t4,c4'⟩,f4⟩;have u:Mi (Bind.keyS b.i)=some (id.toNat:Int):=(h.good.i _ _).2 ⟨_,b,g1,rfl,rfl⟩;have I:Mo (Bind.keyS b.o)=some (id.toNat:Int):=(h.good.o _ _).2 ⟨_,b,g1,rfl,rfl⟩;have hd4:=(h3.hd.fr f4 (by simp_all)).drew;have r4:Row w4.drew p _:=(r3.fr f4 (by rintro(h|h);exact hp _ (.inr (.inr (.inl rfl))) h.symm;exact hp _ (.inr (.inr (.inr (.inl rfl)))) h.symm)).drew;simp only[d_,gJ,gK,pR,hd4.cell,r4.cell];refine cmS9 (Z8 _ _ _ hb.2 _) ?_;rintro _ w5 ⟨rfl,f5⟩;have hd5:=hd4.ext f5;simp only[afp,d_,hd5.cell];have f45:ig w3 w5 (λx=>x=A.ti\/x=A.si):=(f4.ext (Ext.drew _)).ext f5;obtain⟨LO,tO,cO⟩:=h3.tO;have tO5:=tO.fr f45 (by omega) (by omega);have tI5:=(t4.Md (Ext.drew _)).Md f5;refine cmS0 (Nj tO5 (Bind.keyS b.o) (rU _ (by simp[Bnd.o]))) ?_;rintro _ w6 ⟨_,⟨L6,t6,c6'⟩,f6⟩;have hd6:=hd5.fr f6 (by omega);have row6:Row w6 A.sl (S.flatMap iV):=((h3.row.fr f45 (by omega)).fr f6 (by omega));simp only[sx,hd6.cell];refine⟨by omega,by omega,?_⟩;refine Oa row6 gl none λw7 row7 f7 z7=> ?_;have hd7:=hd6.fr f7 n1;simp only[d_,gJ,gK,hd7.cell];have hlen:=Gp.Bind.kT 0 g1;have hll:=Gp.Bind.jL S 0;rw[Α];refine iC hd7 rfl (by simp) λw8 hd8 f8 z8=> ?_;simp only[af5,ahm] at hd8;have f8d:=f8 (·=A.d) rfl;have eu:∀M k v,Go.Proofs.upd M k v=Gp.Bind.upd M k v:=λ_ _ _=>rfl;have tI8:=((tI5.fr f6 (by omega) (by omega)).fr f7 (air n6) (air n7)).fr f8d (air n2) (air n3);have tO8:=(t6.fr f7 (air n8) (air n9)).fr f8d (air n4) (air n5);rw[eu] at tI8 tO8;have ff:ig w1 w8 (fp A):=by
   have q1:ig w1 w5 (fp A):=((x2.trans f3) _).trans f45 λx _ hx=>by
    rcases hx with hx|hx
    ·exact .inr (.inr (.inl hx))
    ·exact .inr (.inr (.inr (.inl hx)))
   have q2:ig w1 w6 (fp A):=q1.trans f6 λx _ hx=>by
    rcases hx with hx|hx
    ·exact .inr (.inr (.inr (.inr (.inl hx))))
    ·exact .inr (.inr (.inr (.inr (.inr hx))))
   exact(q2.trans f7 λx _ hx=> .inr (.inl hx)).trans f8d λx _ hx=> .inl hx
  have e:((live 0 S).length:Int) - 1=((live 0 (S.set id.toNat none)).length:Int):=by omega
  rw[e] at hd8;rw[u] at c4';rw[I] at c6';simp only[akt,ajn] at c4' c6';have db:DB w8 A most (S.set id.toNat none) (Gp.Bind.upd Mi (Bind.keyS b.i) none) (Gp.Bind.upd Mo (Bind.keyS b.o) none):=
   ⟨hd8,row7.fr f8d (air n1),by simp_all,hm,⟨L4,tI8,by omega⟩,⟨L6,tO8,by omega⟩,h.good.remove g1,h.ne⟩
  grind
def yD (L:List (Int×Bnd)):List (zZ [.one ν,.agg [ν,ν,ν,ν,ν,ν,ν,.bool]]):=
 L.map λx=>(x.1,(x.2.sw,x.2.pr,x.2.ad,x.2.po,x.2.opr,x.2.oad,x.2.opo,x.2.st,()),())
theorem mG:∀(S T:Slots) (k:Nat),live k (S++T)=live k S++live (k+S.length) T
 |[],T,k=>by simp[live]
 |none::r,T,k=>by rw[alY,live,live,mG r T (k+1)];grind
 |some b::r,T,k=>by rw[alY,live,live,mG r T (k+1)];grind
theorem Zk {S:Slots} {i:Nat} {b:Bnd} (h:S[i]? =some (some b)):(live 0 S)[(live 0 (S.take i)).length]? =some ((i:Int),b)/\(live 0 (S.take (i+1))).length=(live 0 (S.take i)).length+1:=by
 have u:=(afg.1 h).1;have hS:S[i]=some b:=by simp_all
 have e1:S=S.take i++some b::S.drop (i+1):=by
  conv=>lhs;rw[<- aks i S,amc u,hS]
 have hl:(S.take i).length=i:=by simp;omega
 constructor
 ·conv=>lhs;rw[e1]
  rw[mG,alh (by simp[hl])];simp[live,hl]
 ·rw[akx u,hS,mG];simp[live]
theorem Qe {S:Slots} {i:Nat} (h:S[i]? =some none):(live 0 (S.take (i+1))).length=(live 0 (S.take i)).length:=by
 have u:=(afg.1 h).1;have hS:S[i]=none:=by simp_all
 rw[akx u,hS,mG];simp[live]
theorem ahK (n:Int) (w:θ):MP n w λp e w'=>Ext w w'/\((¬(0<=n/\n<=4096)/\p=none/\e=1)\/(0<=n/\n<=4096/\e=0/\∃A,p=some ⟨A.d,0,none⟩/\(∀x,fp A x->w.heap.size<=x/\x<w'.heap.size)/\DB w' A n.toNat (List.replicate n.toNat none) (λ_=>none) (λ_=>none))):=by
 apply aav;by_cases c1:n<0
 ·simp only[c1,acI,abt];exact⟨Ext.refl _,.inl ⟨by omega,by trivial,by trivial⟩⟩
 by_cases c2:n>4096
 ·simp only[c1,c2,acI,acR,abt,aaf];exact⟨Ext.refl _,.inl ⟨by omega,by trivial,by trivial⟩⟩
 simp only[c1,c2,acR,aaf];refine cmS6 (Zc n w) ?_;rintro p1 e1 w1 ⟨f1,(⟨_,_,rfl,ti,rfl,l1,t1⟩|⟨h,_,_⟩)⟩;rotate_left
 ·omega
 refine cmS6 (Zc n w1) ?_;rintro p2 e2 w2 ⟨f2,(⟨_,_,rfl,tu,rfl,l2,t2⟩|⟨h,_,_⟩)⟩;rotate_left
 ·omega
 simp only[show ((0:Int) !=0)=false from rfl,aaf];refine Ik (by omega) (by omega) (by omega) (by omega) λsl w3 r3 e3 z3 f3=> ?_;refine gU λd w4 r4 e4 z4 f4=> ?_;obtain⟨m,rfl⟩:∃m:Nat,n=(m:Int):=⟨n.toNat,by omega⟩;simp only[abu] at r3 r4 ⊢;have f1:Ext w w1:=f1;have f2:Ext w1 w2:=f2;have f3:Ext w2 w3:=f3;have x4:=(f1.trans f2).trans (f3.trans f4);have i1:=t1.ht.hd.lt;have i2:=t2.ht.hd.lt;have s1:=f2.size;have xC:∀(k j:Nat),live j (List.replicate k none)=[]:=by
  intro k
  induction k with
  |zero=>intro j;rfl
  |succ k ih=>intro j;rw[al6,live];exact ih _
 have rep:∀k,iw [Β 0,Β 0,Β 0,Β 0,Β 0,Β 0,Β 0,Value.bool false,Value.bool false] k=(List.replicate k (none:Option Bnd)).flatMap iV:=by
  intro k
  induction k with
  |zero=>rfl
  |succ k ih=>rw[iw,ih,al6,alx];rfl
 refine⟨x4,.inr ⟨by omega,by omega,by trivial,⟨d,sl,ti,ti,tu,tu⟩,rfl,?_,?_⟩⟩
 ·intro x hx;rcases hx with hx|hx|hx|hx|hx|hx<;>simp only at hx<;>omega
 ·refine⟨?_,?_,by simp,by omega,⟨[],?_,?_⟩,⟨[],?_,?_⟩,⟨λk v=> ?_,λk v=> ?_,λj b hb=> ?_⟩,?_⟩
  ·rw[xC];exact r4
  ·rw[<- rep];exact r3.ext f4
  ·exact t1.Md (f2.trans (f3.trans f4))
  ·rw[xC];rfl
  ·exact t2.Md (f3.trans f4)
  ·rw[xC];rfl
  ·grind
  ·grind
  ·rw[amA] at hb;split at hb<;>simp at hb
  ·refine⟨?_,?_,?_,?_,?_,?_,?_,?_,?_,?_,?_,?_,?_⟩<;>simp only<;>omega
end
end Go.Proofs
end
section
namespace Gp.Ses
open Gp.V4
open Gp.Bind (keyB keyS keyS_inj In64 upd)
structure Ses where
 bd:Int
 st:Int
 un:Int
 ra:Int
 rp:Int
deriving DecidableEq
def Ses.k (b:Ses):List Int:=[b.bd,b.ra,b.rp]
def Ses.ok (b:Ses):Prop:=∀n∈b.k,In64 n
abbrev Slots:=List (Option Ses)
def live:Nat->Slots->List (Int×Ses)
 |_,[]=>[]
 |i,none::r=>live (i+1) r
 |i,some b::r=>((i:Int),b)::live (i+1) r
theorem kY:∀{S:Slots} {k:Nat} {v:Int} {b:Ses},(v,b)∈live k S↔∃i:Nat,S[i]? =some (some b)/\v=((k+i:Nat):Int)
 |[],k,v,b=>by simp[live]
 |none::r,k,v,b=>by
  rw[live,kY];constructor
  ·rintro⟨i,h1,h2⟩;exact⟨i+1,by trivial,by omega⟩
  grind
 |some c::r,k,v,b=>by
  rw[live,agI,kY];constructor
  ·rintro(h|⟨i,h1,h2⟩)
   ·grind
   ·exact⟨i+1,by trivial,by omega⟩
  grind
theorem jL:∀(S:Slots) (k:Nat),(live k S).length<=S.length
 |[],_=>by simp[live]
 |none::r,k=>by have:=jL r (k+1);simp[live];omega
 |some b::r,k=>by have:=jL r (k+1);simp[live];omega
def freeN:Slots->Option Nat
 |[]=>none
 |none::_=>some 0
 |some _::r=>(freeN r).map (·+1)
theorem jE:∀{S:Slots} {i:Nat} (k:Nat),freeN S=some i->i<S.length/\S[i]? =some none/\(live k S).length<S.length/\i<=(live k S).length/\(∀j,j<i->∃b,(live k S)[j]? =some (((k+j:Nat):Int),b)/\S[j]? =some (some b))/\
  (∀v b,(live k S)[i]? =some (v,b)->v≠((k+i:Nat):Int))/\∀b,live k (S.set i (some b))=(live k S).take i++(((k+i:Nat):Int),b)::(live k S).drop i
 |[],i,_,h=>by trivial
 |none::r,i,k,h=>by
  simp[freeN] at h;subst h;have hl:=jL r (k+1);refine⟨by simp,rfl,by simp[live];omega,by omega,by omega,λv b hv=> ?_,λb=>by simp[live]⟩;have:=als hv;rw[live,kY] at this;omega
 |some c::r,i,k,h=>by
  simp only[freeN,ams] at h;obtain⟨i',h',rfl⟩:=h;obtain⟨h1,h2,h3,h4,h5,h6,h7⟩:=jE (k+1) h';refine⟨by simp;omega,by trivial,by simp[live];omega,by simp[live];omega,λj hj=> ?_,λv b hv=> ?_,λb=> ?_⟩
  ·cases j with
   |zero=>exact⟨c,by simp[live],by simp⟩
   |succ j=>
    obtain⟨b,g1,g2⟩:=h5 j (by omega);refine⟨b,?_,by trivial⟩;rw[live,afh,g1,show k+1+j=k+(j+1) by omega]
  ·rw[live,afh] at hv
   grind
  ·rw[ahm,live,h7 b,live,anb,List.drop_succ_cons,show k+1+i'=k+(i'+1) by omega];rfl
theorem kT:∀{S:Slots} {i:Nat} {b:Ses} (k:Nat),S[i]? =some (some b)->(live k (S.set i none)).length+1=(live k S).length
 |[],_,_,_,h=>by simp at h
 |c::r,0,b,k,h=>by
  simp at h;subst h;simp[live]
 |none::r,i+1,b,k,h=>by
  rw[ahm,live,live];exact kT (k+1) (by simpa using h)
 |some c::r,i+1,b,k,h=>by
  rw[ahm,live,live,ajg,ajg,kT (k+1) (by simpa using h)]
structure GoodS (S:Slots) (M:ByteArray->Option Int):Prop where
 k:∀k v,M k=some v↔∃(j:Nat) (b:Ses),S[j]? =some (some b)/\keyS b.k=k/\v=(j:Int)
 ok:∀(j:Nat) (b:Ses),S[j]? =some (some b)->b.ok
theorem jl {S:Slots} {i j:Nat} {v:Option Ses} (hi:i<S.length):(S.set i v)[j]? =if i=j then some v else S[j]? :=by
 grind
theorem GoodS.add {S:Slots} {M:ByteArray->Option Int} (h:GoodS S M) {i:Nat} {b:Ses} (hi:S[i]? =some none) (hb:b.ok) (h1:M (keyS b.k)=none):GoodS (S.set i (some b)) (upd M (keyS b.k) (some i)):=by
 have hl:=(afg.1 hi).1;refine⟨λk v=> ?_,λj c hc=> ?_⟩
 ·unfold upd;by_cases hk:k=keyS b.k
  ·rw[adZ hk];constructor
   ·grind
   ·rintro⟨j,c,hc,hk2,rfl⟩;rw[jl hl] at hc;split at hc
    ·simp_all
    ·have:=(h.k k j).2 ⟨j,c,hc,hk2,rfl⟩
     simp_all
  ·rw[acZ hk,h.k]
   grind
 ·rw[jl hl] at hc;split at hc
  ·simp only[aho] at hc;subst hc;exact hb
  ·exact h.ok j c hc
theorem GoodS.one {S:Slots} {M:ByteArray->Option Int} (h:GoodS S M) {i j:Nat} {b c:Ses} (hi:S[i]? =some (some b)) (hj:S[j]? =some (some c)) (e:keyS b.k=keyS c.k):i=j:=by
 have h1:=(h.k _ i).2 ⟨i,b,hi,rfl,rfl⟩;have h2:=(h.k _ j).2 ⟨j,c,hj,rfl,rfl⟩
 grind
theorem GoodS.remove {S:Slots} {M:ByteArray->Option Int} (h:GoodS S M) {i:Nat} {b:Ses} (hi:S[i]? =some (some b)):GoodS (S.set i none) (upd M (keyS b.k) none):=by
 have hl:=(afg.1 hi).1;refine⟨λk v=> ?_,λj c hc=> ?_⟩
 ·unfold upd;by_cases hk:k=keyS b.k
  ·rw[adZ hk];constructor
   ·simp
   ·rintro⟨j,c,hc,hk2,rfl⟩;rw[jl hl] at hc;split at hc
    ·cases hc
    ·rename_i e;exact absurd (h.one hi hc (by rw[hk2,hk])) e
  ·rw[acZ hk,h.k]
   grind
 ·rw[jl hl] at hc;split at hc
  ·cases hc
  ·exact h.ok j c hc
theorem GoodS.put {S:Slots} {M:ByteArray->Option Int} (h:GoodS S M) {i:Nat} {b b':Ses} (hi:S[i]? =some (some b)) (he:b'.k=b.k):GoodS (S.set i (some b')) M:=by
 have hl:=(afg.1 hi).1;refine⟨λk v=> ?_,λj c hc=> ?_⟩
 ·rw[h.k]
  grind
 ·rw[jl hl] at hc;split at hc
  ·cases hc
   have:=h.ok i b hi;unfold Ses.ok at this ⊢;rw[he];exact this
  ·exact h.ok j c hc
def getS (S:Slots) (id:Int):Option Ses:=if 0<=id then (S[id.toNat]?).join else none
theorem lX {S:Slots} {id:Int} {b:Ses}:getS S id=some b↔0<=id/\S[id.toNat]? =some (some b):=by
 unfold getS
 grind
theorem UK:∀{S:Slots} {i:Nat} {b:Ses} (b':Ses) (k:Nat),S[i]? =some (some b)->live k (S.set i (some b'))=(live k S).map λx=>if x.1=((k+i:Nat):Int) then (x.1,b') else x
 |[],_,_,_,_,h=>by simp at h
 |none::r,0,b,b',k,h=>by simp at h
 |some c::r,0,b,b',k,h=>by
  have u:∀x∈live (k+1) r,(if x.1=((k+0:Nat):Int) then (x.1,b') else x)=x:=by
   rintro⟨v,b⟩ hx;obtain⟨j,_,hj⟩:=kY.1 hx
   grind
  rw[af5,live,live,akh,adZ (by simp),List.map_congr_left u,List.map_id']
 |none::r,i+1,b,b',k,h=>by
  rw[ahm,live,live,UK b' (k+1) (by simpa using h),show k+1+i=k+(i+1) by omega]
 |some c::r,i+1,b,b',k,h=>by
  rw[ahm,live,live,akh,UK b' (k+1) (by simpa using h),show k+1+i=k+(i+1) by omega,acZ (by omega)]
theorem DF:∀(S:Slots) (k:Nat),(live k S).Pairwise (λx y=>x.1<y.1)/\∀x∈live k S,(k:Int)<=x.1
 |[],_=>by simp[live]
 |none::r,k=>by
  have:=DF r (k+1);refine⟨this.1,λx hx=> ?_⟩;have:=this.2 x hx;omega
 |some b::r,k=>by
  have:=DF r (k+1);rw[live];refine⟨anc.2 ⟨λx hx=>by grind,this.1⟩,λx hx=> ?_⟩
  grind
def ids (S:Slots) (k:Int):List Int:=((live 0 S).filter λx=>x.2.bd==k).map (·.1)
theorem qU (S:Slots) (k:Int):(ids S k).Pairwise (·<·):=by
 unfold ids;rw[List.pairwise_map];exact((DF S 0).1.filter _)
theorem zG {S:Slots} {k v:Int}:v∈ids S k↔∃(i:Nat) (b:Ses),S[i]? =some (some b)/\v=(i:Int)/\b.bd=k:=by
 unfold ids;rw[alp];constructor
 ·rintro⟨⟨v',b⟩,h,rfl⟩;obtain⟨h1,h2⟩:=al1.1 h;obtain⟨i,h3,h4⟩:=kY.1 h1
  grind
 ·rintro⟨i,b,h1,rfl,h2⟩;exact⟨((i:Int),b),al1.2 ⟨kY.2 ⟨i,h1,by omega⟩,by simp_all⟩,rfl⟩
theorem KH {l m:List Int} (hl:l.Pairwise (·<·)) (hm:m.Pairwise (·<·)) (h:∀v,v∈l↔v∈m):l=m:=by
 induction l generalizing m with
 |nil=>
  cases m with
  |nil=>rfl
  |cons a m=>have:=(h a).2 (by simp);simp at this
 |cons a l ih=>
  cases m with
  |nil=>grind
  |cons b m=>
   rw[anc] at hl hm;have h1:=(h a).1 (by simp);have h2:=(h b).2 (by simp)
   grind
theorem ah1 {S:Slots} {i:Nat} {b:Ses} (hi:S[i]? =some none) {p:Nat} (h1:∀(j:Nat) v,j<p->(ids S b.bd)[j]? =some v->v<(i:Int)) (h2:∀(j:Nat) v,p<=j->(ids S b.bd)[j]? =some v->¬v<(i:Int)) (hp:p<=(ids S b.bd).length):
  ids (S.set i (some b)) b.bd=(ids S b.bd).take p++(i:Int)::(ids S b.bd).drop p:=by
 have hl:=(afg.1 hi).1;have hni:(i:Int)∉ids S b.bd:=λh=>by
  obtain⟨j,c,hc,hj,_⟩:=zG.1 h
  grind
 have hs:=qU S b.bd;refine KH (qU _ _) ?_ λv=> ?_
 ·rw[List.pairwise_append,anc];refine⟨hs.sublist (List.take_sublist ..),⟨λq hq=> ?_,hs.sublist (List.drop_sublist ..)⟩,λq hq r hr=> ?_⟩
  ·obtain⟨k,hk⟩:=amo hq
   grind
  ·obtain⟨k,hk,he⟩:=am0.1 hq;have u:=h1 k q (by omega) (by grind);rcases agI.1 hr with rfl|hr
   ·exact u
   ·obtain⟨k',hk'⟩:=amo hr
    grind
 ·rw[zG,alj,agI,<- or_assoc,or_right_comm,or_comm,<- alj,aks,zG]
  grind
theorem WV {S:Slots} {i:Nat} {b:Ses} (hi:S[i]? =some none) {k:Int} (hk:k≠b.bd):ids (S.set i (some b)) k=ids S k:=by
 have hl:=(afg.1 hi).1;refine KH (qU _ _) (qU _ _) λv=> ?_;rw[zG,zG]
 grind
theorem UC {S:Slots} {i:Nat} {b:Ses} (hi:S[i]? =some (some b)) (k:Int):ids (S.set i none) k=(ids S k).filter λv=>v !=(i:Int):=by
 have hl:=(afg.1 hi).1;refine KH (qU _ _) ((qU S k).filter _) λv=> ?_;rw[zG,al1,zG]
 grind
theorem Qc {S:Slots} {i:Nat} {b:Ses} (hi:S[i]? =some (some b)) {k:Int} (hk:k≠b.bd):ids (S.set i none) k=ids S k:=by
 rw[UC hi,ane];intro v hv;obtain⟨j,c,hc,rfl,hb⟩:=zG.1 hv
 grind
theorem adr {S:Slots} {i:Nat} {b b':Ses} (hi:S[i]? =some (some b)) (he:b'.bd=b.bd) (k:Int):ids (S.set i (some b')) k=ids S k:=by
 have hl:=(afg.1 hi).1;refine KH (qU _ _) (qU _ _) λv=> ?_;rw[zG,zG]
 grind
theorem SQ (S:Slots) (k:Int):(ids S k).length<=S.length:=by
 unfold ids;rw[aiz];exact akK (anf ..) (jL S 0)
end Gp.Ses
end
section
namespace Go.Proofs.SN
open Gp Gp.Hash
abbrev eI (x:Int):List Value:=[Β x]
theorem jJ (x:Int):(eI x).length=1:=rfl
theorem IV (x:Int):∀v∈eI x,iP v=true:=by intro v hv;rw[alk.1 hv];rfl
theorem SlN_ix {α:Type} {n:Nat} {f:α->List Value} {w:θ} {s:gG} {xs:List α} (hn:∀x,(f x).length=n) (hn0:0<n) (h:ny n f w s xs) {i:Int} {K:Addr->Prop} {x:α} (h0:0<=i) (hx:xs[i.toNat]? =some x)
  (hK:∀a:Addr,(∀j v,(f x)[j]? =some v->w.cell? (a.add j)=some v)->K a):iK s n i K:=by
 obtain⟨a,ha,hc⟩:=h.at_ hn hn0 hx;have hlt:=(afg.1 hx).1;obtain⟨sa,sl,sc⟩:=s;simp only at ha;subst ha;have hl:sl=xs.length:=h.len;refine(yg ..).2 ⟨h0,by omega,hK _ λj v hj=> ?_⟩;rw[<- hc j v hj];congr 1;obtain⟨b,o,t⟩:=a;unfold Addr.add;by_cases h1:i.toNat * n=0<;>by_cases h2:j=0<;>simp[h1,h2,al8]
theorem ahY {a b:Nat} (h:a+b<=2^40):ο.wrap (jR .u64 (IntKind.u64.wrap (ο.wrap ((a:Int)+(b:Int)))) 1)=(((a+b) / 2:Nat):Int):=by
 rw[Α (n:=(a:Int)+(b:Int)) (by omega) (by omega)];have h1:IntKind.u64.wrap ((a:Int)+(b:Int))=((a+b:Nat):Int):=by
  simp only[IntKind.wrap,IntKind.bits,IntKind.signed,Bool.false_and,Bool.false_eq_true,aku];omega
 rw[h1];have h2:jR .u64 ((a+b:Nat):Int) 1=(((a+b) / 2:Nat):Int):=by
  unfold jR;have:min (1:Int).toNat IntKind.u64.bits=1:=rfl
  grind
 rw[h2,Α]
theorem OG (a:Int) (w:θ):nD a w λr w'=>r=false/\w'=w:=by
 apply EX;simp
theorem aev {w:θ} {s:gG} {xs:List Int} {y:Int} {vb i:Nat} (hs:jc 1 eI w s xs) (hy:Row w vb (eI y)) (hv:∀b,gG.at s b->b≠vb) (hi:i<=xs.length) (hl:xs.length<=2^30):
  qg s (i:Int) ⟨some ⟨vb,0,none⟩,1,1⟩ w λr w'=>jc 1 eI w' r (xs.take i++y::xs.drop i)/\ig w w' (gG.at s)/\∀b,gG.at r b->gG.at s b\/w.heap.size<=b:=by
 apply ED;have hlen:=hs.len;have ab:=hs.sl jJ (by omega);have U:=ab.cap;have ac:=(jc.row (xs:=[y]) (by simpa using hy)).sl jJ (by omega);refine ac2 jJ ab (by omega) (by omega) (by omega) λs4 _=> ?_;simp only;rw[show (((1:Nat):Int)==0)=false from rfl,aaf];by_cases he:(i:Int)=(s.len:Int)
 ·rw[show ((i:Int)==(s.len:Int))=true by simp_all,abt];refine mO jJ hs ac rfl (by omega) IV (by grind) (by grind) λs' w' h1 h2 h3=> ?_;refine⟨?_,h2,h3⟩;rw[ali (by omega),List.drop_of_length_le (by omega)];exact h1
 rw[show ((i:Int)==(s.len:Int))=false by simp_all,aaf];have hi':i<xs.length:=by omega
 have hx:=adP hi';generalize xs[i]=x at hx;obtain⟨b,pad,ha,hc,hr⟩:∃b pad,s.a=some ⟨b,0,none⟩/\s.cap * 1=xs.length * 1+pad.length/\Row w b (xs.flatMap eI++pad):=by
  rcases hs.mem with ⟨_,h,_⟩|h
  ·omega
  ·exact h
 have ae:=hv b ⟨0,ha⟩;obtain⟨sa,sl,sc⟩:=s;simp only at ha hc hlen U he;subst ha;subst hlen;have lt:=jh eI 1 jJ (xs.take i);have ld:=jh eI 1 jJ (xs.drop i);have ld1:=jh eI 1 jJ (xs.drop (i+1));rw[ajH,amb (by omega)] at lt;rw[al2] at ld ld1;have oned:∀v∈(xs.drop i).flatMap eI,iP v=true:=λv hv=>by
  obtain⟨z,_,hz⟩:=List.mem_flatMap.1 hv;exact IV z v hz
 rw[Α (n:=(xs.length:Int)+((1:Nat):Int)) (by omega) (by omega)];by_cases hg:(xs.length:Int)+((1:Nat):Int)>(sc:Int)
 ·rw[aff hg,abt];refine⟨by trivial,by omega,by grind,?_⟩;rw[Α,show ((xs.length:Int)+((1:Nat):Int)) - (i:Int)=((xs.length+1 - i:Nat):Int) by omega];simp only[abu,amI,amg];have W:rP (some (⟨b,0,none⟩:Addr)) sc 0 1=some ⟨b,0,none⟩:=by
   unfold rP;split<;>simp[Addr.add]
  rw[W];have Y:oL w (some ⟨b,0,none⟩) (i * 1) ((xs.take i).flatMap eI):=by
   refine PY (A:=[]) (C:=(xs.drop i).flatMap eI++pad) ?_ rfl lt;rw[Y8,aky] at hr;exact hr
  refine Tt (by grind) (by grind) (by grind) Y λc w1 hc1 r1 f1 z1=> ?_;simp only at hc1 r1 ⊢;rw[show i+(xs.length+1 - i)=xs.length+1 by omega] at hc1 r1 ⊢;obtain⟨k,hk⟩:∃k,xs.length+1 - i=k+1:=⟨xs.length - i,by omega⟩;rw[hk] at r1;have u:∀j:Nat,j<c->rP (some (⟨w.heap.size,0,none⟩:Addr)) c j 1=some ⟨w.heap.size,j * 1,none⟩:=by
   intro j hj;unfold rP;rw[acZ (by omega),ahF,gY,ahn]
  refine⟨by omega,by omega,by grind,?_⟩;simp only[abu];rw[u i (by omega)];have r1':Row w1 w.heap.size ((xs.take i).flatMap eI++([Β 0]++(iw [Β 0] k++iw [Β 0] (c - (xs.length+1))))):=by
   simpa [iw] using r1
  have Z:=ac.ext f1;refine Bh (m:=1) (by simp_all) (by have:=Z.cells;simpa using this) r1' (by simp_all) (IV y) λw2 r2 f2=> ?_;rw[<- lt,KI (by rfl)] at r2;rw[Α,show (i:Int)+((1:Nat):Int)=((i+1:Nat):Int) by omega];refine⟨by omega,by omega,by grind,?_⟩;simp only[abu];rw[u (i+1) (by omega)];have hr2:=((hr.ext f1).fr f2 (by have:=hr.lt;omega)).drew;refine⟨by omega,by omega,by grind,?_⟩;simp only[abu];have J:rP (some (⟨b,0,none⟩:Addr)) sc i 1=some ⟨b,i * 1,none⟩:=by
   unfold rP;rw[acZ (by omega),ahF,gY,ahn]
  rw[J];have I:oL w2.drew (some ⟨b,i * 1,none⟩) ((xs.length - i) * 1) ((xs.drop i).flatMap eI):=by
   refine PY (C:=pad) ?_ lt ld;rw[Y8,aky] at hr2;exact hr2
  have r2':Row w2.drew w.heap.size (((xs.take i).flatMap eI++eI y)++(iw [Β 0] k++iw [Β 0] (c - (xs.length+1)))):=by
   rw[aky];exact r2.drew
  have lA:((xs.take i).flatMap eI++eI y).length=(i+1) * 1:=by simp_all
  have lk:(iw [Β 0] k).length=((xs.drop i).flatMap eI).length:=by rw[n_,ld];grind
  refine Bh (by simp) I r2' (by grind) oned λw3 r3 f3=> ?_;rw[<- lA,KI lk] at r3;have f23:=(f2.ext (Ext.drew w2)).trans f3 λ_ _ e=>e;refine⟨⟨by simp;omega,.inr ⟨w.heap.size,iw [Β 0] (c - (xs.length+1)),rfl,?_,?_⟩⟩,f1.new f23 (by omega) _,λb' hb'=> ?_⟩
  ·rw[n_];grind
  ·rw[alR,alx];simpa using r3
  ·obtain⟨o,e⟩:=hb'
   simp_all
 ·rw[adX hg,aaf];obtain⟨p1,p2,hp,lp1⟩:∃p1 p2,pad=p1++p2/\p1.length=1:=⟨pad.take 1,pad.drop 1,(aks 1 pad).symm,by grind⟩;subst hp;refine⟨by trivial,by omega,by simp_all,?_⟩;rw[Α,show (i:Int)+((1:Nat):Int)=((i+1:Nat):Int) by omega];have N:rP (some (⟨b,0,none⟩:Addr)) sc 0 1=some ⟨b,0,none⟩:=by
   unfold rP;split<;>simp[Addr.add]
  have u:∀j:Nat,j<sc->rP (some (⟨b,0,none⟩:Addr)) sc j 1=some ⟨b,j * 1,none⟩:=by
   intro j hj;unfold rP;rw[acZ (by omega),ahF,gY,ahn]
  simp only[amI,amg,N];refine⟨by omega,by omega,by simp_all,?_⟩;simp only[abu];rw[u (i+1) (by omega)];have O:xs.flatMap eI=(xs.take i).flatMap eI++(eI x++(xs.drop (i+1)).flatMap eI):=ab2 hx;refine WC Tryz.func270 (by kernel_rfl) (by kernel_rfl) (by kernel_rfl) (tS:=25) (tR:=4) (by kernel_rfl) (e:=3) (by kernel_rfl) (by kernel_rfl) hy hr (λe=>ae e.symm) (by
   simp_all) ?_
  refine⟨false,rfl,?_⟩;rw[afk,abt];refine⟨by omega,by omega,by simp_all,?_⟩;simp only[abu];rw[u (i+1) (by omega)];refine⟨by omega,by omega,by simp_all,?_⟩;simp only[abu];rw[u i (by omega)];have R:=hr.drew;have I:oL w.drew (some ⟨b,i * 1,none⟩) ((xs.length - i) * 1) ((xs.drop i).flatMap eI):=by
   refine PY (C:=p1++p2) ?_ lt ld;rw[Y8,aky] at R;exact R
  have r0:Row w.drew b (((xs.take i).flatMap eI++eI x)++(((xs.drop (i+1)).flatMap eI++p1)++p2)):=by
   rw[O] at R;simpa using R
  have lA:((xs.take i).flatMap eI++eI x).length=(i+1) * 1:=by simp_all
  have lB:((xs.drop (i+1)).flatMap eI++p1).length=((xs.drop i).flatMap eI).length:=by grind
  refine Bh (by grind) I r0 (by grind) oned λw2 r2 f2=> ?_;rw[<- lA,KI lB] at r2;refine⟨by omega,by omega,by simp_all,?_⟩;simp only[abu];rw[u i (by omega)];have hy2:=hy.drew.fr f2 (λe=>ae e.symm);have aa:=(jc.row (xs:=[y]) (by simpa using hy2)).sl jJ (by omega);have r2':Row w2 b ((xs.take i).flatMap eI++(eI x++((xs.drop i).flatMap eI++p2))):=by simpa using r2
  refine Bh (m:=1) (by grind) (by have:=aa.cells;simpa using this) r2' (by simp_all) (IV y) λw3 r3 f3=> ?_;rw[<- lt,KI (by rfl)] at r3;have f13:=((ig.drew w _).trans f2 λ_ _ e=>e).trans f3 λ_ _ e=>e;refine⟨⟨by simp;omega,.inr ⟨b,p2,rfl,?_,?_⟩⟩,f13.mono λc hc=>⟨0,by rw[hc]⟩,λb' hb'=> .inl ?_⟩
  ·grind
  ·rw[alR,alx];simpa using r3
  ·obtain⟨o,e⟩:=hb';exact⟨o,e⟩
theorem aew (a:Int) (w:θ):qN a w λr w'=>r=false/\w'=w:=by
 apply LP;simp
theorem ah_ (a b:Int) (w:θ):Bo a b w λr w'=>r=decide (a<b)/\w'=w:=by
 apply RJ;intro J;refine cmS0 (OG _ _) ?_;rintro r w' ⟨rfl,hw⟩;subst hw;rw[aaf];exact⟨rfl,rfl⟩
theorem Df {w:θ} {s:gG} {l:List Int} (h:ny 1 eI w s l) {k:Nat} {z:Int} (hk:l[k]? =some z) {K:Addr->Prop} (hK:∀a,w.cell? a=some (Β z)->K a):iK s 1 (k:Int) K:=
 SlN_ix jJ (by omega) h (by omega) (by trivial) λa hc=>hK a (hc 0 _ rfl)
theorem ajA {w:θ} {s:gG} {xs:List Int} (hs:ny 1 eI w s xs) (hl:xs.length<=2^30) (N:xs.Pairwise (·<·)) (v:Int):
  ni s v w λr _ w'=>(∃i:Nat,r=(i:Int)/\i<=xs.length/\(∀(k:Nat) u,k<i->xs[k]? =some u->u<v)/\∀(k:Nat) u,i<=k->xs[k]? =some u->¬u<v)/\w'=w:=by
 apply yJ;have hlen:=hs.len;have mono:∀(i j:Nat) (u u':Int),i<j->xs[i]? =some u->xs[j]? =some u'->u<u':=by
  intro i j u u' O h1 h2;obtain⟨g1,rfl⟩:=afg.1 h1;obtain⟨g2,rfl⟩:=afg.1 h2;exact am1.1 N i j g1 g2 O
 refine g_ (λst W=>∃i j:Nat,i<=j/\j<=xs.length/\st.1=(i:Int)/\st.2.1=(j:Int)/\W=w/\(∀(k:Nat) u,k<i->xs[k]? =some u->u<v)/\∀(k:Nat) u,j<=k->xs[k]? =some u->¬u<v)
  (λst _=>(st.2.1 - st.1).toNat) ⟨0,xs.length,by omega,by omega,rfl,by simp_all,rfl,λk u h=>by omega,λk u h hx=>by
   grind⟩ ?_
 rintro⟨i',j',⟨⟩⟩ W ⟨i,j,O,hj,hi1,hj1,rfl,hb,ha⟩ next I
 simp only at hi1 hj1;subst hi1 hj1;simp -zeta only[ahY (show i+j<=2^40 by omega)];by_cases R:(i:Int)<(j:Int)
 ·rw[aff R,abt];refine⟨by decide,?_⟩;have hm:(i+j) / 2<xs.length:=by omega
  have hx:=adP hm;generalize xs[(i+j) / 2]=u at hx;refine Df hs hx λa hc=> ?_;simp -zeta only[sx,hc];refine cmS0 (ah_ _ _ _) ?_;rintro r w' ⟨rfl,hw⟩;subst hw;by_cases hg:u<v
  ·rw[aff hg,abt,Α];refine I _ _ ⟨(i+j) / 2+1,j,by omega,hj,by simp,rfl,rfl,λk z hk hz=> ?_,ha⟩ (by grind)
   grind
  ·rw[adX hg,aaf];refine I _ _ ⟨i,(i+j) / 2,by omega,by omega,rfl,rfl,rfl,hb,λk z hk hz=> ?_⟩ (by grind)
   grind
 ·rw[adX R,aaf];have:i=j:=by omega
  subst this;intro J;have fin:∀b,J (i:Int) b W:=λb=>⟨⟨i,rfl,hj,hb,ha⟩,rfl⟩;clear_value J;by_cases hg:(i:Int)<(s.len:Int)
  ·rw[aff hg,abt];have hx:=adP (show i<xs.length by omega);generalize xs[i]=u at hx;refine Df hs hx λa hc=> ?_;simp -zeta only[sx,hc];by_cases he:u=v
   ·rw[show (u==v)=true by simp_all,abt];exact fin _
   ·rw[show (u==v)=false by simp_all,aaf];refine Df hs hx λa hc=> ?_;simp -zeta only[gJ,gK,hc];refine cmS0 (aew _ _) ?_;rintro r w' ⟨rfl,hw⟩;subst hw;rw[aaf];exact fin _
  ·rw[adX hg,aaf];exact fin _
theorem PZ {w:θ} {s:gG} {xs:List Int} (hs:ny 1 eI w s xs) (hl:xs.length<=2^30):
  nV s w λr w'=>Ext w w'/\jc 1 eI w' r xs/\∀b,gG.at r b->w.heap.size<=b:=by
 apply Fb;have hlen:=hs.len
 cases ha:s.a with
 |none=>
  have hc:=hs.cells;rw[ha] at hc;have h0:=hc;have u:=jh eI 1 jJ xs;rw[h0] at u;have:xs=[]:=by
   grind
  subst this;simp only[ana,abt];exact⟨Ext.refl _,jc.nil,λb ⟨o,hb⟩=>by cases hb⟩
 |some a=>
  simp only[amG,aaf];refine gU λt w1 rt et zt f1=> ?_;have hb:jc 1 eI w1 ⟨some ⟨t,0,none⟩,0,0⟩ ([]:List Int):=jc.row (xs:=[]) rt;refine mO jJ hb (hs.ext f1) rfl (by omega) IV (by grind) (by grind) λs' w' h1 h2 h3=> ?_;refine⟨f1.new h2 λb hb ⟨o,he⟩=>by simp_all,h1,λb hb=> ?_⟩;rcases h3 b hb with ⟨o,he⟩|h
  ·simp_all
  ·omega
theorem ak2 (l:List Int):l.flatMap eI=l.map λx=>Β x:=by
 induction l with
 |nil=>rfl
 |cons a l ih=>simp_all
theorem ϓ {w:θ} {b o n c:Nat} {L:List Value} {K:b_} (hr:Row w b L) (ho:o+n<=L.length) (hK:∀w',Row w' b (spl L o (iw [Β 0] n))->ig w w' (·=b)->K w'):JX [Β 0] ⟨some ⟨b,o,none⟩,n,c⟩ w K:=by
 have hrl:(iw [Β 0] n).length=n:=by rw[n_];simp
 refine⟨?_,by trivial,?_⟩
 ·rintro a ha
  cases ha
  intro j hj;simp only[ajg,amn] at hj;rw[gY,hr.cell];exact⟨by simp;omega,hr.frozen _⟩
 ·obtain⟨r,f⟩:=xJ (iw [Β 0] n) w L o 0 hr (by omega);refine hK _ ?_ (f (·=b) rfl);simpa [spl] using r
def FnI (v:Value) (C:b_) (p:Int->Bool):Prop:=∀x W (K:Value->b_),C W->K (.bool (p x)) W->jF υ [.one .bool] v [Β x] W K
theorem ajN {w:θ} {s:gG} {xs:List Int} {v:Value} {p:Int->Bool} {C:b_} (hs:ny 1 eI w s xs) (hl:xs.length<=2^30) (hp:FnI v C p) (hC:C w):
  ku s v w λr w'=>((r= -1/\xs.any p=false)\/∃j:Nat,r=(j:Int)/\j<xs.length/\(xs.take j).any p=false/\(xs.take (j+1)).filter (λx=> !p x)=xs.take j)/\w'=w:=by
 apply sS;have hlen:=hs.len;refine g_ (λst W=>∃j:Nat,j<=xs.length/\st.1=(j:Int)/\W=w/\(xs.take j).any p=false) (λst _=>(s.len - st.1).toNat) ⟨0,by omega,rfl,rfl,by simp⟩ ?_;rintro⟨i,⟨⟩⟩ W ⟨j,hj,hi,rfl,hm⟩ next h
 simp only at hi;subst hi;by_cases u:(j:Int)<(s.len:Int)
 ·simp only[u,acI,abt];have hx:=adP (show j<xs.length by omega);generalize xs[j]=x at hx;have htk:xs.take (j+1)=xs.take j++[x]:=by rw[al3,hx];rfl
  refine Df hs hx λa hc=> ?_;simp only[sx,hc];refine hp x W _ hC ⟨p x,rfl,?_⟩
  cases he:p x
  ·simp only[aaf];rw[Α];refine h _ _ ⟨j+1,by omega,by simp,rfl,?_⟩ (by omega)
   simp_all
  ·simp only[abt];refine⟨.inr ⟨j,rfl,by omega,hm,?_⟩,by trivial⟩
   simp_all
 ·simp only[u,acR,aaf]
  grind
theorem ahG {w:θ} {s:gG} {xs:List Int} {v:Value} {p:Int->Bool} {C:b_} (hs:jc 1 eI w s xs) (hl:xs.length<=2^30) (hp:FnI v C p) (hC:∀W,ig w W (gG.at s)->C W):
  nX s v w λr w'=>jc 1 eI w' r (xs.filter λx=> !p x)/\ig w w' (gG.at s)/\∀b,gG.at r b->gG.at s b:=by
 apply Ag;have hlen:=hs.len;have ae:=hs.sl jJ (by omega);have U:=ae.cap;refine cmS1 (ajN ae hl hp (hC w (ig.refl _ _))) ?_;rintro r w' ⟨h,hw⟩;subst hw;rcases h with ⟨rfl,hno⟩|⟨i0,rfl,hi0,hany,Y⟩
 ·rw[show ((-1:Int)== -1)=true from rfl,abt];refine⟨?_,ig.refl _ _,λb hb=>hb⟩;rw[ane.2 (λy hy=>by simp_all)];exact hs
 rw[show ((i0:Int)== -1)=false from amH.2 (by omega),aaf];obtain⟨b,pad,ha,hc,hr⟩:∃b pad,s.a=some ⟨b,0,none⟩/\s.cap * 1=xs.length * 1+pad.length/\Row w' b (xs.flatMap eI++pad):=by
  rcases hs.mem with ⟨_,h,_⟩|h
  ·simp_all
  ·exact h
 obtain⟨sa,sl,sc⟩:=s;simp only at ha hc hlen U;subst ha;subst hlen;rw[ak2] at hr;rw[Α];have af:∀{W},ig w' W (·=b)->ig w' W (gG.at ⟨some ⟨b,0,none⟩,xs.length,sc⟩):=λhf=>hf.mono λc hc=>⟨0,by rw[hc]⟩;refine g_ (λst W=>∃j:Nat,j<=xs.length/\st.2.1=(j:Int)/\st.1=(((xs.take j).filter λx=> !p x).length:Int)/\((xs.take j).filter λx=> !p x).length<j/\ig w' W (·=b)/\∃mid,mid.length=j - ((xs.take j).filter λx=> !p x).length/\Row W b ((((xs.take j).filter λx=> !p x).map λx=>Β x)++(mid++(((xs.drop j).map λx=>Β x)++pad))))
  (λst _=>(xs.length - st.2.1).toNat) ⟨i0+1,by omega,by simp,by grind,by grind,ig.refl _ _,?_⟩ ?_
 ·rw[Y,ajH,amb (by omega)];have hx:=adP hi0;refine⟨[Β xs[i0]],by simp,?_⟩;have:xs.map (λx=>Β x)=(xs.take i0).map (λx=>Β x)++(Β xs[i0]::(xs.drop (i0+1)).map λx=>Β x):=by
   conv=>lhs;rw[<- aks i0 xs,amc hi0,al4,akh]
  rw[this] at hr;simpa using hr
 rintro⟨i',j',⟨⟩⟩ W ⟨j,hj,hj1,hi1,hij,hf,mid,Z,I⟩ next u
 simp only at hj1 hi1;subst hj1 hi1;generalize aa:(xs.take j).filter (λx=> !p x)=kp at *;have ai:(kp.map λx=>Β x).length=kp.length:=aiz ..;by_cases ag:(j:Int)<(xs.length:Int)
 ·rw[aff ag,abt];intro J;have hx:=adP (show j<xs.length by omega);have ah:=amc (show j<xs.length by omega);generalize xs[j]=x at hx ah;have htk:xs.take (j+1)=xs.take j++[x]:=by grind
  rw[ah,akh] at I;have N:W.cell? ⟨b,j,none⟩=some (Β x):=by
   rw[I.cell,alh (by omega),alh (by omega),show j - (kp.map λx=>Β x).length - mid.length=0 by omega];rfl
  refine(yg _ xs.length sc _ (j:Int) _).2 ⟨by omega,by omega,?_⟩;rw[gY,ahn,abu,aiC];simp -zeta only[sx,N];refine hp x W _ (hC W (af hf)) ⟨p x,rfl,?_⟩
  cases he:p x
  ·rw[afk,abt];have R:(xs.take (j+1)).filter (λx=> !p x)=kp++[x]:=by simp_all
   refine⟨by omega,by omega,?_⟩;rw[abu,aiC];refine iC I rfl (by grind) λW2 r2 g2 z2=> ?_;obtain⟨m0,ms,aj⟩:∃m0 ms,mid=m0::ms:=by
    cases mid with
    |nil=>grind
    |cons a l=>simp
   subst aj;rw[ami _ _ (by omega),ai,Nat.sub_self] at r2;simp only[alY,af5] at r2;simp only[J];rw[Α,Α];simp only[ajg] at Z;refine u _ _ ⟨j+1,by omega,by simp,by simp_all,by simp_all,hf.trans (g2 (·=b) rfl) λ_ _ e=>e,ms++[Β x],by simp_all,?_⟩ (by grind);rw[R];simpa using r2
  ·rw[adt,aaf];have R:(xs.take (j+1)).filter (λx=> !p x)=kp:=by simp_all
   simp only[J];rw[Α];refine u _ _ ⟨j+1,by omega,by simp,by rw[R],by grind,hf,mid++[Β x],by grind,?_⟩ (by grind);rw[R];simpa using I
 ·rw[adX ag,aaf];have ak:j=xs.length:=by omega
  subst ak;rw[alo] at aa;rw[List.drop_length,List.map_nil,amd] at I;refine⟨by omega,by grind,by grind,?_⟩;simp only[abu];have am:sc≠kp.length:=by omega
  have ab:rP (some (⟨b,0,none⟩:Addr)) sc kp.length 1=some ⟨b,kp.length,none⟩:=by
   unfold rP;rw[acZ am,ahF,gY,ahn,aiC]
  rw[ab];refine ϓ I (by simp_all) λW2 r2 g2=> ?_;have hrl:(iw [Β 0] (xs.length - kp.length)).length=xs.length - kp.length:=by rw[n_];simp
  have ac:spl ((kp.map λx=>Β x)++(mid++pad)) kp.length (iw [Β 0] (xs.length - kp.length))=(kp.map λx=>Β x)++(iw [Β 0] (xs.length - kp.length)++pad):=by
   have:=KI (A:=kp.map λx=>Β x) (B:=mid) (C:=pad) (vs:=iw [Β 0] (xs.length - kp.length)) (by omega)
   simp_all
  rw[ac] at r2;refine⟨by trivial,by omega,by grind,?_⟩;have O:rP (some (⟨b,0,none⟩:Addr)) sc 0 1=some ⟨b,0,none⟩:=by
   unfold rP;split<;>simp[Addr.add]
  simp only[abu,amI,amg,O];refine⟨⟨by rw[aa],.inr ⟨b,iw [Β 0] (xs.length - kp.length)++pad,rfl,?_,?_⟩⟩,af (hf.trans g2 λ_ _ e=>e),λc hc=> ?_⟩
  ·grind
  ·rw[ak2,aa];exact r2
  ·obtain⟨o,e⟩:=hc;exact⟨o,e⟩
theorem ajz (m:Nat):V4.kC 8 m=V4.kC 4 (m / 4294967296)++V4.kC 4 (m % 4294967296):=by
 simp only[V4.kC,alY,amd,amh,amf];refine⟨?_,?_,?_,?_,?_,?_,?_,?_⟩<;>apply UInt8.toNat_inj.1<;>simp<;>omega
theorem agp {x:Int} (h:Bind.In64 x):lZ .i64 (jR .i64 x 32) 4294967295=(((x % 18446744073709551616).toNat / 4294967296:Nat):Int)/\lZ .i64 x 4294967295=(((x % 18446744073709551616).toNat % 4294967296:Nat):Int):=by
 obtain⟨h1,h2⟩:=h;have low:∀y:Int,lZ .i64 y 4294967295=(((y % 18446744073709551616).toNat % 4294967296:Nat):Int):=by
  intro y;unfold lZ;have e1:(BitVec.ofInt (IntKind.bits .i64) y).toNat=(y % 18446744073709551616).toNat:=by rfl
  have e2:(BitVec.ofInt (IntKind.bits .i64) 4294967295).toNat=2^32 - 1:=by rfl
  rw[amx,e1,e2,JZ];rw[Α]
 refine⟨?_,low x⟩;rw[low];unfold jR;have e:(2:Int)^(min (32:Int).toNat (IntKind.bits .i64))=4294967296:=by decide
 rw[e,amX _ (by omega)];omega
theorem Μ (bd ra rp:Int) (hr:∀n∈[bd,ra,rp],Bind.In64 n) (w:θ):vN bd ra rp w λr w'=>r=Bind.keyS [bd,ra,rp]/\Ext w w':=by
 apply Vz;refine gU λa w1 r1 e1 z1 f1=> ?_;simp only[XP,gY,ahn,d_,gJ,gK,r1.cell];refine gU λb w2 h e2 z2 f2=> ?_;have f12:=f1.trans f2;obtain⟨ns,J⟩:∃ns:List Int,ns=[bd,ra,rp]:=⟨_,rfl⟩;have hl:ns.length<=10:=by simp_all
 have hl3:ns.length=3:=by rw[J];rfl
 have h:Row w2 b (ns.map λn=>Β n):=by rw[J];exact h
 rw[<- J] at hr ⊢;have e3:(3:Int)=(ns.length:Int):=by omega
 have e3n:(⟨some ⟨b,0,none⟩,3,3⟩:gG)=⟨some ⟨b,0,none⟩,ns.length,3⟩:=by rw[hl3]
 rw[e3n,e3];refine g_ (λst W=>∃i:Nat,i<=ns.length/\st.2.1=(i:Int)/\iH W st.1 (Bind.keyB (ns.take i))/\Ext w2 W) (λst _=>ns.length - st.2.1.toNat) ⟨0,by omega,rfl,iH.nil,Ext.refl _⟩ ?_;rintro⟨s,x,⟨⟩⟩ W ⟨i,hi,rfl,hs,hx⟩ next I
 have hs:=hs;by_cases N:i<ns.length
 ·have u:((i:Int)<(ns.length:Int)):=by omega
  simp only[sx,u,acI,abu,aiC,(h.ext hx).cell,aiK,adP N,ahF];refine⟨by omega,by trivial,by omega,?_⟩;obtain⟨e1,e2⟩:=agp (hr _ (akU N));rw[e1,e2];generalize hm:(ns[i] % 18446744073709551616).toNat=m;have hm2:m<18446744073709551616:=by omega
  have kl:=Bind.OH (ns.take i);have kl2:(ns.take i).length<=10:=by simp;omega
  refine cmS2 (Ah hs (by omega) _ 4) ?_;rintro t1 w1 ⟨b1,f1,_⟩;have p1:mP (Bind.keyB (ns.take i)) ((m / 4294967296:Nat):Int) 4=Bind.keyB (ns.take i)++V4.kC 4 (m / 4294967296):=by
   unfold mP;rw[adZ ⟨⟨by omega,by omega⟩,by omega,by simp;omega⟩];rfl
  rw[p1] at b1;refine cmS2 (Ah (iH.iM b1) (by simp[V4.jf];omega) _ 4) ?_;rintro t2 w2 ⟨b2,f2,_⟩;have p2:mP (Bind.keyB (ns.take i)++V4.kC 4 (m / 4294967296)) ((m % 4294967296:Nat):Int) 4=Bind.keyB (ns.take i)++V4.kC 4 (m / 4294967296)++V4.kC 4 (m % 4294967296):=by
   unfold mP;rw[adZ ⟨⟨by omega,by omega⟩,by omega,by simp;omega⟩];rfl
  rw[p2] at b2;rw[Α];refine I _ _ ⟨i+1,by omega,by simp,?_,(hx.trans f1).trans f2⟩ (by grind);have ek:Bind.keyB (ns.take (i+1))=Bind.keyB (ns.take i)++V4.kC 4 (m / 4294967296)++V4.kC 4 (m % 4294967296):=by
   rw[akx N];unfold Bind.keyB;rw[alR,List.flatMap_singleton,hm,ajz,aky]
  rw[ek];exact iH.iM b2
 ·have u:¬((i:Int)<(ns.length:Int)):=by omega
  simp only[u,acR,aaf];have:i=ns.length:=by omega
  subst this;rw[alo] at hs;exact QO hs ⟨rfl,f12.trans hx⟩
theorem rU (l:List Int) (h:l.length<=10):(Bind.keyS l).size<=2^63 - 1:=by
 have:(Bind.keyS l).size=(Bind.keyB l).length:=rfl;rw[this,Bind.OH];omega
end Go.Proofs.SN
end
section
namespace Go.Proofs.SN
open Gp Gp.Hash
open Gp.Ses (Ses Slots live GoodS freeN getS ids)
open Gp.Bind (In64)
def iV:Option Ses->List Value
 |none=>anA
 |some b=>[Β b.bd,Β b.st,Β b.un,Β b.ra,Β b.rp,.bool true]
theorem lY (o:Option Ses):(iV o).length=6:=by cases o<;>rfl
theorem QI (o:Option Ses):(iV o).all iP=true:=by cases o<;>rfl
theorem CP (o:Option Ses):(iV o)[5]? =some (.bool o.isSome):=by cases o<;>rfl
def encI (k:Int):Value:= Β k
def slV (s:gG):Value:= Δ s
abbrev OL:=List (Int×gG)
theorem eqI (a b:Int):Fz υ 16 3 (encI a) (encI b)=some (decide (a=b)):=by
 have h:Fz υ 16 3 (Β a) (Β b)=some (a==b):=by kernel_rfl
 rw[encI,encI,h];congr 1
theorem ajW (a:Int):oJ υ 3 (encI a)=true:=by
 have h:oJ υ 3 (Β a)=true:=by kernel_rfl
 exact h
def ownB (l:OL) (b:Nat):Prop:=∃k s,mg l k=some s/\gG.at s b
structure FD (w:θ) (m:Nat) (l:OL) (S:Slots):Prop where
 mp:rV encI slV w m l
 nd:(l.map (·.1)).Nodup
 has:∀k s,mg l k=some s->jc 1 eI w s (ids S k)
 non:∀k,mg l k=none->ids S k=[]
 ap:∀k k' s s' b,k≠k'->mg l k=some s->mg l k'=some s'->gG.at s b->¬gG.at s' b
 ne:∀b,ownB l b->b≠m
section
variable {w w':θ} {m:Nat} {l:OL} {S S':Slots}
theorem FD.fr {F:Nat->Prop} (h:FD w m l S) (hf:ig w w' F) (hm:¬F m) (ho:∀b,ownB l b->¬F b):FD w' m l S:=
 ⟨h.mp.fr hf hm,h.nd,λk s hk=>(h.has k s hk).fr hf λb hb=>ho b ⟨k,s,hk,hb⟩,h.non,h.ap,h.ne⟩
theorem FD.lt (h:FD w m l S) {b:Nat} (hb:ownB l b):b<w.heap.size:=by
 obtain⟨k,s,hk,hs⟩:=hb;exact(h.has k s hk).lt hs
def lkS (l:OL) (k:Int):gG:=(mg l k).getD ⟨none,0,0⟩
theorem Qg {k:Int} {b:Nat} (h:gG.at (lkS l k) b):∃s,mg l k=some s/\lkS l k=s/\gG.at s b:=by
 unfold lkS at h ⊢
 cases hl:mg l k with
 |none=>rw[hl] at h;obtain⟨o,ho⟩:=h;cases ho
 |some s=>simp_all
theorem FD.buf (h:FD w m l S) (k:Int):jc 1 eI w (lkS l k) (ids S k):=by
 unfold lkS
 cases hl:mg l k with
 |none=>rw[h.non k hl];exact jc.nil
 |some s=>exact h.has k s hl
theorem FD.get (h:FD w m l S) (k:Int) {K:gG->Prop} (hK:K (lkS l k)):qF υ 3 .slice (some m) (Β k) (.slice none 0 0) w K:=by
 refine EL h.mp eqI k (ajW k) ?_ ?_
 ·intro hl;rw[lkS,hl] at hK;rw[h_];exact hK
 ·intro s hl;rw[lkS,hl] at hK;rw[slV,h_];exact hK
theorem FD.set (h:FD w m l S) {bd:Int} {s':gG} {F:Nat->Prop} (hf:ig w w' F) (hm:¬F m) (ho:∀b,ownB l b->F b->gG.at (lkS l bd) b) (hb:jc 1 eI w' s' (ids S' bd)) (hn:∀b,gG.at s' b->gG.at (lkS l bd) b\/w.heap.size<=b)
  (hS:∀k,k≠bd->ids S' k=ids S k) {K:b_} (hK:∀w2,FD w2 m (CS l bd s') S'->ig w' w2 (·=m)->w2.heap.size=w'.heap.size->K w2):pq υ 3 (some m) (Β bd) (.slice s'.a s'.len s'.cap) w' K:=by
 have mlt:=h.mp.lt;have old:∀b,gG.at (lkS l bd) b->ownB l b:=λb hb=>by
  obtain⟨s,h1,_,h2⟩:=Qg hb;exact⟨bd,s,h1,h2⟩
 have nm:∀b,gG.at s' b->b≠m:=λb hb e=>by
  rcases hn b hb with h1|h1
  ·exact h.ne b (old b h1) e
  ·omega
 have ap:∀k s b,k≠bd->mg l k=some s->gG.at s b->¬gG.at s' b:=λk s b hk hl hs hb=>by
  rcases hn b hb with h1|h1
  ·obtain⟨s2,g1,_,g2⟩:=Qg h1;exact h.ap k bd s s2 b hk hl g1 hs g2
  ·have:=h.lt ⟨k,s,hl,hs⟩;omega
 refine zJ (h.mp.fr hf hm) eqI bd s' (ajW bd) λw2 g2 f2 z2=> ?_;refine hK w2 ⟨g2,Pz h.nd bd s',λk s hk=> ?_,λk hk=> ?_,λk k' s s2 b u h1 h2 h3=> ?_,λb hb=> ?_⟩ f2 z2
 ·rw[Ce] at hk;split at hk
  ·rename_i e;subst e;cases hk;exact hb.fr f2 nm
  ·rename_i e;rw[hS k e];refine((h.has k s hk).fr hf λb hb hF=> ?_).fr f2 λb hb=>h.ne b ⟨k,s,hk,hb⟩;obtain⟨s2,g1,_,g2⟩:=Qg (ho b ⟨k,s,hk,hb⟩ hF);exact h.ap k bd s s2 b e hk g1 hb g2
 ·rw[Ce] at hk;split at hk
  ·cases hk
  ·rename_i e;rw[hS k e];exact h.non k hk
 ·rw[Ce] at h1 h2;split at h1
  ·grind
  ·rename_i e1;split at h2
   ·grind
   ·exact h.ap k k' s s2 b u h1 h2 h3
 ·obtain⟨k,s,hk,hs⟩:=hb;rw[Ce] at hk;split at hk
  ·simp_all
  ·exact h.ne b ⟨k,s,hk,hs⟩
theorem S9 {bd:Int} {s':gG} {b:Nat} (hb:ownB (CS l bd s') b):gG.at s' b\/ownB l b:=by
 obtain⟨k,s,hk,hs⟩:=hb;rw[Ce] at hk;split at hk
 ·simp_all
 ·exact .inr ⟨k,s,hk,hs⟩
theorem FD.del (h:FD w m l S) {bd:Int} (hS:ids S bd=[]) {K:b_} (hK:∀w2,FD w2 m (BR l bd) S->ig w w2 (·=m)->w2.heap.size=w.heap.size->K w2):FB υ 3 (some m) (Β bd) w K:=by
 refine TI h.mp eqI bd (ajW bd) λw2 g2 f2 z2=> ?_;have lk:=λk=>Nq h.nd bd k;refine hK w2 ⟨g2,h.nd.sublist ((SH l bd).map _),λk s hk=> ?_,λk hk=> ?_,λk k' s s2 b u h1 h2 h3=> ?_,λb hb=> ?_⟩ f2 z2
 ·rw[lk] at hk;split at hk
  ·cases hk
  ·exact(h.has k s hk).fr f2 λb hb=>h.ne b ⟨k,s,hk,hb⟩
 ·rw[lk] at hk;split at hk
  ·simp_all
  ·exact h.non k hk
 ·rw[lk] at h1 h2;split at h1
  ·cases h1
  ·split at h2
   ·cases h2
   ·exact h.ap k k' s s2 b u h1 h2 h3
 ·obtain⟨k,s,hk,hs⟩:=hb;rw[lk] at hk;split at hk
  ·cases hk
  ·exact h.ne b ⟨k,s,hk,hs⟩
theorem agT (h:(l.map (·.1)).Nodup) {bd:Int} {b:Nat} (hb:ownB (BR l bd) b):ownB l b:=by
 obtain⟨k,s,hk,hs⟩:=hb;rw[Nq h] at hk;split at hk
 ·cases hk
 ·exact⟨k,s,hk,hs⟩
end
structure Rn where
 d:Nat
 sl:Nat
 ti:Nat
 si:Nat
 m:Nat
 l:OL
def fp (A:Rn) (b:Nat):Prop:=b=A.d\/b=A.sl\/b=A.ti\/b=A.si\/b=A.m\/ownB A.l b
structure Rn.ne (A:Rn):Prop where
 p:A.d≠A.sl/\A.d≠A.ti/\A.d≠A.si/\A.d≠A.m/\A.sl≠A.ti/\A.sl≠A.si/\A.sl≠A.m/\A.ti≠A.m/\A.si≠A.m
 o:∀b,ownB A.l b->b≠A.d/\b≠A.sl/\b≠A.ti/\b≠A.si
structure TA (w:θ) (A:Rn) (most:Nat) (S:Slots) (M:ByteArray->Option Int):Prop where
 hd:Row w A.d [.slice (some ⟨A.sl,0,none⟩) most most,.pointer (some ⟨A.ti,0,none⟩),.map (some A.m),Β ((live 0 S).length:Int)]
 row:Row w A.sl (S.flatMap iV)
 len:S.length=most
 mx:most<=4096
 tb:∃L,TB w A.ti A.si L most M/\cnt L=(live 0 S).length
 own:FD w A.m A.l S
 good:GoodS S M
 ne:A.ne
section
variable {w w':θ} {A:Rn} {most:Nat} {S:Slots} {M:ByteArray->Option Int}
theorem TA.fr {F:Nat->Prop} (h:TA w A most S M) (hf:ig w w' F) (hs:∀b,fp A b->¬F b):TA w' A most S M:=by
 obtain⟨L,h1,h2⟩:=h.tb;exact⟨h.hd.fr hf (hs _ (.inl rfl)),h.row.fr hf (hs _ (.inr (.inl rfl))),h.len,h.mx,⟨L,h1.fr hf (hs _ (.inr (.inr (.inl rfl)))) (hs _ (.inr (.inr (.inr (.inl rfl))))),h2⟩,
  h.own.fr hf (hs _ (.inr (.inr (.inr (.inr (.inl rfl)))))) (λb hb=>hs _ (.inr (.inr (.inr (.inr (.inr hb)))))),h.good,h.ne⟩
theorem TA.ext (h:TA w A most S M) (hf:Ext w w'):TA w' A most S M:=h.fr (hf λ_=>False) (λ_ _=>by simp)
theorem ajh {b s:Nat} {L:List uS} {mo:Int} (t:TB w b s L mo M):s<w.heap.size:=by
 by_cases hL:L=[]
 ·rw[t.nils hL];exact t.ht.hd.lt
 ·exact(t.ht.row hL).lt
theorem TA.lt (h:TA w A most S M) {x:Nat} (hx:fp A x):x<w.heap.size:=by
 obtain⟨L,h1,h2⟩:=h.tb;rcases hx with rfl|rfl|rfl|rfl|rfl|hx
 ·exact h.hd.lt
 ·exact h.row.lt
 ·exact h1.ht.hd.lt
 ·exact ajh h1
 ·exact h.own.mp.lt
 ·exact h.own.lt hx
theorem TA.slot (h:TA w A most S M) {i:Nat} {o:Option Ses} (hi:S[i]? =some o) (j:Nat) (hj:j<6):w.cell? ⟨A.sl,i * 6+j,none⟩=(iV o)[j]? :=by
 rw[h.row.cell,flat_get iV 6 lY _ _ j hj,hi];rfl
theorem yO (h:TA w A most S M):jA (some ⟨A.d,0,none⟩) w λr w'=>r=true/\w'=w:=by
 apply GY;simp only[sx,h.hd.cell,afk];trivial
theorem aa9 (h:TA w A most S M) (bd ra rp:Int) (hq:∀n∈[bd,ra,rp],In64 n):
  oV (some ⟨A.d,0,none⟩) bd ra rp w λn t w'=>t=(M (Bind.keyS [bd,ra,rp])).isSome/\n=(M (Bind.keyS [bd,ra,rp])).getD 0/\Ext w w':=by
 apply Ia;refine gU λp w1 r1 _ _ f1=> ?_;refine cmS0 (yO (h.ext f1)) ?_;rintro _ w2 ⟨rfl,hw⟩;subst hw;have h2:=(h.ext f1).ext (Ext.drew _);simp only[sx,adt,h2.hd.cell,r1.drew.cell];refine cmS9 (Μ bd ra rp hq _) ?_;rintro _ w3 ⟨rfl,f3⟩;have h3:=h2.ext f3;simp only[afp,d_,h3.hd.cell];obtain⟨L,hL,_⟩:=h3.tb;refine cmS3 (Zb hL _ (rU _ (by simp))) ?_;rintro n t w4 ⟨f4,rfl,rfl⟩;exact⟨rfl,rfl,((f1.trans (Ext.drew _)).trans f3).trans f4⟩
theorem aiQ (h:TA w A most S M):vg (some ⟨A.d,0,none⟩) w λn w'=>n=((live 0 S).length:Int)/\w'=w:=by
 apply JB;refine cmS0 (yO h) ?_;rintro _ w2 ⟨rfl,hw⟩;subst hw;simp only[sx,adt,h.hd.cell];trivial
theorem wF:∀{S:Slots} {i:Nat},freeN S=some i↔S[i]? =some none/\∀j,j<i->∃b,S[j]? =some (some b)
 |[],i=>by simp[freeN]
 |none::r,i=>by
  simp only[freeN,aho];constructor
  ·grind
  ·rintro⟨_,h2⟩
   cases i with
   |zero=>rfl
   |succ i=>obtain⟨b,hb⟩:=h2 0 (by omega);simp at hb
 |some c::r,i=>by
  simp only[freeN,ams];constructor
  ·rintro⟨k,hk,rfl⟩;obtain⟨h1,h2⟩:=wF.1 hk;refine⟨by trivial,λj hj=> ?_⟩
   cases j with
   |zero=>simp
   |succ j=>simp_all
  ·rintro⟨h1,h2⟩
   cases i with
   |zero=>simp at h1
   |succ i=>exact⟨i,wF.2 ⟨by trivial,λj hj=>by grind⟩,rfl⟩
theorem ER:∀{S:Slots},(∀j,j<S.length->∃b,S[j]? =some (some b))->freeN S=none
 |[],_=>rfl
 |none::r,h=>by obtain⟨b,hb⟩:=h 0 (by simp);simp at hb
 |some c::r,h=>by
  simp only[freeN,Option.map_eq_none_iff];exact ER λj hj=>by simpa using h (j+1) (by simp;omega)
theorem kJ {f:FuncId} {cap:Array Value} {sh:List Shape} {args:List Value} {w:θ} {K:Value->b_} (hb:o9 υ f=true) (h:Ii υ sh f (args++cap.toList) w K):
  jF υ sh (.func (.func f) #[] cap) args w K:=by
 unfold jF;simp only[hb,abt];exact h
theorem YC (o:Option Ses) (W:θ) {v0 v1 v2 v3 v4:Int} {v5:Bool} (hv:iV o=[Β v0,Β v1,Β v2,Β v3,Β v4,.bool v5]):xX v0 v1 v2 v3 v4 v5 W λr W'=>r= !o.isSome/\Ext W W':=by
 apply GV;refine gU λa w1 r1 e1 z1 f1=> ?_;simp only[sx,r1.cell];have:=CP o
 grind
theorem agx (h:TA w A most S M):jD ⟨some ⟨A.sl,0,none⟩,most,most⟩ (Value.func (.func HY) #[] #[]) w λr w'=>Ext w w'/\((freeN S=none/\r= -1)\/∃i,freeN S=some i/\r=(i:Int)):=by
 apply pJ;have hm:=h.mx;have hl:=h.len;refine g_ (λst W=>Ext w W/\∃i:Nat,i<=most/\st.1=(i:Int)/\∀j,j<i->∃b,S[j]? =some (some b)) (λst _=>most - st.1.toNat) ⟨Ext.refl _,0,by omega,rfl,by omega⟩ ?_;rintro⟨x,⟨⟩⟩ W ⟨hx,i,hi,rfl,hp⟩ next I
 have h1:=h.ext hx;by_cases hlt:i<most
 ·have u:((i:Int)<(most:Int)):=by omega
  have hS:S[i]? =some S[i]:=adP (by omega);generalize S[i]=o at hS;have c:=h1.slot hS;have c0:=c 0 (by omega);have c1:=c 1 (by omega);have c2:=c 2 (by omega);have c3:=c 3 (by omega);have c4:=c 4 (by omega);have c5:=c 5 (by omega);simp only[akC] at c0;have step:∀W',Ext W W'->(∃b,o=some b)->next (ο.wrap ((i:Int)+1),()) W':=by
   rintro W' hx' ⟨b,rfl⟩;rw[Α];refine I _ _ ⟨hx.trans hx',i+1,by omega,by simp,λj hj=> ?_⟩ (by omega);by_cases hji:j<i
   ·simp_all
   grind
  cases o with
  |none=>
   simp only[iV,d_] at c0 c1 c2 c3 c4 c5;simp only[sx,u,acI,abu,c0,c1,c2,c3,c4,c5];refine⟨by omega,by trivial,kJ (by kernel_rfl) ?_⟩;refine Calls.mono (YC none W rfl) ?_;rintro e W' ⟨r,he,rfl,hf⟩;refine⟨_,he,_,rfl,?_⟩;simp only[alH,afk,abt];exact⟨hx.trans hf,.inr ⟨i,wF.2 ⟨hS,hp⟩,rfl⟩⟩
  |some b=>
   simp only[iV,d_] at c0 c1 c2 c3 c4 c5;simp only[sx,u,acI,abu,c0,c1,c2,c3,c4,c5];refine⟨by omega,by trivial,kJ (by kernel_rfl) ?_⟩;refine Calls.mono (YC (some b) W rfl) ?_;rintro e W' ⟨r,he,rfl,hf⟩;refine⟨_,he,_,rfl,?_⟩;simp only[akt,adt,aaf];exact step W' hf ⟨b,rfl⟩
 ·have u:¬((i:Int)<(most:Int)):=by omega
  simp only[u,acR,aaf];exact⟨hx,.inl ⟨ER λj hj=>hp j (by omega),by trivial⟩⟩
theorem I7 {S:Slots} {id:Int} (h:id<0\/(S.length:Int)<=id):getS S id=none:=by
 unfold Gp.Ses.getS
 grind
theorem Y_ {S:Slots} {id:Int} (h0:0<=id) {o:Option Ses} (h:S[id.toNat]? =some o):getS S id=o:=by
 unfold Gp.Ses.getS
 simp_all
theorem Χ (h:TA w A most S M) (id:Int):nM (some ⟨A.d,0,none⟩) id w λr w'=>r=(getS S id).isSome/\w'=w:=by
 apply JD;have hl:=h.len;refine cmS0 (yO h) ?_;rintro _ w2 ⟨rfl,hw⟩;subst hw;simp only[abt];by_cases c1:id>=0
 ·simp only[sx,c1,acI,h.hd.cell];by_cases c2:id<(most:Int)
  ·have hS:S[id.toNat]? =some S[id.toNat]:=adP (by omega);generalize S[id.toNat]=o at hS;simp only[c2,acI,abt,gJ,jr,h.slot hS 5 (by omega),CP];refine⟨by trivial,by trivial,?_,by trivial⟩;rw[Y_ c1 hS]
  ·simp only[c2,acR,aaf];exact⟨by rw[I7 (.inr (by omega))];rfl,by trivial⟩
 ·simp only[c1,acR,aaf];exact⟨by rw[I7 (.inl (by omega))];rfl,by trivial⟩
def alr (b:Ses) (a1 a2 a3 a4 a5:Int):Prop:=a1=b.bd/\a2=b.st/\a3=b.un/\a4=b.ra/\a5=b.rp
def abA:Ses:=⟨0,0,0,0,0⟩
theorem Υ (h:TA w A most S M) (id:Int):nK (some ⟨A.d,0,none⟩) id w λa1 a2 a3 a4 a5 r w'=>r=(getS S id).isSome/\alr ((getS S id).getD abA) a1 a2 a3 a4 a5/\Ext w w':=by
 apply JA;have hl:=h.len;refine gU λp w1 r1 e1 z1 f1=> ?_;have h1:=h.ext f1;refine cmS0 (Χ h1 id) ?_;rintro _ w2 ⟨rfl,hw⟩;subst hw
 cases hg:getS S id with
 |none=>
  simp only[alH,afk,abt];refine gZ r1 rfl rfl λw3 r3 f3 _=> ?_;simp only[sx,afp,r3.cell];exact⟨⟨rfl,rfl,rfl,rfl,rfl⟩,f1.new (f3 (·=p) rfl) λy hy e=>by omega⟩
 |some b=>
  obtain⟨g0,g1⟩:=Gp.Ses.lX.1 hg;have gl:=(afg.1 g1).1;have c:=h1.slot g1;have c0:=c 0 (by omega);have c1:=c 1 (by omega);have c2:=c 2 (by omega);have c3:=c 3 (by omega);have c4:=c 4 (by omega);simp only[akC] at c0;simp only[sx,akt,adt,h1.hd.cell,c0,c1,c2,c3,c4,iV];refine⟨by omega,by omega,gZ r1 rfl rfl λw3 r3 f3 _=> ?_⟩;simp only[afp,d_,gJ,gK,r3.cell];exact⟨⟨rfl,rfl,rfl,rfl,rfl⟩,f1.new (f3 (·=p) rfl) λy hy e=>by omega⟩
theorem P9 {S:Slots} {i:Nat} (hi:i<S.length) (o:Option Ses):(S.flatMap iV).take (i * 6)++iV o++(S.flatMap iV).drop (i * 6+6)=(S.set i o).flatMap iV:=by
 have e1:(S.flatMap iV).take (i * 6)=(S.take i).flatMap iV:=by
  have h:=(aks i S).symm;have hl:((S.take i).flatMap iV).length=i * 6:=by rw[jh iV 6 lY];simp;omega
  grind
 have e2:(S.flatMap iV).drop (i * 6+6)=(S.drop (i+1)).flatMap iV:=by
  have h:=(aks (i+1) S).symm;have hl:((S.take (i+1)).flatMap iV).length=i * 6+6:=by rw[jh iV 6 lY];simp;omega
  grind
 rw[e1,e2,ani,adZ hi,alR,alx,aky]
theorem Oa (h:Row w A.sl (S.flatMap iV)) {i:Nat} (hi:i<S.length) (o:Option Ses) {K:b_} (hK:∀w',Row w' A.sl ((S.set i o).flatMap iV)->ig w w' (·=A.sl)->w'.heap.size=w.heap.size->K w'):iE (iV o) w ⟨A.sl,i * 6,none⟩ 0 K:=by
 refine Sz (iV o) w _ (i * 6) 0 h (λv hv=>al5.1 (QI o) v hv) ?_ λw1 r1 f1 z1=> ?_
 ·rw[lY,jh iV 6 lY];omega
 ·rw[akC,lY,P9 hi] at r1;exact hK w1 r1 (f1 _ rfl) z1
end
end Go.Proofs.SN
end
