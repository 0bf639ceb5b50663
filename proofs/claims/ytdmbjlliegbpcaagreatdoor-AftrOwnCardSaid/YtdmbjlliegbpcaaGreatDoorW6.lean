import Derived.Test.YtdmbjlliegbpcaaGreatDoorW5
import Derived.Test.YtdmbjlliegbpcaaGreatDoorW3
import Derived.Test.YtdmbjlliegbpcaaGreatDoorW2
open List (append_assoc cons_append flatMap_append flatMap_cons getElem?_eq_getElem length_append length_cons length_drop length_nil length_set length_take map_cons mem_cons take_append_drop)
open Int (toNat_natCast)
open Option (isSome_none isSome_some map_eq_some_iff map_some)
set_option maxRecDepth 100000
section
namespace Go.Proofs
open Gp Gp.Hash
theorem aht (m:Nat):V4.jD 8 m=V4.jD 4 (m / 4294967296)++V4.jD 4 (m % 4294967296):=by
 simp only[V4.jD,cons_append,List.nil_append,List.cons.injEq,and_true];refine⟨?_,?_,?_,?_,?_,?_,?_,?_⟩<;>apply UInt8.toNat_inj.1<;>simp<;>omega
theorem aeB {x:Int} (h:Bind.In64 x):kF .i64 (jH .i64 x 32) 4294967295=(((x % 18446744073709551616).toNat / 4294967296:Nat):Int)/\kF .i64 x 4294967295=(((x % 18446744073709551616).toNat % 4294967296:Nat):Int):=by
 obtain⟨h1,h2⟩:=h;have low:∀y:Int,kF .i64 y 4294967295=(((y % 18446744073709551616).toNat % 4294967296:Nat):Int):=by
  intro y;unfold kF;have e1:(BitVec.ofInt (IntKind.bits .i64) y).toNat=(y % 18446744073709551616).toNat:=by rw[r_,BitVec.toNat_ofInt];rfl
  have e2:(BitVec.ofInt (IntKind.bits .i64) 4294967295).toNat=2^32 - 1:=by rw[r_,BitVec.toNat_ofInt];rfl
  rw[BitVec.toNat_and,e1,e2,AZ];rw[Α]
 refine⟨?_,low x⟩;rw[low];unfold jH;have e:(2:Int)^(min (32:Int).toNat (IntKind.bits .i64))=4294967296:=by decide
 rw[e,Int.fdiv_eq_ediv_of_nonneg _ (by omega)];omega
theorem key_ok {w:θ} {b:Nat} {ns:List Int} {vs:List Value} (h:Row w b vs) (hv:vs=ns.map λn=>Β n) (n c:Nat) (hn:n=ns.length) (hl:ns.length<=10) (hr:∀n∈ns,Bind.In64 n):
  Ec ⟨some ⟨b,0,none⟩,n,c⟩ w λr w'=>r=Bind.keyS ns/\Ext w w':=by
 subst hv hn;apply Zl;refine gX (λst W=>∃i:Nat,i<=ns.length/\st.2.1=(i:Int)/\iq W st.1 (Bind.keyB (ns.take i))/\Ext w W) (λst _=>ns.length - st.2.1.toNat) ⟨0,by omega,rfl,iq.nil,Ext.refl _⟩ ?_;rintro⟨s,x,⟨⟩⟩ W ⟨i,hi,rfl,hs,hx⟩ next I
 have hs:iq W s (Bind.keyB (ns.take i)):=hs;by_cases J:i<ns.length
 ·have u:((i:Int)<(ns.length:Int)):=by omega
  simp only[sx,u,decide_true,toNat_natCast,Nat.mul_one,(h.ext hx).cell,List.getElem?_map,getElem?_eq_getElem J,map_some];refine⟨by omega,by trivial,by omega,?_⟩;obtain⟨e1,e2⟩:=aeB (hr _ (List.getElem_mem J));rw[e1,e2];generalize hm:(ns[i] % 18446744073709551616).toNat=m;have hm2:m<18446744073709551616:=by omega
  have kl:=Bind.MJ (ns.take i);have kl2:(ns.take i).length<=10:=by simp;omega
  refine cmS2 (uO hs (by omega) _ 4) ?_;rintro t1 w1 ⟨b1,f1,_⟩;have p1:jv (Bind.keyB (ns.take i)) ((m / 4294967296:Nat):Int) 4=Bind.keyB (ns.take i)++V4.jD 4 (m / 4294967296):=by
   unfold jv;rw[if_pos ⟨⟨by omega,by omega⟩,by omega,by simp;omega⟩];rfl
  rw[p1] at b1;refine cmS2 (uO (iq.iD b1) (by simp[V4.iG];omega) _ 4) ?_;rintro t2 w2 ⟨b2,f2,_⟩;have p2:jv (Bind.keyB (ns.take i)++V4.jD 4 (m / 4294967296)) ((m % 4294967296:Nat):Int) 4=Bind.keyB (ns.take i)++V4.jD 4 (m / 4294967296)++V4.jD 4 (m % 4294967296):=by
   unfold jv;rw[if_pos ⟨⟨by omega,by omega⟩,by omega,by simp;omega⟩];rfl
  rw[p2] at b2;rw[Α];refine I _ _ ⟨i+1,by omega,by simp,?_,(hx.trans f1).trans f2⟩ (by simp only;omega);have ek:Bind.keyB (ns.take (i+1))=Bind.keyB (ns.take i)++V4.jD 4 (m / 4294967296)++V4.jD 4 (m % 4294967296):=by
   rw[List.take_succ_eq_append_getElem J];unfold Bind.keyB;rw[flatMap_append,List.flatMap_singleton,hm,aht,append_assoc]
  rw[ek];exact iq.iD b2
 ·have u:¬((i:Int)<(ns.length:Int)):=by omega
  simp only[u,decide_false,cond_false];have:i=ns.length:=by omega
  subst this;rw[List.take_length] at hs;exact Ph hs ⟨rfl,hx⟩
theorem wW (l:List Int) (h:l.length<=10):(Bind.keyS l).size<=2^63 - 1:=by
 have:(Bind.keyS l).size=(Bind.keyB l).length:=rfl;rw[this,Bind.MJ];omega
theorem abh (a b c d:Int) (h:∀n∈[a,b,c,d],Bind.In64 n) (w:θ):ug a b c d w λr w'=>r=Bind.keyS [a,b,c,d]/\Ext w w':=by
 apply OE;refine gq λp w1 r1 _ _ f1=> ?_;simp only[sx,r1.cell];refine gq λq w2 r2 _ _ f2=> ?_;refine cmS7 (key_ok (ns:=[a,b,c,d]) r2 rfl 4 4 rfl (by simp) h) ?_;rintro _ w3 ⟨rfl,f3⟩;exact⟨rfl,(f1.trans f2).trans f3⟩
theorem abp (a b c:Int) (h:∀n∈[a,b,c],Bind.In64 n) (w:θ):uh a b c w λr w'=>r=Bind.keyS [a,b,c]/\Ext w w':=by
 apply OG;refine gq λp w1 r1 _ _ f1=> ?_;simp only[sx,r1.cell];refine gq λq w2 r2 _ _ f2=> ?_;refine cmS7 (key_ok (ns:=[a,b,c]) r2 rfl 3 3 rfl (by simp) h) ?_;rintro _ w3 ⟨rfl,f3⟩;exact⟨rfl,(f1.trans f2).trans f3⟩
open Gp.Bind (Bnd Slots live GoodB freeN getS In64)
def iR:Option Bnd->List Value
 |none=>[Β 0,Β 0,Β 0,Β 0,Β 0,Β 0,Β 0,.bool false,.bool false]
 |some b=>[Β b.sw,Β b.pr,Β b.ad,Β b.po,Β b.opr,Β b.oad,Β b.opo,.bool b.st,.bool true]
theorem kM (o:Option Bnd):(iR o).length=9:=by cases o<;>rfl
theorem O7 (o:Option Bnd):(iR o).all iL=true:=by cases o<;>rfl
theorem AL (o:Option Bnd):(iR o)[8]? =some (.bool o.isSome):=by cases o<;>rfl
structure Qm where
 d:Nat
 sl:Nat
 ti:Nat
 si:Nat
 tu:Nat
 su:Nat
def fp (A:Qm) (b:Nat):Prop:=b=A.d\/b=A.sl\/b=A.ti\/b=A.si\/b=A.tu\/b=A.su
def Qm.ne (A:Qm):Prop:=A.d≠A.sl/\A.d≠A.ti/\A.d≠A.si/\A.d≠A.tu/\A.d≠A.su/\A.sl≠A.ti/\A.sl≠A.si/\A.sl≠A.tu/\A.sl≠A.su/\A.ti≠A.tu/\A.ti≠A.su/\A.si≠A.tu/\A.si≠A.su
structure DB (w:θ) (A:Qm) (most:Nat) (S:Slots) (Mi Mo:ByteArray->Option Int):Prop where
 hd:Row w A.d [.slice (some ⟨A.sl,0,none⟩) most most,.pointer (some ⟨A.ti,0,none⟩),.pointer (some ⟨A.tu,0,none⟩),Β ((live 0 S).length:Int)]
 row:Row w A.sl (S.flatMap iR)
 len:S.length=most
 mx:most<=4096
 tI:∃L,TB w A.ti A.si L most Mi/\cnt L=(live 0 S).length
 tO:∃L,TB w A.tu A.su L most Mo/\cnt L=(live 0 S).length
 good:GoodB S Mi Mo
 ne:A.ne
section
variable {w w':θ} {A:Qm} {most:Nat} {S:Slots} {Mi Mo:ByteArray->Option Int}
theorem DB.fr {F:Nat->Prop} (h:DB w A most S Mi Mo) (hf:gW w w' F) (hs:∀b,fp A b->¬F b):DB w' A most S Mi Mo:=by
 obtain⟨L,h1,h2⟩:=h.tI;obtain⟨L',h3,h4⟩:=h.tO;exact⟨h.hd.fr hf (hs _ (.inl rfl)),h.row.fr hf (hs _ (.inr (.inl rfl))),h.len,h.mx,⟨L,h1.fr hf (hs _ (.inr (.inr (.inl rfl)))) (hs _ (.inr (.inr (.inr (.inl rfl))))),h2⟩,
  ⟨L',h3.fr hf (hs _ (.inr (.inr (.inr (.inr (.inl rfl)))))) (hs _ (.inr (.inr (.inr (.inr (.inr rfl)))))),h4⟩,h.good,h.ne⟩
theorem DB.ext (h:DB w A most S Mi Mo) (hf:Ext w w'):DB w' A most S Mi Mo:=h.fr (hf λ_=>False) (λ_ _=>by simp)
theorem DB.slot (h:DB w A most S Mi Mo) {i:Nat} {o:Option Bnd} (hi:S[i]? =some o) (j:Nat) (hj:j<9):w.cell? ⟨A.sl,i * 9+j,none⟩=(iR o)[j]? :=by
 rw[h.row.cell,flat_get iR 9 kM _ _ j hj,hi];rfl
theorem zA (h:DB w A most S Mi Mo):kP (some ⟨A.d,0,none⟩) w λr w'=>r=true/\w'=w:=by
 apply OD;simp only[sx,h.hd.cell,Bool.not_false];exact⟨by trivial,by trivial⟩
theorem L_ (h:DB w A most S Mi Mo) (a b c d:Int) (hq:∀n∈[a,b,c,d],In64 n):
  ou (some ⟨A.d,0,none⟩) a b c d w λn t w'=>t=(Mi (Bind.keyS [a,b,c,d])).isSome/\n=(Mi (Bind.keyS [a,b,c,d])).getD 0/\Ext w w':=by
 apply P9;refine gq λp w1 r1 _ _ f1=> ?_;refine cmS0 (zA (h.ext f1)) ?_;rintro _ w2 ⟨rfl,hw⟩;subst hw;have h2:=(h.ext f1).ext (Ext.drew _);simp only[sx,Bool.not_true,h2.hd.cell,r1.drew.cell];refine cmS7 (abh a b c d hq _) ?_;rintro _ w3 ⟨rfl,f3⟩;have h3:=h2.ext f3;simp only[true_and,d_,h3.hd.cell];obtain⟨L,hL,_⟩:=h3.tI;refine cmS4 (Xi hL _ (wW _ (by simp))) ?_;rintro n t w4 ⟨f4,rfl,rfl⟩;exact⟨rfl,rfl,((f1.trans (Ext.drew _)).trans f3).trans f4⟩
theorem LY (h:DB w A most S Mi Mo) (a b c:Int) (hq:∀n∈[a,b,c],In64 n):
  oq (some ⟨A.d,0,none⟩) a b c w λn t w'=>t=(Mo (Bind.keyS [a,b,c])).isSome/\n=(Mo (Bind.keyS [a,b,c])).getD 0/\Ext w w':=by
 apply P8;refine gq λp w1 r1 _ _ f1=> ?_;refine cmS0 (zA (h.ext f1)) ?_;rintro _ w2 ⟨rfl,hw⟩;subst hw;have h2:=(h.ext f1).ext (Ext.drew _);simp only[sx,Bool.not_true,h2.hd.cell,r1.drew.cell];refine cmS7 (abp a b c hq _) ?_;rintro _ w3 ⟨rfl,f3⟩;have h3:=h2.ext f3;simp only[true_and,d_,h3.hd.cell];obtain⟨L,hL,_⟩:=h3.tO;refine cmS4 (Xi hL _ (wW _ (by simp))) ?_;rintro n t w4 ⟨f4,rfl,rfl⟩;exact⟨rfl,rfl,((f1.trans (Ext.drew _)).trans f3).trans f4⟩
theorem afP (h:DB w A most S Mi Mo):BO (some ⟨A.d,0,none⟩) w λn w'=>n=((live 0 S).length:Int)/\w'=w:=by
 apply SK;refine cmS0 (zA h) ?_;rintro _ w2 ⟨rfl,hw⟩;subst hw;simp only[sx,Bool.not_true,h.hd.cell];exact⟨by trivial,by trivial⟩
theorem uM:∀{S:Slots} {i:Nat},freeN S=some i↔S[i]? =some none/\∀j,j<i->∃b,S[j]? =some (some b)
 |[],i=>by simp[freeN]
 |none::r,i=>by
  simp only[freeN,Option.some.injEq];constructor
  ·rintro rfl;exact⟨rfl,by omega⟩
  ·rintro⟨_,h2⟩
   cases i with
   |zero=>rfl
   |succ i=>obtain⟨b,hb⟩:=h2 0 (by omega);simp at hb
 |some c::r,i=>by
  simp only[freeN,map_eq_some_iff];constructor
  ·rintro⟨k,hk,rfl⟩;obtain⟨h1,h2⟩:=uM.1 hk;refine⟨by simpa using h1,λj hj=> ?_⟩
   cases j with
   |zero=>exact⟨c,rfl⟩
   |succ j=>simpa using h2 j (by omega)
  ·rintro⟨h1,h2⟩
   cases i with
   |zero=>simp at h1
   |succ i=>exact⟨i,uM.2 ⟨by simpa using h1,λj hj=>by simpa using h2 (j+1) (by omega)⟩,rfl⟩
theorem Dx:∀{S:Slots},(∀j,j<S.length->∃b,S[j]? =some (some b))->freeN S=none
 |[],_=>rfl
 |none::r,h=>by obtain⟨b,hb⟩:=h 0 (by simp);simp at hb
 |some c::r,h=>by
  simp only[freeN,Option.map_eq_none_iff];exact Dx λj hj=>by simpa using h (j+1) (by simp;omega)
theorem ad7 (h:DB w A most S Mi Mo):zK (some ⟨A.d,0,none⟩) w λn t w'=>w'=w/\t=(freeN S).isSome/\n=(((freeN S).getD 0:Nat):Int):=by
 apply P_;have hm:=h.mx;have hl:=h.len;simp only[sx,h.hd.cell];refine gX (λst W=>W=w/\∃i:Nat,i<=most/\st.1=(i:Int)/\∀j,j<i->∃b,S[j]? =some (some b)) (λst _=>most - st.1.toNat) ⟨rfl,0,by omega,rfl,by omega⟩ ?_;rintro⟨x,⟨⟩⟩ W ⟨rfl,i,hi,rfl,hp⟩ next I
 by_cases hlt:i<most
 ·have u:((i:Int)<(most:Int)):=by omega
  have hS:S[i]? =some S[i]:=getElem?_eq_getElem (by omega);generalize S[i]=o at hS;simp only[sx,u,decide_true,h.hd.cell,toNat_natCast,h.slot hS 8 (by omega),AL];refine⟨by omega,by trivial,?_⟩
  cases o with
  |none=>
   have hf:=uM.2 ⟨hS,hp⟩;simp only[isSome_none,Bool.not_false,cond_true,hf];exact⟨by trivial,rfl,rfl⟩
  |some b=>
   simp only[isSome_some,Bool.not_true,cond_false];rw[Α];refine I _ _ ⟨rfl,i+1,by omega,by simp,λj hj=> ?_⟩ (by simp only;omega);by_cases J:j<i
   ·exact hp j J
   ·have:j=i:=by omega
    subst this;exact⟨b,hS⟩
 ·have u:¬((i:Int)<(most:Int)):=by omega
  simp only[u,decide_false,cond_false];have hf:=Dx (S:=S) λj hj=>hp j (by omega);rw[hf];exact⟨by trivial,rfl,rfl⟩
theorem aci {S:Slots} {i:Nat} (hi:i<S.length) (o:Option Bnd):(S.flatMap iR).take (i * 9)++iR o++(S.flatMap iR).drop (i * 9+9)=(S.set i o).flatMap iR:=by
 have e1:(S.flatMap iR).take (i * 9)=(S.take i).flatMap iR:=by
  have h:S=S.take i++S.drop i:=(take_append_drop i S).symm;have hl:((S.take i).flatMap iR).length=i * 9:=by rw[jo iR 9 kM];simp;omega
  conv=>lhs;rw[h,flatMap_append]
  rw[<- hl];simp
 have e2:(S.flatMap iR).drop (i * 9+9)=(S.drop (i+1)).flatMap iR:=by
  have h:S=S.take (i+1)++S.drop (i+1):=(take_append_drop (i+1) S).symm;have hl:((S.take (i+1)).flatMap iR).length=i * 9+9:=by rw[jo iR 9 kM];simp;omega
  conv=>lhs;rw[h,flatMap_append]
  rw[<- hl];simp
 rw[e1,e2,List.set_eq_take_append_cons_drop,if_pos hi,flatMap_append,flatMap_cons,append_assoc]
theorem Wq (h:Row w A.sl (S.flatMap iR)) {i:Nat} (hi:i<S.length) (o:Option Bnd) {K:b_} (hK:∀w',Row w' A.sl ((S.set i o).flatMap iR)->gW w w' (·=A.sl)->w'.heap.size=w.heap.size->K w'):iw (iR o) w ⟨A.sl,i * 9,none⟩ 0 K:=by
 refine Qr (iR o) w _ (i * 9) 0 h (λv hv=>List.all_eq_true.1 (O7 o) v hv) ?_ λw1 r1 f1 z1=> ?_
 ·rw[kM,jo iR 9 kM];omega
 ·rw[Nat.add_zero,kM,aci hi] at r1;exact hK w1 r1 (f1 _ rfl) z1
def vG (S:Slots) (Mi Mo:ByteArray->Option Int) (b:Bnd):Int×Int:=
 if (Mi (Bind.keyS b.i)).isSome||(Mo (Bind.keyS b.o)).isSome then (0,9) else match freeN S with
  |none=>(0,7)
  |some i=>((i:Int),0)
theorem aa5 (h:DB w A most S Mi Mo) (b:Bnd) (hb:b.ok) (u:∀x,fp A x->x<w.heap.size):
  xu (some ⟨A.d,0,none⟩) b.sw b.pr b.ad b.po b.opr b.oad b.opo b.st w λn e w'=>(n,e)=vG S Mi Mo b/\gW w w' (fp A)/\
   ∃A' S' Mi' Mo',DB w' A' most S' Mi' Mo'/\A'.d=A.d/\(∀x,fp A' x->fp A x\/w.heap.size<=x)/\(∀x,fp A' x->x<w'.heap.size)/\S'=(if (vG S Mi Mo b).2=0 then S.set (vG S Mi Mo b).1.toNat (some b) else S):=by
 apply SG;refine gq λp w1 r1 e1 z1 f1=> ?_;refine cmS0 (zA (h.ext f1)) ?_;rintro _ w2 ⟨rfl,hw⟩;subst hw;simp only[sx,Bool.not_true,r1.cell];refine cmS4 (L_ (h.ext f1) _ _ _ _ hb.1) ?_;rintro n2 t2 w3 ⟨ht2,_,f3⟩;simp only[d_,f_,gJ,(r1.ext f3).cell];refine cmS4 (LY ((h.ext f1).ext f3) _ _ _ hb.2) ?_;rintro n4 t4 w4 ⟨ht4,_,f4⟩;have ht2:t2=(Mi (Bind.keyS b.i)).isSome:=ht2;have ht4:t4=(Mo (Bind.keyS b.o)).isSome:=ht4;have y4:=f3.trans f4;have x4:Ext w w4:=f1.trans y4;have h4:=h.ext x4;have twice:(t2||t4)=true->((0:Int),(9:Int))=vG S Mi Mo b/\gW w w4 (fp A)/\∃A' S' Mi' Mo',DB w4 A' most S' Mi' Mo'/\A'.d=A.d/\(∀x,fp A' x->fp A x\/w.heap.size<=x)/\(∀x,fp A' x->x<w4.heap.size)/\S'=(if (vG S Mi Mo b).2=0 then S.set (vG S Mi Mo b).1.toNat (some b) else S):=by
  intro ht;have e:vG S Mi Mo b=(0,9):=by unfold vG;rw[<- ht2,<- ht4,if_pos ht]
  rw[e];exact⟨rfl,x4 _,A,S,Mi,Mo,h4,rfl,λx hx=> .inl hx,λx hx=>by have:=u x hx;have:=x4.size;omega,by rw[if_neg (by simp)]⟩
 cases ac:t2 with
 |true=>simp only[cond_true];exact twice (by rw[ac];rfl)
 |false=>
 cases Z:t4 with
 |true=>simp only[cond_true,cond_false];exact twice (by rw[ac,Z];rfl)
 |false=>
 rw[ac] at ht2;rw[Z] at ht4;simp only[cond_false];refine cmS4 (ad7 h4) ?_;rintro n5 t5 w5 ⟨hw,ht5,hn5⟩;subst hw
 cases aa:freeN S with
 |none=>
  rw[aa] at ht5;subst ht5;simp only[isSome_none,Bool.not_false,cond_true];have e:vG S Mi Mo b=(0,7):=by unfold vG;rw[<- ht2,<- ht4,aa];rfl
  rw[e];exact⟨rfl,x4 _,A,S,Mi,Mo,h4,rfl,λx hx=> .inl hx,λx hx=>by have:=u x hx;have:=x4.size;omega,by rw[if_neg (by simp)]⟩
 |some i=>
  rw[aa] at ht5 hn5;subst ht5;have hn5:n5=(i:Int):=hn5;subst hn5;have e:vG S Mi Mo b=((i:Int),0):=by unfold vG;rw[<- ht2,<- ht4,aa];rfl
  rw[e];obtain⟨g1,g2,g3,g4,g5,g6,g7⟩:=Bind.jr 0 aa;have hm:=h.mx;have hl:=h.len;have h5:=h4.ext (Ext.drew _);have r5:=(r1.ext y4).drew;simp only[sx,isSome_some,Bool.not_true,h5.hd.cell,r5.cell,toNat_natCast];refine⟨by omega,by omega,?_⟩;refine Wq h5.row g1 (some b) λw6 row6 f6 z6=> ?_;obtain⟨n1,n2,n3,n4,n5,n6,n7,n8,n9,af,ag,ah,ai⟩:=h.ne;have hp:∀x,fp A x->x≠p:=λx hx=>by have:=u x hx;omega
  have hpd:=hp _ (.inl rfl);have an:=hp _ (.inr (.inl rfl));have hd6:=(h5.hd.fr f6 n1).drew;have r6:=(r5.fr f6 (Ne.symm an)).drew;simp only[d_,f_,gJ,EG,hd6.cell,r6.cell];refine cmS7 (abh _ _ _ _ hb.1 _) ?_;rintro _ w7 ⟨rfl,f7⟩;have hd7:=hd6.ext f7;have r7:=r6.ext f7;simp only[true_and,d_,hd7.cell];obtain⟨LI,tI,cI⟩:=h5.tI;obtain⟨LO,tO,cO⟩:=h5.tO;have f67:gW w5.drew w7 (·=A.sl):=(f6.ext (Ext.drew _)).ext f7;have tI7:=tI.fr f67 (Ne.symm n6) (Ne.symm n7);have tO7:=tO.fr f67 (Ne.symm n8) (Ne.symm n9);have aj:Mi (Bind.keyS b.i)=none:=by cases hx:Mi (Bind.keyS b.i) with
   |none=>rfl
   |some v=>rw[hx] at ht2;cases ht2
  have ak:Mo (Bind.keyS b.o)=none:=by cases hx:Mo (Bind.keyS b.o) with
   |none=>rfl
   |some v=>rw[hx] at ht4;cases ht4
  have z7:=f67.size;have hdrz:w5.drew.heap.size=w5.heap.size:=rfl;have x4z:=x4.size;refine cmS1 (Xl tI7 (Bind.keyS b.i) (i:Int) (wW _ (by simp[Bnd.i]))) ?_;rintro e8 w8 (⟨rfl,hlt8,s8,L8,t8,c8,f8,hs8⟩|⟨_,_,R,_⟩);rotate_left
  ·exfalso;rw[cI] at R;omega
  have hd8:=(hd7.fr f8 (by rintro(h|h);exact n2 h;exact n3 h)).drew;have r8:Row w8.drew p _:=(r7.fr f8 (by rintro(h|h);exact hp _ (.inr (.inr (.inl rfl))) h.symm;exact hp _ (.inr (.inr (.inr (.inl rfl)))) h.symm)).drew;simp only[d_,f_,gJ,EG,hd8.cell,r8.cell];refine cmS7 (abp _ _ _ hb.2 _) ?_;rintro _ w9 ⟨rfl,f9⟩;have hd9:=hd8.ext f9;simp only[true_and,d_,hd9.cell];have hs8':s8≠A.tu/\s8≠A.su/\s8≠A.d/\s8≠A.sl:=by
   have q1:=u A.tu (.inr (.inr (.inr (.inr (.inl rfl)))));have q2:=u A.su (.inr (.inr (.inr (.inr (.inr rfl)))));have q3:=u A.d (.inl rfl);have q4:=u A.sl (.inr (.inl rfl));rcases hs8 with h8|h8
   ·rw[h8];exact⟨ah,ai,Ne.symm n3,Ne.symm n7⟩
   ·have O:w.heap.size<=s8:=Nat.le_trans x4z (Nat.le_trans z7 h8);exact⟨λh=>by rw[h] at O;exact Nat.lt_irrefl _ (Nat.lt_of_lt_of_le q1 O),λh=>by rw[h] at O;exact Nat.lt_irrefl _ (Nat.lt_of_lt_of_le q2 O),λh=>by rw[h] at O;exact Nat.lt_irrefl _ (Nat.lt_of_lt_of_le q3 O),λh=>by rw[h] at O;exact Nat.lt_irrefl _ (Nat.lt_of_lt_of_le q4 O)⟩
  have f89:gW w7 w9 (λx=>x=A.ti\/x=A.si):=(f8.ext (Ext.drew _)).ext f9;have tO9:=tO7.fr f89 (by rintro(h|h);exact af h.symm;exact ah h.symm) (by rintro(h|h);exact ag h.symm;exact ai h.symm);have tI9:=(t8.VF (Ext.drew w8)).VF f9;have z8:=f8.size;have z9:=f9.size;have hdrz8:w8.drew.heap.size=w8.heap.size:=rfl;refine cmS1 (Xl tO9 (Bind.keyS b.o) (i:Int) (wW _ (by simp[Bnd.o]))) ?_;rintro e10 ao (⟨rfl,hlt10,J,am,t10,aq,f10,hs10⟩|⟨_,_,R,_⟩);rotate_left
  ·exfalso;rw[cO] at R;omega
  have hs10':J≠A.ti/\J≠s8/\J≠A.d/\J≠A.sl:=by
   have q1:=u A.ti (.inr (.inr (.inl rfl)));have q2:=u A.su (.inr (.inr (.inr (.inr (.inr rfl)))));have q3:=u A.d (.inl rfl);have q4:=u A.sl (.inr (.inl rfl));have q5:s8<w9.heap.size:=by
    have:s8<w8.heap.size:=by
     by_cases hL:L8=[]
     ·rw[t8.nils hL];exact t8.ht.hd.lt
     ·exact(t8.ht.row hL).lt
    exact Nat.lt_of_lt_of_le this z9
   rcases hs10 with N|N
   ·rw[N];exact⟨Ne.symm ag,Ne.symm hs8'.2.1,Ne.symm n5,Ne.symm n9⟩
   ·have U:w.heap.size<=J:=Nat.le_trans x4z (Nat.le_trans z7 (Nat.le_trans z8 (Nat.le_trans z9 N)));exact⟨λh=>by rw[h] at U;exact Nat.lt_irrefl _ (Nat.lt_of_lt_of_le q1 U),λh=>by rw[h] at N;exact Nat.lt_irrefl _ (Nat.lt_of_lt_of_le q5 N),λh=>by rw[h] at U;exact Nat.lt_irrefl _ (Nat.lt_of_lt_of_le q3 U),λh=>by rw[h] at U;exact Nat.lt_irrefl _ (Nat.lt_of_lt_of_le q4 U)⟩
  have hd10:=hd9.fr f10 (by rintro(h|h);exact n4 h;exact n5 h);simp only[d_,f_,gJ,hd10.cell];have hll:=Bind.jU S 0;rw[Α];refine g_ hd10 rfl (by simp) λY hd11 f11 z11=> ?_;simp only[List.set_cons_zero,List.set_cons_succ] at hd11;have f11d:=f11 (·=A.d) rfl;have I:(live 0 (S.set i (some b))).length=(live 0 S).length+1:=by
   rw[g7 b];simp only[length_append,length_cons,length_take,length_drop];omega
  have tI11:TB Y A.ti s8 L8 most (Go.Proofs.upd Mi (Bind.keyS b.i) (some (i:Int))):=(tI9.fr f10 (by rintro(h|h);exact af h;exact ag h) (by rintro(h|h);exact hs8'.1 h;exact hs8'.2.1 h)).fr f11d (Ne.symm n2) hs8'.2.2.1;have tO11:TB Y A.tu J am most (Go.Proofs.upd Mo (Bind.keyS b.o) (some (i:Int))):=t10.fr f11d (Ne.symm n4) hs10'.2.2.1;have row11:Row Y A.sl ((S.set i (some b)).flatMap iR):=((((row6.ext (Ext.drew _)).ext f7).fr f89 (by rintro(h|h);exact n6 h;exact n7 h)).fr f10 (by rintro(h|h);exact n8 h;exact n9 h)).fr f11d (Ne.symm n1);have zb:w5.drew.heap.size<=w7.heap.size:=f67.size;have ftot:gW w Y (fp A):=by
   have q1:gW w w7 (fp A):=((x4.trans (Ext.drew w5)) _).trans f67 λx _ hx=> .inr (.inl hx);have q2:gW w w9 (fp A):=q1.trans f89 λx _ hx=>by
    rcases hx with hx|hx
    ·exact .inr (.inr (.inl hx))
    ·exact .inr (.inr (.inr (.inl hx)))
   have q3:gW w ao (fp A):=q2.trans f10 λx _ hx=>by
    rcases hx with hx|hx
    ·exact .inr (.inr (.inr (.inr (.inl hx))))
    ·exact .inr (.inr (.inr (.inr (.inr hx))))
   exact q3.trans f11d λx _ hx=> .inl hx
  have zt:=ftot.size;have eu:∀M k v,Go.Proofs.upd M k v=Gp.Bind.upd M k v:=λ_ _ _=>rfl;rw[eu] at tI11 tO11;have db:DB Y ⟨A.d,A.sl,A.ti,s8,A.tu,J⟩ most (S.set i (some b)) (Gp.Bind.upd Mi (Bind.keyS b.i) (some (i:Int))) (Gp.Bind.upd Mo (Bind.keyS b.o) (some (i:Int))):=by
   refine⟨?_,row11,by rw[length_set];exact hl,hm,⟨L8,tI11,?_⟩,⟨am,tO11,?_⟩,h.good.add g2 hb aj ak,?_⟩
   ·rw[I];simpa using hd11
   ·rw[c8,I,aj,cI];rfl
   ·rw[aq,I,ak,cO];rfl
   ·exact⟨n1,n2,Ne.symm hs8'.2.2.1,n4,Ne.symm hs10'.2.2.1,n6,Ne.symm hs8'.2.2.2,n8,Ne.symm hs10'.2.2.2,af,Ne.symm hs10'.1,hs8'.1,Ne.symm hs10'.2.1⟩
  refine⟨ftot,_,_,_,_,db,rfl,?_,?_,by simp⟩
  ·intro x hx;rcases hx with hx|hx|hx|hx|hx|hx
   ·exact .inl (.inl hx)
   ·exact .inl (.inr (.inl hx))
   ·exact .inl (.inr (.inr (.inl hx)))
   ·have hx:x=s8:=hx;rcases hs8 with h8|h8
    ·exact .inl (.inr (.inr (.inr (.inl (hx.trans h8)))))
    ·right;rw[hx];exact Nat.le_trans x4z (Nat.le_trans z7 h8)
   ·exact .inl (.inr (.inr (.inr (.inr (.inl hx)))))
   ·have hx:x=J:=hx;rcases hs10 with N|N
    ·exact .inl (.inr (.inr (.inr (.inr (.inr (hx.trans N))))))
    ·right;rw[hx];exact Nat.le_trans x4z (Nat.le_trans z7 (Nat.le_trans z8 (Nat.le_trans z9 N)))
  ·intro x hx;have tlt:∀{w0:θ} {b s:Nat} {L:List vk} {m:Int} {M:ByteArray->Option Int},TB w0 b s L m M->s<w0.heap.size:=by
    intro w0 b s L m M t;by_cases hL:L=[]
    ·rw[t.nils hL];exact t.ht.hd.lt
    ·exact(t.ht.row hL).lt
   have lt:∀y,fp A y->y<Y.heap.size:=λy hy=>Nat.lt_of_lt_of_le (u y hy) zt;rcases hx with hx|hx|hx|hx|hx|hx
   ·exact lt x (.inl hx)
   ·exact lt x (.inr (.inl hx))
   ·exact lt x (.inr (.inr (.inl hx)))
   ·have hx:x=s8:=hx;rw[hx];exact tlt tI11
   ·exact lt x (.inr (.inr (.inr (.inr (.inl hx)))))
   ·have hx:x=J:=hx;rw[hx];exact tlt tO11
end
end Go.Proofs
end
section
namespace Go.Proofs
open Gp Gp.Hash
open Gp.Bind (Bnd Slots live GoodB freeN getS In64)
section
variable {w w':θ} {A:Qm} {most:Nat} {S:Slots} {Mi Mo:ByteArray->Option Int}
theorem GI {S:Slots} {id:Int} (h:id<0\/(S.length:Int)<=id):getS S id=none:=by
 unfold Gp.Bind.getS;split
 ·rw[List.getElem?_eq_none (by omega)];rfl
 ·rfl
theorem Xg {S:Slots} {id:Int} (h0:0<=id) {o:Option Bnd} (h:S[id.toNat]? =some o):getS S id=o:=by
 unfold Gp.Bind.getS;rw[if_pos h0,h];rfl
theorem afO (h:DB w A most S Mi Mo) (id:Int):BP (some ⟨A.d,0,none⟩) id w λr w'=>r=(getS S id).isSome/\w'=w:=by
 apply SL;have hl:=h.len;refine cmS0 (zA h) ?_;rintro _ w2 ⟨rfl,hw⟩;subst hw;simp only[cond_true];by_cases c1:id>=0
 ·simp only[sx,c1,decide_true,h.hd.cell];by_cases c2:id<(most:Int)
  ·have hS:S[id.toNat]? =some S[id.toNat]:=getElem?_eq_getElem (by omega);generalize S[id.toNat]=o at hS;simp only[c2,decide_true,cond_true,f_,iY,h.slot hS 8 (by omega),AL];refine⟨by first|trivial|omega,by first|trivial|omega,?_,by trivial⟩
   rw[Xg c1 hS]
  ·simp only[c2,decide_false,cond_false];exact⟨by rw[GI (.inr (by omega))];rfl,by trivial⟩
 ·simp only[c1,decide_false,cond_false];exact⟨by rw[GI (.inl (by omega))];rfl,by trivial⟩
def ai5 (b:Bnd) (a1 a2 a3 a4 a5 a6 a7:Int) (a8:Bool):Prop:=a1=b.sw/\a2=b.pr/\a3=b.ad/\a4=b.po/\a5=b.opr/\a6=b.oad/\a7=b.opo/\a8=b.st
def ai4:Bnd:=⟨0,0,0,0,0,0,0,false⟩
theorem Mc (h:DB w A most S Mi Mo) (id:Int):nI (some ⟨A.d,0,none⟩) id w λa1 a2 a3 a4 a5 a6 a7 a8 r w'=>r=(getS S id).isSome/\ai5 ((getS S id).getD ai4) a1 a2 a3 a4 a5 a6 a7 a8/\Ext w w':=by
 apply SI;have hl:=h.len;refine gq λp w1 r1 e1 z1 f1=> ?_;have h1:=h.ext f1;refine cmS0 (afO h1 id) ?_;rintro _ w2 ⟨rfl,hw⟩;subst hw
 cases hg:getS S id with
 |none=>
  simp only[isSome_none,Bool.not_false,cond_true];refine gY r1 rfl rfl λw3 r3 f3 _=> ?_;simp only[sx,true_and,r3.cell];exact⟨⟨rfl,rfl,rfl,rfl,rfl,rfl,rfl,rfl⟩,f1.new (f3 (·=p) rfl) λy hy e=>by omega⟩
 |some b=>
  obtain⟨g0,g1⟩:=Gp.Bind.rH.1 hg;have gl:=(List.getElem?_eq_some_iff.1 g1).1;have c:∀j,j<9->_:=h1.slot g1;have c0:=c 0 (by omega);have c1:=c 1 (by omega);have c2:=c 2 (by omega);have c3:=c 3 (by omega);have c4:=c 4 (by omega);have c5:=c 5 (by omega);have c6:=c 6 (by omega);have c7:=c 7 (by omega);simp only[Nat.add_zero] at c0;simp only[sx,isSome_some,Bool.not_true,h1.hd.cell,c0,c1,c2,c3,c4,c5,c6,c7,iR];refine⟨by omega,by omega,gY r1 rfl rfl λw3 r3 f3 _=> ?_⟩;simp only[true_and,d_,f_,gJ,iY,r3.cell];exact⟨⟨rfl,rfl,rfl,rfl,rfl,rfl,rfl,rfl⟩,f1.new (f3 (·=p) rfl) λy hy e=>by omega⟩
def yD (L:List (Int×Bnd)):List (yu [.one ν,.agg [ν,ν,ν,ν,ν,ν,ν,.bool]]):=
 L.map λx=>(x.1,(x.2.sw,x.2.pr,x.2.ad,x.2.po,x.2.opr,x.2.oad,x.2.opo,x.2.st,()),())
theorem lJ:∀(S T:Slots) (k:Nat),live k (S++T)=live k S++live (k+S.length) T
 |[],T,k=>by simp[live]
 |none::r,T,k=>by rw[cons_append,live,live,lJ r T (k+1)];simp;congr 1;omega
 |some b::r,T,k=>by rw[cons_append,live,live,lJ r T (k+1)];simp;congr 1;omega
theorem Xq {S:Slots} {i:Nat} {b:Bnd} (h:S[i]? =some (some b)):(live 0 S)[(live 0 (S.take i)).length]? =some ((i:Int),b)/\(live 0 (S.take (i+1))).length=(live 0 (S.take i)).length+1:=by
 have u:=(List.getElem?_eq_some_iff.1 h).1;have hS:S[i]=some b:=by rw[getElem?_eq_getElem u] at h;simpa using h
 have e1:S=S.take i++some b::S.drop (i+1):=by
  conv=>lhs;rw[<- take_append_drop i S,List.drop_eq_getElem_cons u,hS]
 have hl:(S.take i).length=i:=by simp;omega
 constructor
 ·conv=>lhs;rw[e1]
  rw[lJ,List.getElem?_append_right (by simp[hl])];simp[live,hl]
 ·rw[List.take_succ_eq_append_getElem u,hS,lJ];simp[live]
theorem Ov {S:Slots} {i:Nat} (h:S[i]? =some none):(live 0 (S.take (i+1))).length=(live 0 (S.take i)).length:=by
 have u:=(List.getElem?_eq_some_iff.1 h).1;have hS:S[i]=none:=by rw[getElem?_eq_getElem u] at h;simpa using h
 rw[List.take_succ_eq_append_getElem u,hS,lJ];simp[live]
theorem afQ (n:Int) (w:θ):JZ n w λp e w'=>Ext w w'/\((¬(0<=n/\n<=4096)/\p=none/\e=1)\/(0<=n/\n<=4096/\e=0/\∃A,p=some ⟨A.d,0,none⟩/\(∀x,fp A x->w.heap.size<=x/\x<w'.heap.size)/\DB w' A n.toNat (List.replicate n.toNat none) (λ_=>none) (λ_=>none))):=by
 apply Zk;by_cases c1:n<0
 ·simp only[c1,decide_true,cond_true];exact⟨Ext.refl _,.inl ⟨by omega,by trivial,by trivial⟩⟩
 by_cases c2:n>4096
 ·simp only[c1,c2,decide_true,decide_false,cond_true,cond_false];exact⟨Ext.refl _,.inl ⟨by omega,by trivial,by trivial⟩⟩
 simp only[c1,c2,decide_false,cond_false];refine cmS6 (Xk n w) ?_;rintro p1 e1 w1 ⟨f1,(⟨_,_,rfl,ti,rfl,l1,t1⟩|⟨u,_,_⟩)⟩;rotate_left
 ·omega
 refine cmS6 (Xk n w1) ?_;rintro p2 e2 w2 ⟨f2,(⟨_,_,rfl,tu,rfl,l2,t2⟩|⟨u,_,_⟩)⟩;rotate_left
 ·omega
 simp only[show ((0:Int) !=0)=false from rfl,cond_false];refine Dc (by omega) (by omega) (by omega) (by omega) λsl w3 r3 e3 z3 f3=> ?_;refine gq λd w4 r4 e4 z4 f4=> ?_;obtain⟨m,rfl⟩:∃m:Nat,n=(m:Int):=⟨n.toNat,by omega⟩;simp only[toNat_natCast] at r3 r4 ⊢;have f1:Ext w w1:=f1;have f2:Ext w1 w2:=f2;have f3:Ext w2 w3:=f3;have x4:Ext w w4:=(f1.trans f2).trans (f3.trans f4);have i1:=t1.ht.hd.lt;have i2:=t2.ht.hd.lt;have s1:=f1.size;have s2:=f2.size;have tV:∀(k j:Nat),live j (List.replicate k none)=[]:=by
  intro k
  induction k with
  |zero=>intro j;rfl
  |succ k ih=>intro j;rw[List.replicate_succ,live];exact ih _
 have rep:∀k,gZ [Β 0,Β 0,Β 0,Β 0,Β 0,Β 0,Β 0,Value.bool false,Value.bool false] k=(List.replicate k (none:Option Bnd)).flatMap iR:=by
  intro k
  induction k with
  |zero=>rfl
  |succ k ih=>rw[gZ,ih,List.replicate_succ,flatMap_cons];rfl
 refine⟨x4,.inr ⟨by omega,by omega,by trivial,⟨d,sl,ti,ti,tu,tu⟩,rfl,?_,?_⟩⟩
 ·intro x hx;rcases hx with hx|hx|hx|hx|hx|hx<;>simp only at hx<;>omega
 ·refine⟨?_,?_,by simp,by omega,⟨[],?_,?_⟩,⟨[],?_,?_⟩,⟨λk v=> ?_,λk v=> ?_,λj b hb=> ?_⟩,?_⟩
  ·rw[tV];exact r4
  ·rw[<- rep];exact r3.ext f4
  ·exact t1.VF (f2.trans (f3.trans f4))
  ·rw[tV];rfl
  ·exact t2.VF (f3.trans f4)
  ·rw[tV];rfl
  ·constructor
   ·intro h;cases h
   ·rintro⟨j,b,hj,_⟩;rw[List.getElem?_replicate] at hj;split at hj<;>simp at hj
  ·constructor
   ·intro h;cases h
   ·rintro⟨j,b,hj,_⟩;rw[List.getElem?_replicate] at hj;split at hj<;>simp at hj
  ·rw[List.getElem?_replicate] at hb;split at hb<;>simp at hb
  ·refine⟨?_,?_,?_,?_,?_,?_,?_,?_,?_,?_,?_,?_,?_⟩<;>simp only<;>omega
end
end Go.Proofs
end
section
namespace Gp.Ses
open Gp.V4
open Gp.Bind (keyB keyS keyS_inj In64 upd)
structure Ses where
 bd:Int
 st:Int
 un:Int
 ra:Int
 rp:Int
deriving DecidableEq
def Ses.k (b:Ses):List Int:=[b.bd,b.ra,b.rp]
def Ses.ok (b:Ses):Prop:=∀n∈b.k,In64 n
abbrev Slots:=List (Option Ses)
def live:Nat->Slots->List (Int×Ses)
 |_,[]=>[]
 |i,none::r=>live (i+1) r
 |i,some b::r=>((i:Int),b)::live (i+1) r
theorem oJ:∀{S:Slots} {k:Nat} {v:Int} {b:Ses},(v,b)∈live k S↔∃i:Nat,S[i]? =some (some b)/\v=((k+i:Nat):Int)
 |[],k,v,b=>by simp[live]
 |none::r,k,v,b=>by
  rw[live,oJ];constructor
  ·rintro⟨i,h1,h2⟩;exact⟨i+1,by simpa using h1,by omega⟩
  ·rintro⟨i,h1,h2⟩
   cases i with
   |zero=>simp at h1
   |succ i=>exact⟨i,by simpa using h1,by omega⟩
 |some c::r,k,v,b=>by
  rw[live,mem_cons,oJ];constructor
  ·rintro(h|⟨i,h1,h2⟩)
   ·simp only[Prod.mk.injEq] at h;exact⟨0,by simp[h.2],by omega⟩
   ·exact⟨i+1,by simpa using h1,by omega⟩
  ·rintro⟨i,h1,h2⟩
   cases i with
   |zero=>
    simp only[List.getElem?_cons_zero,Option.some.injEq] at h1;left;rw[h1,h2];rfl
   |succ i=>right;exact⟨i,by simpa using h1,by omega⟩
theorem jU:∀(S:Slots) (k:Nat),(live k S).length<=S.length
 |[],_=>by simp[live]
 |none::r,k=>by have:=jU r (k+1);simp[live];omega
 |some b::r,k=>by have:=jU r (k+1);simp[live];omega
def freeN:Slots->Option Nat
 |[]=>none
 |none::_=>some 0
 |some _::r=>(freeN r).map (·+1)
theorem jr:∀{S:Slots} {i:Nat} (k:Nat),freeN S=some i->i<S.length/\S[i]? =some none/\(live k S).length<S.length/\i<=(live k S).length/\(∀j,j<i->∃b,(live k S)[j]? =some (((k+j:Nat):Int),b)/\S[j]? =some (some b))/\
  (∀v b,(live k S)[i]? =some (v,b)->v≠((k+i:Nat):Int))/\∀b,live k (S.set i (some b))=(live k S).take i++(((k+i:Nat):Int),b)::(live k S).drop i
 |[],i,_,h=>by simp[freeN] at h
 |none::r,i,k,h=>by
  simp[freeN] at h;subst h;have hl:=jU r (k+1);refine⟨by simp,rfl,by simp[live];omega,by omega,by omega,λv b hv=> ?_,λb=>by simp[live]⟩;have:=List.mem_of_getElem? hv;rw[live,oJ] at this;obtain⟨j,_,hj⟩:=this;omega
 |some c::r,i,k,h=>by
  simp only[freeN,map_eq_some_iff] at h;obtain⟨i',h',rfl⟩:=h;obtain⟨h1,h2,h3,h4,h5,h6,h7⟩:=jr (k+1) h';refine⟨by simp;omega,by simpa using h2,by simp[live];omega,by simp[live];omega,λj hj=> ?_,λv b hv=> ?_,λb=> ?_⟩
  ·cases j with
   |zero=>exact⟨c,by simp[live],by simp⟩
   |succ j=>
    obtain⟨b,g1,g2⟩:=h5 j (by omega);refine⟨b,?_,by simpa using g2⟩;rw[live,List.getElem?_cons_succ,g1,show k+1+j=k+(j+1) by omega]
  ·rw[live,List.getElem?_cons_succ] at hv;have:=h6 v b hv
   rwa [show k+1+i'=k+(i'+1) by omega] at this
  ·rw[List.set_cons_succ,live,h7 b,live,List.take_succ_cons,List.drop_succ_cons,show k+1+i'=k+(i'+1) by omega];rfl
structure GoodS (S:Slots) (M:ByteArray->Option Int):Prop where
 k:∀k v,M k=some v↔∃(j:Nat) (b:Ses),S[j]? =some (some b)/\keyS b.k=k/\v=(j:Int)
 ok:∀(j:Nat) (b:Ses),S[j]? =some (some b)->b.ok
theorem iO {S:Slots} {i j:Nat} {v:Option Ses} (hi:i<S.length):(S.set i v)[j]? =if i=j then some v else S[j]? :=by
 rw[List.getElem?_set];split
 ·rename_i h;subst h;simp
 ·rfl
theorem GoodS.add {S:Slots} {M:ByteArray->Option Int} (h:GoodS S M) {i:Nat} {b:Ses} (hi:S[i]? =some none) (hb:b.ok) (h1:M (keyS b.k)=none):GoodS (S.set i (some b)) (upd M (keyS b.k) (some i)):=by
 have hl:i<S.length:=(List.getElem?_eq_some_iff.1 hi).1;refine⟨λk v=> ?_,λj c hc=> ?_⟩
 ·unfold upd;by_cases hk:k=keyS b.k
  ·rw[if_pos hk];constructor
   ·intro e;exact⟨i,b,by rw[iO hl,if_pos rfl],hk.symm,by simpa using e.symm⟩
   ·rintro⟨j,c,hc,hk2,rfl⟩;rw[iO hl] at hc;split at hc
    ·rename_i e;subst e;rfl
    ·have:=(h.k k j).2 ⟨j,c,hc,hk2,rfl⟩;rw[hk,h1] at this;cases this
  ·rw[if_neg hk,h.k];constructor
   ·rintro⟨j,c,hc,hk2,rfl⟩;refine⟨j,c,?_,hk2,rfl⟩;rw[iO hl,if_neg]
    ·exact hc
    ·rintro rfl;rw[hi] at hc;cases hc
   ·rintro⟨j,c,hc,hk2,rfl⟩;rw[iO hl] at hc;split at hc
    ·rename_i e;subst e;simp only[Option.some.injEq] at hc;subst hc;exact absurd hk2.symm hk
    ·exact⟨j,c,hc,hk2,rfl⟩
 ·rw[iO hl] at hc;split at hc
  ·simp only[Option.some.injEq] at hc;subst hc;exact hb
  ·exact h.ok j c hc
theorem GoodS.one {S:Slots} {M:ByteArray->Option Int} (h:GoodS S M) {i j:Nat} {b c:Ses} (hi:S[i]? =some (some b)) (hj:S[j]? =some (some c)) (e:keyS b.k=keyS c.k):i=j:=by
 have h1:=(h.k _ i).2 ⟨i,b,hi,rfl,rfl⟩;have h2:=(h.k _ j).2 ⟨j,c,hj,rfl,rfl⟩;rw[e,h2] at h1;simp at h1;omega
theorem GoodS.put {S:Slots} {M:ByteArray->Option Int} (h:GoodS S M) {i:Nat} {b b':Ses} (hi:S[i]? =some (some b)) (he:b'.k=b.k):GoodS (S.set i (some b')) M:=by
 have hl:i<S.length:=(List.getElem?_eq_some_iff.1 hi).1;refine⟨λk v=> ?_,λj c hc=> ?_⟩
 ·rw[h.k];constructor
  ·rintro⟨j,c,hc,hk,rfl⟩;by_cases e:i=j
   ·subst e;rw[hi] at hc
    cases hc
    exact⟨i,b',by rw[iO hl,if_pos rfl],by rw[he,hk],rfl⟩
   ·exact⟨j,c,by rw[iO hl,if_neg e];exact hc,hk,rfl⟩
  ·rintro⟨j,c,hc,hk,rfl⟩;rw[iO hl] at hc;split at hc
   ·rename_i e;subst e;cases hc;exact⟨i,b,hi,by rw[<- he,hk],rfl⟩
   ·exact⟨j,c,hc,hk,rfl⟩
 ·rw[iO hl] at hc;split at hc
  ·cases hc
   have:=h.ok i b hi;unfold Ses.ok at this ⊢;rw[he];exact this
  ·exact h.ok j c hc
def getS (S:Slots) (id:Int):Option Ses:=if 0<=id then (S[id.toNat]?).join else none
theorem rH {S:Slots} {id:Int} {b:Ses}:getS S id=some b↔0<=id/\S[id.toNat]? =some (some b):=by
 unfold getS;split
 ·rename_i h;rw[Option.join_eq_some_iff];simp[h]
 ·rename_i h;simp[h]
theorem Sj:∀{S:Slots} {i:Nat} {b:Ses} (b':Ses) (k:Nat),S[i]? =some (some b)->live k (S.set i (some b'))=(live k S).map λx=>if x.1=((k+i:Nat):Int) then (x.1,b') else x
 |[],_,_,_,_,h=>by simp at h
 |none::r,0,b,b',k,h=>by simp at h
 |some c::r,0,b,b',k,h=>by
  have u:∀x∈live (k+1) r,(if x.1=((k+0:Nat):Int) then (x.1,b') else x)=x:=by
   rintro⟨v,b⟩ hx;obtain⟨j,_,hj⟩:=oJ.1 hx;rw[if_neg (by simp only;omega)]
  rw[List.set_cons_zero,live,live,map_cons,if_pos (by simp),List.map_congr_left u,List.map_id']
 |none::r,i+1,b,b',k,h=>by
  rw[List.set_cons_succ,live,live,Sj b' (k+1) (by simpa using h),show k+1+i=k+(i+1) by omega]
 |some c::r,i+1,b,b',k,h=>by
  rw[List.set_cons_succ,live,live,map_cons,Sj b' (k+1) (by simpa using h),show k+1+i=k+(i+1) by omega,if_neg (by simp only;omega)]
theorem GV:∀(S:Slots) (k:Nat),(live k S).Pairwise (λx y=>x.1<y.1)/\∀x∈live k S,(k:Int)<=x.1
 |[],_=>by simp[live]
 |none::r,k=>by
  have:=GV r (k+1);refine⟨this.1,λx hx=> ?_⟩;have:=this.2 x hx;omega
 |some b::r,k=>by
  have:=GV r (k+1);rw[live];refine⟨List.pairwise_cons.2 ⟨λx hx=>by have:=this.2 x hx;simp only;omega,this.1⟩,λx hx=> ?_⟩;rcases List.mem_cons.1 hx with rfl|hx
  ·simp
  ·have:=this.2 x hx;omega
def ids (S:Slots) (k:Int):List Int:=((live 0 S).filter λx=>x.2.bd==k).map (·.1)
theorem uN (S:Slots) (k:Int):(ids S k).Pairwise (·<·):=by
 unfold ids;rw[List.pairwise_map];exact((GV S 0).1.filter _)
theorem EJ {S:Slots} {k v:Int}:v∈ids S k↔∃(i:Nat) (b:Ses),S[i]? =some (some b)/\v=(i:Int)/\b.bd=k:=by
 unfold ids;rw[List.mem_map];constructor
 ·rintro⟨⟨v',b⟩,h,rfl⟩;obtain⟨h1,h2⟩:=List.mem_filter.1 h;obtain⟨i,h3,h4⟩:=oJ.1 h1;exact⟨i,b,h3,by simp only;omega,by simpa using h2⟩
 ·rintro⟨i,b,h1,rfl,h2⟩;exact⟨((i:Int),b),List.mem_filter.2 ⟨oJ.2 ⟨i,h1,by omega⟩,by simpa using h2⟩,rfl⟩
theorem O8 {l m:List Int} (hl:l.Pairwise (·<·)) (hm:m.Pairwise (·<·)) (h:∀v,v∈l↔v∈m):l=m:=by
 induction l generalizing m with
 |nil=>
  cases m with
  |nil=>rfl
  |cons a m=>have:=(h a).2 (by simp);simp at this
 |cons a l ih=>
  cases m with
  |nil=>have:=(h a).1 (by simp);simp at this
  |cons b m=>
   rw[List.pairwise_cons] at hl hm;have h1:=(h a).1 (by simp);have h2:=(h b).2 (by simp);have u:a=b:=by
    rcases List.mem_cons.1 h1 with e|e
    ·exact e
    ·rcases List.mem_cons.1 h2 with e'|e'
     ·exact e'.symm
     ·have:=hm.1 a e;have:=hl.1 b e';omega
   subst u;rw[ih hl.2 hm.2 λv=> ?_];have:=h v;constructor
   ·intro hv;rcases List.mem_cons.1 (this.1 (by simp[hv])) with e|e
    ·have:=hl.1 v hv;omega
    ·exact e
   ·intro hv;rcases List.mem_cons.1 (this.2 (by simp[hv])) with e|e
    ·have:=hm.1 v hv;omega
    ·exact e
theorem af6 {S:Slots} {i:Nat} {b:Ses} (hi:S[i]? =some none) {p:Nat} (h1:∀(j:Nat) v,j<p->(ids S b.bd)[j]? =some v->v<(i:Int)) (h2:∀(j:Nat) v,p<=j->(ids S b.bd)[j]? =some v->¬v<(i:Int)) (hp:p<=(ids S b.bd).length):
  ids (S.set i (some b)) b.bd=(ids S b.bd).take p++(i:Int)::(ids S b.bd).drop p:=by
 have hl:i<S.length:=(List.getElem?_eq_some_iff.1 hi).1;have u:(i:Int)∉ids S b.bd:=λh=>by
  obtain⟨j,c,hc,hj,_⟩:=EJ.1 h;have:i=j:=by omega
  subst this;rw[hi] at hc;cases hc
 have hs:=uN S b.bd;refine O8 (uN _ _) ?_ λv=> ?_
 ·rw[List.pairwise_append,List.pairwise_cons];refine⟨hs.sublist (List.take_sublist ..),⟨λq hq=> ?_,hs.sublist (List.drop_sublist ..)⟩,λq hq r hr=> ?_⟩
  ·obtain⟨k,hk⟩:=List.getElem?_of_mem hq;rw[List.getElem?_drop] at hk;have:=h2 _ q (by omega) hk;have:q≠(i:Int):=λe=>u (e ▸ List.mem_of_mem_drop hq);omega
  ·obtain⟨k,hk,he⟩:=List.mem_take_iff_getElem.1 hq;have I:=h1 k q (by omega) (by rw[getElem?_eq_getElem (by omega),he]);rcases List.mem_cons.1 hr with rfl|hr
   ·exact I
   ·obtain⟨k',hk'⟩:=List.getElem?_of_mem hr;rw[List.getElem?_drop] at hk';have:=h2 _ r (by omega) hk';omega
 ·rw[EJ,List.mem_append,mem_cons,<- or_assoc,or_right_comm,or_comm (b:=v=(i:Int)),<- List.mem_append,take_append_drop,EJ];constructor
  ·rintro⟨j,c,hc,rfl,hb⟩;rw[iO hl] at hc;split at hc
   ·rename_i e;exact .inl (by rw[e])
   ·exact .inr ⟨j,c,hc,rfl,hb⟩
  ·rintro(rfl|⟨j,c,hc,rfl,hb⟩)
   ·exact⟨i,b,by rw[iO hl,if_pos rfl],rfl,rfl⟩
   ·refine⟨j,c,?_,rfl,hb⟩;rw[iO hl,if_neg]
    ·exact hc
    ·rintro rfl;rw[hi] at hc;cases hc
theorem Uz {S:Slots} {i:Nat} {b:Ses} (hi:S[i]? =some none) {k:Int} (hk:k≠b.bd):ids (S.set i (some b)) k=ids S k:=by
 have hl:i<S.length:=(List.getElem?_eq_some_iff.1 hi).1;refine O8 (uN _ _) (uN _ _) λv=> ?_;rw[EJ,EJ];constructor
 ·rintro⟨j,c,hc,rfl,hb⟩;rw[iO hl] at hc;split at hc
  ·cases hc;exact absurd hb.symm hk
  ·exact⟨j,c,hc,rfl,hb⟩
 ·rintro⟨j,c,hc,rfl,hb⟩;refine⟨j,c,?_,rfl,hb⟩;rw[iO hl,if_neg]
  ·exact hc
  ·rintro rfl;rw[hi] at hc;cases hc
theorem abg {S:Slots} {i:Nat} {b b':Ses} (hi:S[i]? =some (some b)) (he:b'.bd=b.bd) (k:Int):ids (S.set i (some b')) k=ids S k:=by
 have hl:i<S.length:=(List.getElem?_eq_some_iff.1 hi).1;refine O8 (uN _ _) (uN _ _) λv=> ?_;rw[EJ,EJ];constructor
 ·rintro⟨j,c,hc,rfl,hb⟩;rw[iO hl] at hc;split at hc
  ·rename_i e;subst e;cases hc;exact⟨i,b,hi,rfl,by rw[<- he,hb]⟩
  ·exact⟨j,c,hc,rfl,hb⟩
 ·rintro⟨j,c,hc,rfl,hb⟩;by_cases e:i=j
  ·subst e;rw[hi] at hc
   cases hc
   exact⟨i,b',by rw[iO hl,if_pos rfl],rfl,by rw[he,hb]⟩
  ·exact⟨j,c,by rw[iO hl,if_neg e];exact hc,rfl,hb⟩
theorem abf (S:Slots) (k:Int):(ids S k).length<=S.length:=by
 unfold ids;rw[List.length_map];exact Nat.le_trans (List.length_filter_le ..) (jU S 0)
end Gp.Ses
end
section
namespace Go.Proofs.SN
open Gp Gp.Hash
abbrev eI (x:Int):List Value:=[Β x]
theorem jX (x:Int):(eI x).length=1:=rfl
theorem Ro (x:Int):∀v∈eI x,iL v=true:=by intro v hv;rw[List.mem_singleton.1 hv];rfl
theorem SlN_ix {α:Type} {n:Nat} {f:α->List Value} {w:θ} {s:fU} {xs:List α} (hn:∀x,(f x).length=n) (hn0:0<n) (h:mQ n f w s xs) {i:Int} {K:Addr->Prop} {x:α} (h0:0<=i) (hx:xs[i.toNat]? =some x)
  (hK:∀a:Addr,(∀j v,(f x)[j]? =some v->w.cell? (a.add j)=some v)->K a):iM s n i K:=by
 obtain⟨a,ha,hc⟩:=h.at_ hn hn0 hx;have hlt:=(List.getElem?_eq_some_iff.1 hx).1;obtain⟨sa,sl,sc⟩:=s;simp only at ha;subst ha;have hl:sl=xs.length:=h.len;refine(uQ ..).2 ⟨h0,by omega,hK _ λj v hj=> ?_⟩;rw[<- hc j v hj];congr 1;obtain⟨b,o,t⟩:=a;unfold Addr.add;by_cases h1:i.toNat * n=0<;>by_cases h2:j=0<;>simp[h1,h2,Nat.add_assoc]
theorem af2 {a b:Nat} (h:a+b<=2^40):ο.wrap (jH .u64 (IntKind.u64.wrap (ο.wrap ((a:Int)+(b:Int)))) 1)=(((a+b) / 2:Nat):Int):=by
 rw[Α (n:=(a:Int)+(b:Int)) (by omega) (by omega)];have h1:IntKind.u64.wrap ((a:Int)+(b:Int))=((a+b:Nat):Int):=by
  simp only[IntKind.wrap,IntKind.bits,IntKind.signed,Bool.false_and,Bool.false_eq_true,if_false];omega
 rw[h1];have h2:jH .u64 ((a+b:Nat):Int) 1=(((a+b) / 2:Nat):Int):=by
  unfold jH;have:min (1:Int).toNat IntKind.u64.bits=1:=rfl;rw[this];rw[Int.fdiv_eq_ediv_of_nonneg _ (by decide)];omega
 rw[h2,Α]
theorem aeH (a:Int) (w:θ):uj a w λr w'=>r=false/\w'=w:=by
 apply OH;exact⟨by simp,rfl⟩
theorem acs {w:θ} {s:fU} {xs:List Int} {y:Int} {vb i:Nat} (hs:iV 1 eI w s xs) (hy:Row w vb (eI y)) (hv:∀b,fU.at s b->b≠vb) (hi:i<=xs.length) (hl:xs.length<=2^30):
  oH s (i:Int) ⟨some ⟨vb,0,none⟩,1,1⟩ w λr w'=>iV 1 eI w' r (xs.take i++y::xs.drop i)/\gW w w' (fU.at s)/\∀b,fU.at r b->fU.at s b\/w.heap.size<=b:=by
 apply CU;have hlen:=hs.len;have af:=hs.sl jX (by omega);have U:=af.cap;have ag:mQ 1 eI w ⟨some ⟨vb,0,none⟩,1,1⟩ [y]:=(iV.row (xs:=[y]) (f:=eI) (n:=1) (by simpa using hy)).sl jX (by omega);refine aaX jX af (by omega) (by omega) (by omega) λs4 _=> ?_;simp only;rw[show (((1:Nat):Int)==0)=false from rfl,cond_false];by_cases he:(i:Int)=(s.len:Int)
 ·rw[show ((i:Int)==(s.len:Int))=true by simpa using he,cond_true];refine mD jX hs ag rfl (by omega) Ro (by simp only[List.length_singleton];omega) (by simp only[List.length_singleton];omega) λs' w' h1 h2 h3=> ?_;refine⟨?_,h2,h3⟩;rw[List.take_of_length_le (by omega),List.drop_of_length_le (by omega)];exact h1
 rw[show ((i:Int)==(s.len:Int))=false by simpa using he,cond_false];have hi':i<xs.length:=by omega
 have hx:=getElem?_eq_getElem hi';generalize xs[i]=x at hx;obtain⟨b,pad,ha,hc,hr⟩:∃b pad,s.a=some ⟨b,0,none⟩/\s.cap * 1=xs.length * 1+pad.length/\Row w b (xs.flatMap eI++pad):=by
  rcases hs.mem with ⟨_,h,_⟩|h
  ·rw[h] at hi';simp at hi'
  ·exact h
 have ah:b≠vb:=hv b ⟨0,ha⟩;obtain⟨sa,sl,sc⟩:=s;simp only at ha hc hlen U he;subst ha;subst hlen;have lt:=jo eI 1 jX (xs.take i);have ld:=jo eI 1 jX (xs.drop i);have ld1:=jo eI 1 jX (xs.drop (i+1));rw[length_take,Nat.min_eq_left (by omega)] at lt;rw[length_drop] at ld ld1;have oned:∀v∈(xs.drop i).flatMap eI,iL v=true:=λv hv=>by
  obtain⟨z,_,hz⟩:=List.mem_flatMap.1 hv;exact Ro z v hz
 rw[Α (n:=(xs.length:Int)+((1:Nat):Int)) (by omega) (by omega)];by_cases hg:(xs.length:Int)+((1:Nat):Int)>(sc:Int)
 ·rw[decide_eq_true hg,cond_true];refine⟨by(try simp only);omega,by(try simp only);omega,by(try simp only);omega,?_⟩
  rw[Α,show ((xs.length:Int)+((1:Nat):Int)) - (i:Int)=((xs.length+1 - i:Nat):Int) by omega];simp only[toNat_natCast,Int.toNat_zero,Nat.sub_zero];have Y:qm (some (⟨b,0,none⟩:Addr)) sc 0 1=some ⟨b,0,none⟩:=by
   unfold qm;split<;>simp[Addr.add]
  rw[Y];have Z:mF w (some ⟨b,0,none⟩) (i * 1) ((xs.take i).flatMap eI):=by
   refine N_ (A:=[]) (C:=(xs.drop i).flatMap eI++pad) ?_ rfl lt;rw[Xc (i:=i),append_assoc] at hr;exact hr
  refine JQ (m:=xs.length+1 - i) (by simp only;omega) (by simp only;omega) (by simp only;omega) Z λc w1 hc1 r1 f1 z1=> ?_;simp only at hc1 r1 ⊢;rw[show i+(xs.length+1 - i)=xs.length+1 by omega] at hc1 r1 ⊢;obtain⟨k,hk⟩:∃k,xs.length+1 - i=k+1:=⟨xs.length - i,by omega⟩;rw[hk] at r1;have u:∀j:Nat,j<c->qm (some (⟨w.heap.size,0,none⟩:Addr)) c j 1=some ⟨w.heap.size,j * 1,none⟩:=by
   intro j hj;unfold qm;rw[if_neg (by omega),map_some,gy,Nat.zero_add]
  refine⟨by(try simp only);omega,by(try simp only);omega,by(try simp only);omega,?_⟩
  simp only[toNat_natCast];rw[u i (by omega)];have r1':Row w1 w.heap.size ((xs.take i).flatMap eI++([Β 0]++(gZ [Β 0] k++gZ [Β 0] (c - (xs.length+1))))):=by
   simpa [gZ] using r1
  have aa:=ag.ext f1;refine uq (m:=1) (vs:=eI y) (by show min (_:Nat) _=_;simp only;omega) (by have:=aa.cells;simpa using this) r1' (by simp only[length_append,length_cons,length_nil];omega) (Ro y) λw2 r2 f2=> ?_;rw[<- lt,NC (by rfl)] at r2;rw[Α (n:=(i:Int)+((1:Nat):Int)) (by omega) (by omega),show (i:Int)+((1:Nat):Int)=((i+1:Nat):Int) by omega];refine⟨by(try simp only);omega,by(try simp only);omega,by(try simp only);omega,?_⟩
  simp only[toNat_natCast];rw[u (i+1) (by omega)];have hr2:=((hr.ext f1).fr f2 (by have:=hr.lt;omega)).drew;refine⟨by(try simp only);omega,by(try simp only);omega,by(try simp only);omega,?_⟩
  simp only[toNat_natCast];have J:qm (some (⟨b,0,none⟩:Addr)) sc i 1=some ⟨b,i * 1,none⟩:=by
   unfold qm;rw[if_neg (by omega),map_some,gy,Nat.zero_add]
  rw[J];have I:mF w2.drew (some ⟨b,i * 1,none⟩) ((xs.length - i) * 1) ((xs.drop i).flatMap eI):=by
   refine N_ (A:=(xs.take i).flatMap eI) (C:=pad) ?_ lt ld;rw[Xc (i:=i),append_assoc] at hr2;exact hr2
  have r2':Row w2.drew w.heap.size (((xs.take i).flatMap eI++eI y)++(gZ [Β 0] k++gZ [Β 0] (c - (xs.length+1)))):=by
   rw[append_assoc];exact r2.drew
  have lA:((xs.take i).flatMap eI++eI y).length=(i+1) * 1:=by rw[length_append,lt,jX];omega
  have lk:(gZ [Β 0] k).length=((xs.drop i).flatMap eI).length:=by rw[nD,ld];simp only[length_cons,length_nil];omega
  refine uq (m:=xs.length - i) (vs:=(xs.drop i).flatMap eI) (by show min (_:Nat) _=_;simp only;omega) I r2' (by rw[length_append,lA,length_append,lk];omega) oned λw3 r3 f3=> ?_;rw[<- lA,NC lk] at r3;have f23:gW w1 w3 (·=w.heap.size):=(f2.ext (Ext.drew w2)).trans f3 λ_ _ e=>e;refine⟨⟨by simp;omega,.inr ⟨w.heap.size,gZ [Β 0] (c - (xs.length+1)),rfl,?_,?_⟩⟩,f1.new f23 (by intro x hx e;omega) _,λb' hb'=> ?_⟩
  ·rw[nD];simp only[length_append,length_take,length_cons,length_drop,length_nil];omega
  ·rw[flatMap_append,flatMap_cons];simpa using r3
  ·obtain⟨o,e⟩:=hb'
   cases e
   exact .inr (Nat.le_refl _)
 ·rw[decide_eq_false hg,cond_false];obtain⟨p1,p2,hp,lp1⟩:∃p1 p2,pad=p1++p2/\p1.length=1:=⟨pad.take 1,pad.drop 1,(take_append_drop 1 pad).symm,by rw[length_take];omega⟩;subst hp;refine⟨by(try simp only);omega,by(try simp only);omega,by(try simp only);omega,?_⟩
  rw[Α (n:=(i:Int)+((1:Nat):Int)) (by omega) (by omega),show (i:Int)+((1:Nat):Int)=((i+1:Nat):Int) by omega];have N:qm (some (⟨b,0,none⟩:Addr)) sc 0 1=some ⟨b,0,none⟩:=by
   unfold qm;split<;>simp[Addr.add]
  have u:∀j:Nat,j<sc->qm (some (⟨b,0,none⟩:Addr)) sc j 1=some ⟨b,j * 1,none⟩:=by
   intro j hj;unfold qm;rw[if_neg (by omega),map_some,gy,Nat.zero_add]
  simp only[Int.toNat_zero,Nat.sub_zero,N];refine⟨by(try simp only);omega,by(try simp only);omega,by(try simp only);omega,?_⟩
  simp only[toNat_natCast];rw[u (i+1) (by omega)];have O:xs.flatMap eI=(xs.take i).flatMap eI++(eI x++(xs.drop (i+1)).flatMap eI):=ϱ hx;refine Uj Tryz.func336 (by kernel_rfl) (by kernel_rfl) (by kernel_rfl) (tS:=28) (tR:=4) (by kernel_rfl) (e:=3) (by kernel_rfl) (by kernel_rfl) hy hr (λe=>ah e.symm) (by
   intro h;have:=congrArg List.length h;simp only[length_append,length_nil] at this;omega) ?_
  refine⟨false,rfl,?_⟩;rw[Bool.not_false,cond_true];refine⟨by(try simp only);omega,by(try simp only);omega,by(try simp only);omega,?_⟩
  simp only[toNat_natCast];rw[u (i+1) (by omega)];refine⟨by(try simp only);omega,by(try simp only);omega,by(try simp only);omega,?_⟩
  simp only[toNat_natCast];rw[u i (by omega)];have R:=hr.drew;have I:mF w.drew (some ⟨b,i * 1,none⟩) ((xs.length - i) * 1) ((xs.drop i).flatMap eI):=by
   refine N_ (A:=(xs.take i).flatMap eI) (C:=p1++p2) ?_ lt ld;rw[Xc (i:=i),append_assoc] at R;exact R
  have r0:Row w.drew b (((xs.take i).flatMap eI++eI x)++(((xs.drop (i+1)).flatMap eI++p1)++p2)):=by
   rw[O] at R;simpa using R
  have lA:((xs.take i).flatMap eI++eI x).length=(i+1) * 1:=by rw[length_append,lt,jX];omega
  have lB:((xs.drop (i+1)).flatMap eI++p1).length=((xs.drop i).flatMap eI).length:=by rw[length_append,ld1,ld,lp1];omega
  refine uq (m:=xs.length - i) (vs:=(xs.drop i).flatMap eI) (by show min (_:Nat) _=_;simp only;omega) I r0 (by rw[length_append,lA,length_append,lB];omega) oned λw2 r2 f2=> ?_;rw[<- lA,NC lB] at r2;refine⟨by(try simp only);omega,by(try simp only);omega,by(try simp only);omega,?_⟩
  simp only[toNat_natCast];rw[u i (by omega)];have hy2:Row w2 vb (eI y):=hy.drew.fr f2 (λe=>ah e.symm);have ac:mQ 1 eI w2 ⟨some ⟨vb,0,none⟩,1,1⟩ [y]:=(iV.row (xs:=[y]) (f:=eI) (n:=1) (by simpa using hy2)).sl jX (by omega);have r2':Row w2 b ((xs.take i).flatMap eI++(eI x++((xs.drop i).flatMap eI++p2))):=by simpa using r2
  refine uq (m:=1) (vs:=eI y) (by show min (_:Nat) _=_;simp only;omega) (by have:=ac.cells;simpa using this) r2' (by simp only[length_append,jX];omega) (Ro y) λw3 r3 f3=> ?_;rw[<- lt,NC (by rfl)] at r3;have f13:gW w w3 (·=b):=((gW.drew w _).trans f2 λ_ _ e=>e).trans f3 λ_ _ e=>e;refine⟨⟨by simp;omega,.inr ⟨b,p2,rfl,?_,?_⟩⟩,f13.mono λc hc=>⟨0,by rw[hc]⟩,λb' hb'=> .inl ?_⟩
  ·simp only[length_append,length_take,length_cons,length_drop] at hc ⊢;omega
  ·rw[flatMap_append,flatMap_cons];simpa using r3
  ·obtain⟨o,e⟩:=hb';exact⟨o,e⟩
theorem acu (a:Int) (w:θ):pJ a w λr w'=>r=false/\w'=w:=by
 apply JA;exact⟨by simp,rfl⟩
theorem agi (a b:Int) (w:θ):zL a b w λr w'=>r=decide (a<b)/\w'=w:=by
 apply Qa;intro J;refine cmS0 (aeH _ _) ?_;rintro r w' ⟨rfl,hw⟩;subst hw;rw[cond_false];exact⟨rfl,rfl⟩
theorem Il {w:θ} {s:fU} {l:List Int} (h:mQ 1 eI w s l) {k:Nat} {z:Int} (hk:l[k]? =some z) {K:Addr->Prop} (hK:∀a,w.cell? a=some (Β z)->K a):iM s 1 (k:Int) K:=
 SlN_ix jX (by omega) h (by omega) (by rw[toNat_natCast];exact hk) λa hc=>hK a (hc 0 _ rfl)
theorem ahu {w:θ} {s:fU} {xs:List Int} (hs:mQ 1 eI w s xs) (hl:xs.length<=2^30) (N:xs.Pairwise (·<·)) (v:Int):
  lI s v w λr _ w'=>(∃i:Nat,r=(i:Int)/\i<=xs.length/\(∀(k:Nat) u,k<i->xs[k]? =some u->u<v)/\∀(k:Nat) u,i<=k->xs[k]? =some u->¬u<v)/\w'=w:=by
 apply wZ;have hlen:=hs.len;have mono:∀(i j:Nat) (u u':Int),i<j->xs[i]? =some u->xs[j]? =some u'->u<u':=by
  intro i j u u' O h1 h2;obtain⟨g1,rfl⟩:=List.getElem?_eq_some_iff.1 h1;obtain⟨g2,rfl⟩:=List.getElem?_eq_some_iff.1 h2;exact List.pairwise_iff_getElem.1 N i j g1 g2 O
 refine gX (λst W=>∃i j:Nat,i<=j/\j<=xs.length/\st.1=(i:Int)/\st.2.1=(j:Int)/\W=w/\(∀(k:Nat) u,k<i->xs[k]? =some u->u<v)/\∀(k:Nat) u,j<=k->xs[k]? =some u->¬u<v)
  (λst _=>(st.2.1 - st.1).toNat) ⟨0,xs.length,by omega,by omega,rfl,by simp only;omega,rfl,λk u h=>by omega,λk u h hx=>by
   have:=(List.getElem?_eq_some_iff.1 hx).1;omega⟩ ?_
 rintro⟨i',j',⟨⟩⟩ W ⟨i,j,O,hj,hi1,hj1,rfl,hb,ha⟩ next I
 simp only at hi1 hj1;subst hi1 hj1;simp -zeta only[af2 (show i+j<=2^40 by omega)];by_cases R:(i:Int)<(j:Int)
 ·rw[decide_eq_true R,cond_true];refine⟨by decide,?_⟩;have hm:(i+j) / 2<xs.length:=by omega
  have hx:=getElem?_eq_getElem hm;generalize xs[(i+j) / 2]=u at hx;refine Il hs hx λa hc=> ?_;simp -zeta only[sx,hc];refine cmS0 (agi _ _ _) ?_;rintro r w' ⟨rfl,hw⟩;subst hw;by_cases hg:u<v
  ·rw[decide_eq_true hg,cond_true,Α];refine I _ _ ⟨(i+j) / 2+1,j,by omega,hj,by simp,rfl,rfl,λk z hk hz=> ?_,ha⟩ (by simp only;omega);rcases Nat.lt_or_ge k ((i+j) / 2) with h|h
   ·have:=mono _ _ _ _ h hz hx;omega
   ·have:k=(i+j) / 2:=by omega
    subst this;rw[hx] at hz
    cases hz
    exact hg
  ·rw[decide_eq_false hg,cond_false];refine I _ _ ⟨i,(i+j) / 2,by omega,by omega,rfl,rfl,rfl,hb,λk z hk hz=> ?_⟩ (by simp only;omega);rcases Nat.lt_or_ge ((i+j) / 2) k with h|h
   ·have:=mono _ _ _ _ h hx hz;omega
   ·have:k=(i+j) / 2:=by omega
    subst this;rw[hx] at hz
    cases hz
    exact hg
 ·rw[decide_eq_false R,cond_false];have:i=j:=by omega
  subst this;intro J;have fin:∀b,J (i:Int) b W:=λb=>⟨⟨i,rfl,hj,hb,ha⟩,rfl⟩;clear_value J;by_cases hg:(i:Int)<(s.len:Int)
  ·rw[decide_eq_true hg,cond_true];have hx:=getElem?_eq_getElem (show i<xs.length by omega);generalize xs[i]=u at hx;refine Il hs hx λa hc=> ?_;simp -zeta only[sx,hc];by_cases he:u=v
   ·rw[show (u==v)=true by simpa using he,cond_true];exact fin _
   ·rw[show (u==v)=false by simpa using he,cond_false];refine Il hs hx λa hc=> ?_;simp -zeta only[f_,gJ,hc];refine cmS0 (acu _ _) ?_;rintro r w' ⟨rfl,hw⟩;subst hw;rw[cond_false];exact fin _
  ·rw[decide_eq_false hg,cond_false];exact fin _
theorem Ob {w:θ} {s:fU} {xs:List Int} (hs:mQ 1 eI w s xs) (hl:xs.length<=2^30):
  kL s w λr w'=>Ext w w'/\iV 1 eI w' r xs/\∀b,fU.at r b->w.heap.size<=b:=by
 apply DR;have hlen:=hs.len
 cases ha:s.a with
 |none=>
  have hc:=hs.cells;rw[ha] at hc;have h0:xs.flatMap eI=[]:=hc;have u:=jo eI 1 jX xs;rw[h0] at u;have:xs=[]:=by
   cases xs with
   |nil=>rfl
   |cons _ _=>simp only[length_cons,length_nil] at u;omega
  subst this;simp only[Option.isNone_none,cond_true];exact⟨Ext.refl _,iV.nil,λb ⟨o,hb⟩=>by cases hb⟩
 |some a=>
  simp only[Option.isNone_some,cond_false];refine gq λt w1 rt et zt f1=> ?_;have hb:iV 1 eI w1 ⟨some ⟨t,0,none⟩,0,0⟩ ([]:List Int):=iV.row (xs:=[]) rt;refine mD jX hb (hs.ext f1) rfl (by omega) Ro (by simp only[length_nil];omega) (by simp only[length_nil];omega) λs' w' h1 h2 h3=> ?_;refine⟨f1.new h2 λb hb ⟨o,he⟩=>by cases he;omega,h1,λb hb=> ?_⟩;rcases h3 b hb with ⟨o,he⟩|h
  ·cases he;omega
  ·omega
theorem aht (m:Nat):V4.jD 8 m=V4.jD 4 (m / 4294967296)++V4.jD 4 (m % 4294967296):=by
 simp only[V4.jD,cons_append,List.nil_append,List.cons.injEq,and_true];refine⟨?_,?_,?_,?_,?_,?_,?_,?_⟩<;>apply UInt8.toNat_inj.1<;>simp<;>omega
theorem aeB {x:Int} (h:Bind.In64 x):kF .i64 (jH .i64 x 32) 4294967295=(((x % 18446744073709551616).toNat / 4294967296:Nat):Int)/\kF .i64 x 4294967295=(((x % 18446744073709551616).toNat % 4294967296:Nat):Int):=by
 obtain⟨h1,h2⟩:=h;have low:∀y:Int,kF .i64 y 4294967295=(((y % 18446744073709551616).toNat % 4294967296:Nat):Int):=by
  intro y;unfold kF;have e1:(BitVec.ofInt (IntKind.bits .i64) y).toNat=(y % 18446744073709551616).toNat:=by rw[r_,BitVec.toNat_ofInt];rfl
  have e2:(BitVec.ofInt (IntKind.bits .i64) 4294967295).toNat=2^32 - 1:=by rw[r_,BitVec.toNat_ofInt];rfl
  rw[BitVec.toNat_and,e1,e2,AZ];rw[Α]
 refine⟨?_,low x⟩;rw[low];unfold jH;have e:(2:Int)^(min (32:Int).toNat (IntKind.bits .i64))=4294967296:=by decide
 rw[e,Int.fdiv_eq_ediv_of_nonneg _ (by omega)];omega
theorem abw (bd ra rp:Int) (hr:∀n∈[bd,ra,rp],Bind.In64 n) (w:θ):xC bd ra rp w λr w'=>r=Bind.keyS [bd,ra,rp]/\Ext w w':=by
 apply TD;refine gq λa w1 r1 e1 z1 f1=> ?_;simp only[Vm,gy,Nat.zero_add,d_,f_,gJ,r1.cell];refine gq λb w2 h e2 z2 f2=> ?_;have f12:=f1.trans f2;obtain⟨ns,J⟩:∃ns:List Int,ns=[bd,ra,rp]:=⟨_,rfl⟩;have hl:ns.length<=10:=by rw[J];simp
 have hl3:ns.length=3:=by rw[J];rfl
 have h:Row w2 b (ns.map λn=>Β n):=by rw[J];exact h
 rw[<- J] at hr ⊢;have e3:(3:Int)=(ns.length:Int):=by omega
 have e3n:(⟨some ⟨b,0,none⟩,3,3⟩:fU)=⟨some ⟨b,0,none⟩,ns.length,3⟩:=by rw[hl3]
 rw[e3n,e3];refine gX (λst W=>∃i:Nat,i<=ns.length/\st.2.1=(i:Int)/\iq W st.1 (Bind.keyB (ns.take i))/\Ext w2 W) (λst _=>ns.length - st.2.1.toNat) ⟨0,by omega,rfl,iq.nil,Ext.refl _⟩ ?_;rintro⟨s,x,⟨⟩⟩ W ⟨i,hi,rfl,hs,hx⟩ next I
 have hs:iq W s (Bind.keyB (ns.take i)):=hs;by_cases N:i<ns.length
 ·have u:((i:Int)<(ns.length:Int)):=by omega
  simp only[sx,u,decide_true,toNat_natCast,Nat.mul_one,(h.ext hx).cell,List.getElem?_map,getElem?_eq_getElem N,map_some];refine⟨by omega,by trivial,by omega,?_⟩;obtain⟨e1,e2⟩:=aeB (hr _ (List.getElem_mem N));rw[e1,e2];generalize hm:(ns[i] % 18446744073709551616).toNat=m;have hm2:m<18446744073709551616:=by omega
  have kl:=Bind.MJ (ns.take i);have kl2:(ns.take i).length<=10:=by simp;omega
  refine cmS2 (uO hs (by omega) _ 4) ?_;rintro t1 w1 ⟨b1,f1,_⟩;have p1:jv (Bind.keyB (ns.take i)) ((m / 4294967296:Nat):Int) 4=Bind.keyB (ns.take i)++V4.jD 4 (m / 4294967296):=by
   unfold jv;rw[if_pos ⟨⟨by omega,by omega⟩,by omega,by simp;omega⟩];rfl
  rw[p1] at b1;refine cmS2 (uO (iq.iD b1) (by simp[V4.iG];omega) _ 4) ?_;rintro t2 w2 ⟨b2,f2,_⟩;have p2:jv (Bind.keyB (ns.take i)++V4.jD 4 (m / 4294967296)) ((m % 4294967296:Nat):Int) 4=Bind.keyB (ns.take i)++V4.jD 4 (m / 4294967296)++V4.jD 4 (m % 4294967296):=by
   unfold jv;rw[if_pos ⟨⟨by omega,by omega⟩,by omega,by simp;omega⟩];rfl
  rw[p2] at b2;rw[Α];refine I _ _ ⟨i+1,by omega,by simp,?_,(hx.trans f1).trans f2⟩ (by simp only;omega);have ek:Bind.keyB (ns.take (i+1))=Bind.keyB (ns.take i)++V4.jD 4 (m / 4294967296)++V4.jD 4 (m % 4294967296):=by
   rw[List.take_succ_eq_append_getElem N];unfold Bind.keyB;rw[flatMap_append,List.flatMap_singleton,hm,aht,append_assoc]
  rw[ek];exact iq.iD b2
 ·have u:¬((i:Int)<(ns.length:Int)):=by omega
  simp only[u,decide_false,cond_false];have:i=ns.length:=by omega
  subst this;rw[List.take_length] at hs;exact Ph hs ⟨rfl,f12.trans hx⟩
theorem wW (l:List Int) (h:l.length<=10):(Bind.keyS l).size<=2^63 - 1:=by
 have:(Bind.keyS l).size=(Bind.keyB l).length:=rfl;rw[this,Bind.MJ];omega
end Go.Proofs.SN
end
section
namespace Go.Proofs.SN
open Gp Gp.Hash
open Gp.Ses (Ses Slots live GoodS freeN getS ids)
open Gp.Bind (In64)
def iR:Option Ses->List Value
 |none=>afp
 |some b=>[Β b.bd,Β b.st,Β b.un,Β b.ra,Β b.rp,.bool true]
theorem kM (o:Option Ses):(iR o).length=6:=by cases o<;>rfl
theorem O7 (o:Option Ses):(iR o).all iL=true:=by cases o<;>rfl
theorem AL (o:Option Ses):(iR o)[5]? =some (.bool o.isSome):=by cases o<;>rfl
def encI (k:Int):Value:= Β k
def slV (s:fU):Value:= Δ s
abbrev OL:=List (Int×fU)
theorem eqI (a b:Int):Fa υ 16 3 (encI a) (encI b)=some (decide (a=b)):=by
 have h:Fa υ 16 3 (Β a) (Β b)=some (a==b):=by kernel_rfl
 rw[encI,encI,h];congr 1
theorem aiK (a:Int):ny υ 3 (encI a)=true:=by
 have h:ny υ 3 (Β a)=true:=by kernel_rfl
 exact h
def ownB (l:OL) (b:Nat):Prop:=∃k s,vw l k=some s/\fU.at s b
structure JU (w:θ) (m:Nat) (l:OL) (S:Slots):Prop where
 mp:pY encI slV w m l
 nd:(l.map (·.1)).Nodup
 has:∀k s,vw l k=some s->iV 1 eI w s (ids S k)
 non:∀k,vw l k=none->ids S k=[]
 ap:∀k k' s s' b,k≠k'->vw l k=some s->vw l k'=some s'->fU.at s b->¬fU.at s' b
 ne:∀b,ownB l b->b≠m
section
variable {w w':θ} {m:Nat} {l:OL} {S S':Slots}
theorem JU.fr {F:Nat->Prop} (h:JU w m l S) (hf:gW w w' F) (hm:¬F m) (ho:∀b,ownB l b->¬F b):JU w' m l S:=
 ⟨h.mp.fr hf hm,h.nd,λk s hk=>(h.has k s hk).fr hf λb hb=>ho b ⟨k,s,hk,hb⟩,h.non,h.ap,h.ne⟩
theorem JU.lt (h:JU w m l S) {b:Nat} (hb:ownB l b):b<w.heap.size:=by
 obtain⟨k,s,hk,hs⟩:=hb;exact(h.has k s hk).lt hs
def lkS (l:OL) (k:Int):fU:=(vw l k).getD ⟨none,0,0⟩
theorem Sl {k:Int} {b:Nat} (h:fU.at (lkS l k) b):∃s,vw l k=some s/\lkS l k=s/\fU.at s b:=by
 unfold lkS at h ⊢
 cases hl:vw l k with
 |none=>rw[hl] at h;obtain⟨o,ho⟩:=h;cases ho
 |some s=>rw[hl] at h;exact⟨s,rfl,rfl,h⟩
theorem JU.buf (h:JU w m l S) (k:Int):iV 1 eI w (lkS l k) (ids S k):=by
 unfold lkS
 cases hl:vw l k with
 |none=>rw[h.non k hl];exact iV.nil
 |some s=>exact h.has k s hl
theorem JU.get (h:JU w m l S) (k:Int) {K:fU->Prop} (hK:K (lkS l k)):qG υ 3 .slice (some m) (Β k) (.slice none 0 0) w K:=by
 refine FW (enc:=encI) h.mp eqI k (aiK k) ?_ ?_
 ·intro hl;rw[lkS,hl] at hK;rw[gQ];exact hK
 ·intro s hl;rw[lkS,hl] at hK;rw[slV,gQ];exact hK
theorem JU.set (h:JU w m l S) {bd:Int} {s':fU} {F:Nat->Prop} (hf:gW w w' F) (hm:¬F m) (ho:∀b,ownB l b->F b->fU.at (lkS l bd) b) (hb:iV 1 eI w' s' (ids S' bd)) (hn:∀b,fU.at s' b->fU.at (lkS l bd) b\/w.heap.size<=b)
  (hS:∀k,k≠bd->ids S' k=ids S k) {K:b_} (hK:∀w2,JU w2 m (zn l bd s') S'->gW w' w2 (·=m)->w2.heap.size=w'.heap.size->K w2):og υ 3 (some m) (Β bd) (.slice s'.a s'.len s'.cap) w' K:=by
 have mlt:=h.mp.lt;have old:∀b,fU.at (lkS l bd) b->ownB l b:=λb hb=>by
  obtain⟨s,h1,_,h2⟩:=Sl hb;exact⟨bd,s,h1,h2⟩
 have nm:∀b,fU.at s' b->b≠m:=λb hb e=>by
  rcases hn b hb with h1|h1
  ·exact h.ne b (old b h1) e
  ·omega
 have ap:∀k s b,k≠bd->vw l k=some s->fU.at s b->¬fU.at s' b:=λk s b hk hl hs hb=>by
  rcases hn b hb with h1|h1
  ·obtain⟨s2,g1,_,g2⟩:=Sl h1;exact h.ap k bd s s2 b hk hl g1 hs g2
  ·have:=h.lt ⟨k,s,hl,hs⟩;omega
 refine xP (enc:=encI) (ev:=slV) (h.mp.fr hf hm) eqI bd s' (aiK bd) λw2 g2 f2 z2=> ?_;refine hK w2 ⟨g2,NM h.nd bd s',λk s hk=> ?_,λk hk=> ?_,λk k' s s2 b u h1 h2 h3=> ?_,λb hb=> ?_⟩ f2 z2
 ·rw[Ar] at hk;split at hk
  ·rename_i e;subst e;cases hk;exact hb.fr f2 nm
  ·rename_i e;rw[hS k e];refine((h.has k s hk).fr hf λb hb hF=> ?_).fr f2 λb hb=>h.ne b ⟨k,s,hk,hb⟩;obtain⟨s2,g1,_,g2⟩:=Sl (ho b ⟨k,s,hk,hb⟩ hF);exact h.ap k bd s s2 b e hk g1 hb g2
 ·rw[Ar] at hk;split at hk
  ·cases hk
  ·rename_i e;rw[hS k e];exact h.non k hk
 ·rw[Ar] at h1 h2;split at h1
  ·rename_i e1;split at h2
   ·rename_i e2;exact absurd (e1.trans e2.symm) u
   ·rename_i e2;cases h1;exact λh4=>ap k' s2 b e2 h2 h4 h3
  ·rename_i e1;split at h2
   ·cases h2;exact ap k s b e1 h1 h3
   ·exact h.ap k k' s s2 b u h1 h2 h3
 ·obtain⟨k,s,hk,hs⟩:=hb;rw[Ar] at hk;split at hk
  ·cases hk;exact nm b hs
  ·exact h.ne b ⟨k,s,hk,hs⟩
theorem X8 {bd:Int} {s':fU} {b:Nat} (hb:ownB (zn l bd s') b):fU.at s' b\/ownB l b:=by
 obtain⟨k,s,hk,hs⟩:=hb;rw[Ar] at hk;split at hk
 ·cases hk;exact .inl hs
 ·exact .inr ⟨k,s,hk,hs⟩
end
structure Qm where
 d:Nat
 sl:Nat
 ti:Nat
 si:Nat
 m:Nat
 l:OL
def fp (A:Qm) (b:Nat):Prop:=b=A.d\/b=A.sl\/b=A.ti\/b=A.si\/b=A.m\/ownB A.l b
structure Qm.ne (A:Qm):Prop where
 p:A.d≠A.sl/\A.d≠A.ti/\A.d≠A.si/\A.d≠A.m/\A.sl≠A.ti/\A.sl≠A.si/\A.sl≠A.m/\A.ti≠A.m/\A.si≠A.m
 o:∀b,ownB A.l b->b≠A.d/\b≠A.sl/\b≠A.ti/\b≠A.si
structure TA (w:θ) (A:Qm) (most:Nat) (S:Slots) (M:ByteArray->Option Int):Prop where
 hd:Row w A.d [.slice (some ⟨A.sl,0,none⟩) most most,.pointer (some ⟨A.ti,0,none⟩),.map (some A.m),Β ((live 0 S).length:Int)]
 row:Row w A.sl (S.flatMap iR)
 len:S.length=most
 mx:most<=4096
 tb:∃L,TB w A.ti A.si L most M/\cnt L=(live 0 S).length
 own:JU w A.m A.l S
 good:GoodS S M
 ne:A.ne
section
variable {w w':θ} {A:Qm} {most:Nat} {S:Slots} {M:ByteArray->Option Int}
theorem TA.fr {F:Nat->Prop} (h:TA w A most S M) (hf:gW w w' F) (hs:∀b,fp A b->¬F b):TA w' A most S M:=by
 obtain⟨L,h1,h2⟩:=h.tb;exact⟨h.hd.fr hf (hs _ (.inl rfl)),h.row.fr hf (hs _ (.inr (.inl rfl))),h.len,h.mx,⟨L,h1.fr hf (hs _ (.inr (.inr (.inl rfl)))) (hs _ (.inr (.inr (.inr (.inl rfl))))),h2⟩,
  h.own.fr hf (hs _ (.inr (.inr (.inr (.inr (.inl rfl)))))) (λb hb=>hs _ (.inr (.inr (.inr (.inr (.inr hb)))))),h.good,h.ne⟩
theorem TA.ext (h:TA w A most S M) (hf:Ext w w'):TA w' A most S M:=h.fr (hf λ_=>False) (λ_ _=>by simp)
theorem ahc {b s:Nat} {L:List vk} {mo:Int} (t:TB w b s L mo M):s<w.heap.size:=by
 by_cases hL:L=[]
 ·rw[t.nils hL];exact t.ht.hd.lt
 ·exact(t.ht.row hL).lt
theorem TA.lt (h:TA w A most S M) {x:Nat} (hx:fp A x):x<w.heap.size:=by
 obtain⟨L,h1,h2⟩:=h.tb;rcases hx with rfl|rfl|rfl|rfl|rfl|hx
 ·exact h.hd.lt
 ·exact h.row.lt
 ·exact h1.ht.hd.lt
 ·exact ahc h1
 ·exact h.own.mp.lt
 ·exact h.own.lt hx
theorem TA.slot (h:TA w A most S M) {i:Nat} {o:Option Ses} (hi:S[i]? =some o) (j:Nat) (hj:j<6):w.cell? ⟨A.sl,i * 6+j,none⟩=(iR o)[j]? :=by
 rw[h.row.cell,flat_get iR 6 kM _ _ j hj,hi];rfl
theorem zH (h:TA w A most S M):ji (some ⟨A.d,0,none⟩) w λr w'=>r=true/\w'=w:=by
 apply EX;simp only[sx,h.hd.cell,Bool.not_false];exact⟨by trivial,by trivial⟩
theorem Μ (h:TA w A most S M) (bd ra rp:Int) (hq:∀n∈[bd,ra,rp],In64 n):
  mX (some ⟨A.d,0,none⟩) bd ra rp w λn t w'=>t=(M (Bind.keyS [bd,ra,rp])).isSome/\n=(M (Bind.keyS [bd,ra,rp])).getD 0/\Ext w w':=by
 apply FP;refine gq λp w1 r1 _ _ f1=> ?_;refine cmS0 (zH (h.ext f1)) ?_;rintro _ w2 ⟨rfl,hw⟩;subst hw;have h2:=(h.ext f1).ext (Ext.drew _);simp only[sx,Bool.not_true,h2.hd.cell,r1.drew.cell];refine cmS7 (abw bd ra rp hq _) ?_;rintro _ w3 ⟨rfl,f3⟩;have h3:=h2.ext f3;simp only[true_and,d_,h3.hd.cell];obtain⟨L,hL,_⟩:=h3.tb;refine cmS4 (Xi hL _ (wW _ (by simp))) ?_;rintro n t w4 ⟨f4,rfl,rfl⟩;exact⟨rfl,rfl,((f1.trans (Ext.drew _)).trans f3).trans f4⟩
theorem agN (h:TA w A most S M):sQ (some ⟨A.d,0,none⟩) w λn w'=>n=((live 0 S).length:Int)/\w'=w:=by
 apply Hz;refine cmS0 (zH h) ?_;rintro _ w2 ⟨rfl,hw⟩;subst hw;simp only[sx,Bool.not_true,h.hd.cell];exact⟨by trivial,by trivial⟩
theorem uM:∀{S:Slots} {i:Nat},freeN S=some i↔S[i]? =some none/\∀j,j<i->∃b,S[j]? =some (some b)
 |[],i=>by simp[freeN]
 |none::r,i=>by
  simp only[freeN,Option.some.injEq];constructor
  ·rintro rfl;exact⟨rfl,by omega⟩
  ·rintro⟨_,h2⟩
   cases i with
   |zero=>rfl
   |succ i=>obtain⟨b,hb⟩:=h2 0 (by omega);simp at hb
 |some c::r,i=>by
  simp only[freeN,map_eq_some_iff];constructor
  ·rintro⟨k,hk,rfl⟩;obtain⟨h1,h2⟩:=uM.1 hk;refine⟨by simpa using h1,λj hj=> ?_⟩
   cases j with
   |zero=>exact⟨c,rfl⟩
   |succ j=>simpa using h2 j (by omega)
  ·rintro⟨h1,h2⟩
   cases i with
   |zero=>simp at h1
   |succ i=>exact⟨i,uM.2 ⟨by simpa using h1,λj hj=>by simpa using h2 (j+1) (by omega)⟩,rfl⟩
theorem Dx:∀{S:Slots},(∀j,j<S.length->∃b,S[j]? =some (some b))->freeN S=none
 |[],_=>rfl
 |none::r,h=>by obtain⟨b,hb⟩:=h 0 (by simp);simp at hb
 |some c::r,h=>by
  simp only[freeN,Option.map_eq_none_iff];exact Dx λj hj=>by simpa using h (j+1) (by simp;omega)
theorem kV {f:FuncId} {cap:Array Value} {sh:List Shape} {args:List Value} {w:θ} {K:Value->b_} (hb:ni υ f=true) (h:FV υ sh f (args++cap.toList) w K):
  jy υ sh (.func (.func f) #[] cap) args w K:=by
 unfold jy;simp only[hb,cond_true];exact h
theorem V9 (o:Option Ses) (W:θ) {v0 v1 v2 v3 v4:Int} {v5:Bool} (hv:iR o=[Β v0,Β v1,Β v2,Β v3,Β v4,.bool v5]):wJ v0 v1 v2 v3 v4 v5 W λr W'=>r= !o.isSome/\Ext W W':=by
 apply EU;refine gq λa w1 r1 e1 z1 f1=> ?_;simp only[sx,r1.cell];have:=AL o;rw[hv] at this;simp only[d_,Option.some.injEq,Value.bool.injEq] at this;exact⟨by rw[this],f1⟩
theorem aeI (h:TA w A most S M):jk ⟨some ⟨A.sl,0,none⟩,most,most⟩ (Value.func (.func FC) #[] #[]) w λr w'=>Ext w w'/\((freeN S=none/\r= -1)\/∃i,freeN S=some i/\r=(i:Int)):=by
 apply nO;have hm:=h.mx;have hl:=h.len;refine gX (λst W=>Ext w W/\∃i:Nat,i<=most/\st.1=(i:Int)/\∀j,j<i->∃b,S[j]? =some (some b)) (λst _=>most - st.1.toNat) ⟨Ext.refl _,0,by omega,rfl,by omega⟩ ?_;rintro⟨x,⟨⟩⟩ W ⟨hx,i,hi,rfl,hp⟩ next I
 have h1:=h.ext hx;by_cases hlt:i<most
 ·have u:((i:Int)<(most:Int)):=by omega
  have hS:S[i]? =some S[i]:=getElem?_eq_getElem (by omega);generalize S[i]=o at hS;have c:∀j,j<6->_:=h1.slot hS;have c0:=c 0 (by omega);have c1:=c 1 (by omega);have c2:=c 2 (by omega);have c3:=c 3 (by omega);have c4:=c 4 (by omega);have c5:=c 5 (by omega);simp only[Nat.add_zero] at c0;have step:∀W',Ext W W'->(∃b,o=some b)->next (ο.wrap ((i:Int)+1),()) W':=by
   rintro W' hx' ⟨b,rfl⟩;rw[Α];refine I _ _ ⟨hx.trans hx',i+1,by omega,by simp,λj hj=> ?_⟩ (by simp only;omega);by_cases J:j<i
   ·exact hp j J
   ·have:j=i:=by omega
    subst this;exact⟨b,hS⟩
  cases o with
  |none=>
   simp only[iR,d_] at c0 c1 c2 c3 c4 c5;simp only[sx,u,decide_true,toNat_natCast,c0,c1,c2,c3,c4,c5];refine⟨by omega,by trivial,kV (by kernel_rfl) ?_⟩;refine Calls.mono (V9 none W rfl) ?_;rintro e W' ⟨r,he,rfl,hf⟩;refine⟨_,he,_,rfl,?_⟩;simp only[isSome_none,Bool.not_false,cond_true];exact⟨hx.trans hf,.inr ⟨i,uM.2 ⟨hS,hp⟩,rfl⟩⟩
  |some b=>
   simp only[iR,d_] at c0 c1 c2 c3 c4 c5;simp only[sx,u,decide_true,toNat_natCast,c0,c1,c2,c3,c4,c5];refine⟨by omega,by trivial,kV (by kernel_rfl) ?_⟩;refine Calls.mono (V9 (some b) W rfl) ?_;rintro e W' ⟨r,he,rfl,hf⟩;refine⟨_,he,_,rfl,?_⟩;simp only[isSome_some,Bool.not_true,cond_false];exact step W' hf ⟨b,rfl⟩
 ·have u:¬((i:Int)<(most:Int)):=by omega
  simp only[u,decide_false,cond_false];exact⟨hx,.inl ⟨Dx (S:=S) λj hj=>hp j (by omega),by trivial⟩⟩
theorem GI {S:Slots} {id:Int} (h:id<0\/(S.length:Int)<=id):getS S id=none:=by
 unfold Gp.Ses.getS;split
 ·rw[List.getElem?_eq_none (by omega)];rfl
 ·rfl
theorem Xg {S:Slots} {id:Int} (h0:0<=id) {o:Option Ses} (h:S[id.toNat]? =some o):getS S id=o:=by
 unfold Gp.Ses.getS;rw[if_pos h0,h];rfl
theorem abA (h:TA w A most S M) (id:Int):nX (some ⟨A.d,0,none⟩) id w λr w'=>r=(getS S id).isSome/\w'=w:=by
 apply H6;have hl:=h.len;refine cmS0 (zH h) ?_;rintro _ w2 ⟨rfl,hw⟩;subst hw;simp only[cond_true];by_cases c1:id>=0
 ·simp only[sx,c1,decide_true,h.hd.cell];by_cases c2:id<(most:Int)
  ·have hS:S[id.toNat]? =some S[id.toNat]:=getElem?_eq_getElem (by omega);generalize S[id.toNat]=o at hS;simp only[c2,decide_true,cond_true,f_,iY,h.slot hS 5 (by omega),AL];refine⟨by first|trivial|omega,by first|trivial|omega,?_,by trivial⟩
   rw[Xg c1 hS]
  ·simp only[c2,decide_false,cond_false];exact⟨by rw[GI (.inr (by omega))];rfl,by trivial⟩
 ·simp only[c1,decide_false,cond_false];exact⟨by rw[GI (.inl (by omega))];rfl,by trivial⟩
def aja (b:Ses) (a1 a2 a3 a4 a5:Int):Prop:=a1=b.bd/\a2=b.st/\a3=b.un/\a4=b.ra/\a5=b.rp
def ϙ:Ses:=⟨0,0,0,0,0⟩
theorem abz (h:TA w A most S M) (id:Int):nV (some ⟨A.d,0,none⟩) id w λa1 a2 a3 a4 a5 r w'=>r=(getS S id).isSome/\aja ((getS S id).getD ϙ) a1 a2 a3 a4 a5/\Ext w w':=by
 apply Hy;have hl:=h.len;refine gq λp w1 r1 e1 z1 f1=> ?_;have h1:=h.ext f1;refine cmS0 (abA h1 id) ?_;rintro _ w2 ⟨rfl,hw⟩;subst hw
 cases hg:getS S id with
 |none=>
  simp only[isSome_none,Bool.not_false,cond_true];refine gY r1 rfl rfl λw3 r3 f3 _=> ?_;simp only[sx,true_and,r3.cell];exact⟨⟨rfl,rfl,rfl,rfl,rfl⟩,f1.new (f3 (·=p) rfl) λy hy e=>by omega⟩
 |some b=>
  obtain⟨g0,g1⟩:=Gp.Ses.rH.1 hg;have gl:=(List.getElem?_eq_some_iff.1 g1).1;have c:∀j,j<6->_:=h1.slot g1;have c0:=c 0 (by omega);have c1:=c 1 (by omega);have c2:=c 2 (by omega);have c3:=c 3 (by omega);have c4:=c 4 (by omega);simp only[Nat.add_zero] at c0;simp only[sx,isSome_some,Bool.not_true,h1.hd.cell,c0,c1,c2,c3,c4,iR];refine⟨by omega,by omega,gY r1 rfl rfl λw3 r3 f3 _=> ?_⟩;simp only[true_and,d_,f_,gJ,r3.cell];exact⟨⟨rfl,rfl,rfl,rfl,rfl⟩,f1.new (f3 (·=p) rfl) λy hy e=>by omega⟩
theorem Oq {S:Slots} {i:Nat} (hi:i<S.length) (o:Option Ses):(S.flatMap iR).take (i * 6)++iR o++(S.flatMap iR).drop (i * 6+6)=(S.set i o).flatMap iR:=by
 have e1:(S.flatMap iR).take (i * 6)=(S.take i).flatMap iR:=by
  have h:S=S.take i++S.drop i:=(take_append_drop i S).symm;have hl:((S.take i).flatMap iR).length=i * 6:=by rw[jo iR 6 kM];simp;omega
  conv=>lhs;rw[h,flatMap_append]
  rw[<- hl];simp
 have e2:(S.flatMap iR).drop (i * 6+6)=(S.drop (i+1)).flatMap iR:=by
  have h:S=S.take (i+1)++S.drop (i+1):=(take_append_drop (i+1) S).symm;have hl:((S.take (i+1)).flatMap iR).length=i * 6+6:=by rw[jo iR 6 kM];simp;omega
  conv=>lhs;rw[h,flatMap_append]
  rw[<- hl];simp
 rw[e1,e2,List.set_eq_take_append_cons_drop,if_pos hi,flatMap_append,flatMap_cons,append_assoc]
theorem Wq (h:Row w A.sl (S.flatMap iR)) {i:Nat} (hi:i<S.length) (o:Option Ses) {K:b_} (hK:∀w',Row w' A.sl ((S.set i o).flatMap iR)->gW w w' (·=A.sl)->w'.heap.size=w.heap.size->K w'):iw (iR o) w ⟨A.sl,i * 6,none⟩ 0 K:=by
 refine Qr (iR o) w _ (i * 6) 0 h (λv hv=>List.all_eq_true.1 (O7 o) v hv) ?_ λw1 r1 f1 z1=> ?_
 ·rw[kM,jo iR 6 kM];omega
 ·rw[Nat.add_zero,kM,Oq hi] at r1;exact hK w1 r1 (f1 _ rfl) z1
end
end Go.Proofs.SN
end
section
namespace Go.Proofs.SN
open Gp Gp.Hash
open Gp.Ses (Ses Slots live GoodS freeN getS ids)
open Gp.Bind (In64)
section
variable {w w':θ} {A:Qm} {most:Nat} {S:Slots} {M:ByteArray->Option Int}
def vG (S:Slots) (M:ByteArray->Option Int) (b:Ses):Int×Int:=
 if (M (Bind.keyS b.k)).isSome then (0,9) else match freeN S with
  |none=>(0,7)
  |some i=>((i:Int),0)
theorem agS (h:TA w A most S M) (id st un:Int):
  sS (some ⟨A.d,0,none⟩) id st un w λr w'=>r=(getS S id).isSome/\gW w w' (fp A)/\∃S',TA w' A most S' M/\S'=(match getS S id with|none=>S|some b=>S.set id.toNat (some {b with st:=st,un:=un})):=by
 apply HY;have hl:=h.len;refine cmS0 (abA h id) ?_;rintro _ w1 ⟨rfl,hw⟩;subst hw
 cases hg:getS S id with
 |none=>
  simp only[isSome_none,Bool.not_false,cond_true];exact⟨by trivial,gW.refl _ _,S,h,rfl⟩
 |some b=>
  obtain⟨g0,g1⟩:=Gp.Ses.rH.1 hg;have gl:=(List.getElem?_eq_some_iff.1 g1).1;simp only[sx,isSome_some,Bool.not_true,h.hd.cell];refine⟨by omega,by omega,?_⟩;have I:=h.row;have e0:S.flatMap iR=(S.flatMap iR).take (id.toNat * 6)++iR (some b)++(S.flatMap iR).drop (id.toNat * 6+6):=by
   have J:S.set id.toNat (some b)=S:=by
    apply List.ext_getElem?;intro j;rw[Gp.Ses.iO gl];split
    ·rename_i e;subst e;exact g1.symm
    ·rfl
   rw[Oq gl,J]
  have hl6:((S.flatMap iR).take (id.toNat * 6)).length=id.toNat * 6:=by rw[length_take,jo iR 6 kM];omega
  rw[e0] at I;refine g_ I rfl (by simp[kM,hl6];omega) λw2 r2 f2 z2=> ?_;refine g_ r2 rfl (by simp[kM,hl6];omega) λw3 r3 f3 z3=> ?_;have f23:gW w1 w3 (·=A.sl):=(f2 (·=A.sl) rfl).trans (f3 (·=A.sl) rfl) λ_ _ e=>e;refine⟨by trivial,f23.mono λx hx=> .inr (.inl hx),_,?_,rfl⟩;obtain⟨⟨n1,n2,n3,n4,n5,n6,n7,n8,n9⟩,no⟩:=h.ne;obtain⟨L,t,c⟩:=h.tb;have u:(live 0 (S.set id.toNat (some {b with st:=st,un:=un}))).length=(live 0 S).length:=by rw[Gp.Ses.Sj _ 0 g1];simp
  refine⟨by rw[u];exact h.hd.fr f23 n1,?_,by rw[length_set];exact hl,h.mx,⟨L,t.fr f23 (Ne.symm n5) (Ne.symm n6),by rw[u];exact c⟩,?_,h.good.put g1 rfl,h.ne⟩
  ·rw[<- Oq gl];have e3:∀(X Y:List Value),((X++iR (some b)++Y).set (X.length+1) (Β st)).set (X.length+2) (Β un)=X++iR (some {b with st:=st,un:=un})++Y:=by
    intro X Y;rw[append_assoc,List.set_append_right _ _ (by omega),List.set_append_right _ _ (by omega),append_assoc];congr 1;rw[Nat.add_sub_cancel_left,Nat.add_sub_cancel_left];rfl
   have:=e3 ((S.flatMap iR).take (id.toNat * 6)) ((S.flatMap iR).drop (id.toNat * 6+6));rw[hl6] at this;rw[<- this];exact r3
  ·have o:=h.own.fr f23 (λe=>n7 e.symm) λx hx e=>(no x hx).2.1 e;exact⟨o.mp,o.nd,λk s hk=>by rw[Gp.Ses.abg (b':={b with st:=st,un:=un}) g1 rfl];exact o.has k s hk,λk hk=>by rw[Gp.Ses.abg (b':={b with st:=st,un:=un}) g1 rfl];exact o.non k hk,o.ap,o.ne⟩
theorem agL (h:TA w A most S M) (b:Ses) (hb:b.ok):
  sN (some ⟨A.d,0,none⟩) b.bd b.st b.un b.ra b.rp w λn e w'=>(n,e)=vG S M b/\gW w w' (fp A)/\
   ∃A' S' M',TA w' A' most S' M'/\A'.d=A.d/\(∀x,fp A' x->fp A x\/w.heap.size<=x)/\S'=(if (vG S M b).2=0 then S.set (vG S M b).1.toNat (some b) else S):=by
 apply Hu;refine gq λp w1 r1 e1 z1 f1=> ?_;have h1:=h.ext f1;refine cmS0 (zH h1) ?_;rintro _ w2 ⟨rfl,hw⟩;subst hw;simp only[sx,Cs,Cw,Bool.not_true,r1.cell];refine cmS4 (Μ h1 _ _ _ hb) ?_;rintro n2 t2 w3 ⟨ht2,_,f3⟩;have ht2:t2=(M (Bind.keyS b.k)).isSome:=ht2;have x3:Ext w w3:=f1.trans f3;have h3:=h.ext x3;have r3:=r1.ext f3
 cases U:t2 with
 |true=>
  rw[U] at ht2;simp only[cond_true];have e:vG S M b=(0,9):=by unfold vG;rw[<- ht2];rfl
  rw[e];exact⟨rfl,x3 _,A,S,M,h3,rfl,λx hx=> .inl hx,by rw[if_neg (by simp)]⟩
 |false=>
 rw[U] at ht2;simp only[cond_false,List.getElem?_cons_zero,f_,gQ,h3.hd.cell];refine cmS1 (aeI h3) ?_;rintro r5 w5 ⟨f5,(⟨J,rfl⟩|⟨i,J,rfl⟩)⟩
 ·simp only[show decide ((-1:Int)<0)=true from rfl,cond_true];have e:vG S M b=(0,7):=by unfold vG;rw[<- ht2,J];rfl
  rw[e];exact⟨rfl,(x3.trans f5) _,A,S,M,h3.ext f5,rfl,λx hx=> .inl hx,by rw[if_neg (by simp)]⟩
 ·have e:vG S M b=((i:Int),0):=by unfold vG;rw[<- ht2,J];rfl
  rw[e];obtain⟨g1,g2,g3,g4,g5,g6,g7⟩:=Gp.Ses.jr 0 J;have hm:=h.mx;have hl:=h.len;have x5:Ext w w5.drew:=(x3.trans f5).trans (Ext.drew _);have h5:=h.ext x5;have r5:=(r3.ext f5).drew;have i0:¬((i:Int)<0):=by omega
  simp only[sx,i0,decide_false,h5.hd.cell,r5.cell,toNat_natCast];refine⟨by omega,by omega,?_⟩;refine Wq h5.row g1 (some b) λw6 row6 f6 z6=> ?_;obtain⟨⟨n1,n2,n3,n4,n5,n6,n7,n8,n9⟩,no⟩:=h.ne;have hp:∀x,fp A x->x≠p:=λx hx=>by have:=h.lt hx;omega
  have hd6:=(h5.hd.fr f6 n1).drew;have r6:=(r5.fr f6 (hp _ (.inr (.inl rfl))).symm).drew;simp only[d_,f_,gJ,EG,hd6.cell,r6.cell];refine cmS7 (abw _ _ _ hb _) ?_;rintro _ w7 ⟨rfl,f7⟩;have hd7:=hd6.ext f7;have r7:=r6.ext f7;simp only[true_and,d_,hd7.cell];obtain⟨L,tb,cL⟩:=h5.tb;have f57:gW w5.drew w7 (·=A.sl):=(f6.ext (Ext.drew _)).ext f7;have tb7:=tb.fr f57 (Ne.symm n5) (Ne.symm n6);have hM:M (Bind.keyS b.k)=none:=by cases hx:M (Bind.keyS b.k) with
   |none=>rfl
   |some v=>rw[hx] at ht2;cases ht2
  refine cmS1 (Xl tb7 (Bind.keyS b.k) (i:Int) (wW _ (by simp[Ses.k]))) ?_;rintro e8 w8 (⟨rfl,hlt8,s8,L8,t8,c8,f8,hs8⟩|⟨_,_,N,_⟩);rotate_left
  ·exfalso;rw[cL] at N;omega
  have hd8:=(hd7.fr f8 (by rintro(h|h);exact n2 h;exact n3 h)).drew;have r8:Row w8.drew p _:=(r7.fr f8 (by rintro(h|h);exact hp _ (.inr (.inr (.inl rfl))) h.symm;exact hp _ (.inr (.inr (.inr (.inl rfl)))) h.symm)).drew;simp only[d_,f_,gJ,L6,hd8.cell,r8.cell];have f58:gW w5.drew w8.drew (λx=>x=A.sl\/x=A.ti\/x=A.si):=((f57.mono λx hx=> .inl hx).trans f8 λx _ hx=>by
   rcases hx with hx|hx
   ·exact .inr (.inl hx)
   ·exact .inr (.inr hx)).ext (Ext.drew _)
  have own8:JU w8.drew A.m A.l S:=h5.own.fr f58 (by rintro(h|h|h);exact n7 h.symm;exact n8 h.symm;exact n9 h.symm) λx hx=>by
   have:=no x hx;rintro(h|h|h)
   ·exact this.2.1 h
   ·exact this.2.2.1 h
   ·exact this.2.2.2 h
  refine own8.get b.bd ?_;have O:=own8.buf b.bd;have hil:=Gp.Ses.abf S b.bd;have srt:=Gp.Ses.uN S b.bd;refine cmS4 (ahu (O.sl jX (by omega)) (by omega) srt (i:Int)) ?_;rintro _ _ w9 ⟨⟨q,rfl,hq,q1,q2⟩,hw⟩;subst hw;have own9:=own8.fr (Ext.drew _ λ_=>False) (by simp) (by simp);have hd9:=hd8.drew;have r9:=r8.drew;simp only[d_,f_,gJ,L6,hd9.cell,r9.cell];refine gq λv ac af e10 z10 f10=> ?_;have own10:=own9.fr (f10 λ_=>False) (by simp) (by simp);have hd10:=hd9.ext f10;have r10p:=r9.ext f10;simp only[true_and,d_,hd10.cell,r10p.cell];have vlt:∀x,fU.at (lkS A.l b.bd) x->x≠v:=λx hx e=>by
   obtain⟨s,g1,_,g2⟩:=Sl hx;have:=own9.lt ⟨_,s,g1,g2⟩;omega
  have lold:∀x,fU.at (lkS A.l b.bd) x->ownB A.l x:=λx hx=>by
   obtain⟨s,g1,_,g2⟩:=Sl hx;exact⟨_,s,g1,g2⟩
  refine cmS2 (acs (own10.buf b.bd) (y:=(i:Int)) af vlt hq (by omega)) ?_;rintro R w11 ⟨Y,f11,Z⟩;have hd11:=hd10.fr f11 λhx=>(no _ (lold _ hx)).1 rfl;have ag:=r10p.fr f11 λhx=>hp _ (.inr (.inr (.inr (.inr (.inr (lold _ hx)))))) rfl;simp only[true_and,d_,hd11.cell,ag.cell];rw[<- Gp.Ses.af6 g2 (λj v hj hv=>q1 j v hj hv) (λj v hj hv=>q2 j v hj hv) hq] at Y;refine own10.set (S':=S.set i (some b)) f11 (λhx=>own10.ne _ (lold _ hx) rfl) (λx _ hx=>hx) Y Z (λk hk=>Gp.Ses.Uz g2 hk) λaa own12 f12 z12=> ?_;have hd12:=hd11.fr f12 n4;simp only[d_,f_,gJ,hd12.cell];have hll:=Gp.Ses.jU S 0;rw[Α];refine g_ hd12 rfl (by simp) λI hd13 f13 z13=> ?_;simp only[List.set_cons_zero,List.set_cons_succ] at hd13;have f13d:=f13 (·=A.d) rfl;have u:(live 0 (S.set i (some b))).length=(live 0 S).length+1:=by
   rw[g7 b];simp only[length_append,length_cons,length_take,length_drop];omega
  have f8x:gW w8 aa (λx=>x=A.m\/ownB A.l x):=((((Ext.drew w8).trans (Ext.drew _)).trans f10) _).trans ((f11.mono λx hx=> .inr (lold x hx)).trans f12 λx _ hx=> .inl hx) λ_ _ hx=>hx;have hs8':s8≠A.d/\s8≠A.sl/\s8≠A.m/\¬ownB A.l s8:=by
   rcases hs8 with h8|h8
   ·rw[h8];exact⟨Ne.symm n3,Ne.symm n6,n9,λho=>(no _ ho).2.2.2 rfl⟩
   ·have big:∀x,fp A x->s8≠x:=λx hx e=>by
     have l1:=h.lt hx;have l2:w.heap.size<=w7.heap.size:=Nat.le_trans x5.size f57.size;rw[e] at h8;exact Nat.lt_irrefl _ (Nat.lt_of_lt_of_le l1 (Nat.le_trans l2 h8))
    exact⟨big _ (.inl rfl),big _ (.inr (.inl rfl)),big _ (.inr (.inr (.inr (.inr (.inl rfl))))),λho=>big _ (.inr (.inr (.inr (.inr (.inr ho))))) rfl⟩
  have tb13:TB I A.ti s8 L8 most (Go.Proofs.upd M (Bind.keyS b.k) (some (i:Int))):=(t8.fr f8x (by rintro(h|h);exact n8 h;exact(no _ h).2.2.1 rfl) (by rintro(h|h);exact hs8'.2.2.1 h;exact hs8'.2.2.2 h)).fr f13d (Ne.symm n2) hs8'.1;have row13:Row I A.sl ((S.set i (some b)).flatMap iR):=(((((row6.ext (Ext.drew _)).ext f7).fr f8 (by rintro(h|h);exact n5 h;exact n6 h))).fr f8x (by rintro(h|h);exact n7 h;exact(no _ h).2.1 rfl)).fr f13d (Ne.symm n1);have eu:∀M k v,Go.Proofs.upd M k v=Gp.Bind.upd M k v:=λ_ _ _=>rfl;rw[eu] at tb13;have f512:gW w aa (fp A):=((x5 (fp A)).trans (f58.mono (S':=fp A) λx hx=>by
    rcases hx with hx|hx|hx
    ·exact .inr (.inl hx)
    ·exact .inr (.inr (.inl hx))
    ·exact .inr (.inr (.inr (.inl hx)))) λ_ _ hx=>hx).trans (((((Ext.drew w8.drew).trans f10) _).trans ((f11.mono (S':=λx=>x=A.m\/ownB A.l x) λx hx=> .inr (lold x hx)).trans f12 λx _ hx=> .inl hx) λ_ _ hx=>hx)) λx _ hx=>by
    rcases hx with hx|hx
    ·exact .inr (.inr (.inr (.inr (.inl hx))))
    ·exact .inr (.inr (.inr (.inr (.inr hx))))
  have ftot:gW w I (fp A):=f512.trans f13d λx _ hx=> .inl hx;have s11new:∀x,fU.at R x->ownB A.l x\/(w.heap.size<=x/\w8.heap.size<=x):=λx hx=>by
   rcases Z x hx with h|h
   ·exact .inl (lold x h)
   ·right;have a1:w5.drew.heap.size<=w8.heap.size:=f58.size;have a2:w8.heap.size<=ac.heap.size:=(((Ext.drew w8).trans (Ext.drew _)).trans f10).size;exact⟨Nat.le_trans x5.size (Nat.le_trans a1 (Nat.le_trans a2 h)),Nat.le_trans a2 h⟩
  have own13:JU I A.m (zn A.l b.bd R) (S.set i (some b)):=own12.fr f13d n4.symm λx hx e=>by
   rcases X8 hx with h1|h1
   ·rcases s11new x h1 with h2|h2
    ·exact(no x h2).1 e
    ·have:=h.lt (.inl rfl:fp A A.d);omega
   ·exact(no x h1).1 e
  have ta:TA I ⟨A.d,A.sl,A.ti,s8,A.m,zn A.l b.bd R⟩ most (S.set i (some b)) (Gp.Bind.upd M (Bind.keyS b.k) (some (i:Int))):=by
   refine⟨?_,row13,by rw[length_set];exact hl,hm,⟨L8,tb13,?_⟩,own13,h.good.add g2 hb hM,⟨⟨n1,n2,Ne.symm hs8'.1,n4,n5,Ne.symm hs8'.2.1,n7,n8,hs8'.2.2.1⟩,λx hx=> ?_⟩⟩
   ·rw[u];simpa using hd13
   ·rw[c8,u,hM,cL];rfl
   ·rcases X8 hx with h1|h1
    ·rcases s11new x h1 with h2|⟨h2,h4⟩
     ·have:=no x h2;exact⟨this.1,this.2.1,this.2.2.1,λe=>hs8'.2.2.2 ((show x=s8 from e) ▸ h2)⟩
     ·have k1:=h.lt (.inl rfl:fp A A.d);have k2:=h.lt (.inr (.inl rfl):fp A A.sl);have k3:=h.lt (.inr (.inr (.inl rfl)):fp A A.ti);have k4:=ahc t8;exact⟨λe=>by rw[e] at h2;exact Nat.lt_irrefl _ (Nat.lt_of_lt_of_le k1 h2),λe=>by rw[e] at h2;exact Nat.lt_irrefl _ (Nat.lt_of_lt_of_le k2 h2),λe=>by rw[e] at h2;exact Nat.lt_irrefl _ (Nat.lt_of_lt_of_le k3 h2),λe=>by rw[e] at h4;exact Nat.lt_irrefl _ (Nat.lt_of_lt_of_le k4 h4)⟩
    ·have:=no x h1;exact⟨this.1,this.2.1,this.2.2.1,λe=>hs8'.2.2.2 ((show x=s8 from e) ▸ h1)⟩
  refine⟨ftot,_,_,_,ta,rfl,?_,by simp⟩;intro x hx;rcases hx with hx|hx|hx|hx|hx|hx
  ·exact .inl (.inl hx)
  ·exact .inl (.inr (.inl hx))
  ·exact .inl (.inr (.inr (.inl hx)))
  ·have hx:x=s8:=hx;rcases hs8 with h8|h8
   ·exact .inl (.inr (.inr (.inr (.inl (hx.trans h8)))))
   ·right;rw[hx];exact Nat.le_trans x5.size (Nat.le_trans f57.size h8)
  ·exact .inl (.inr (.inr (.inr (.inr (.inl hx)))))
  ·rcases X8 hx with h1|h1
   ·rcases s11new x h1 with h2|h2
    ·exact .inl (.inr (.inr (.inr (.inr (.inr h2)))))
    ·exact .inr h2.1
   ·exact .inl (.inr (.inr (.inr (.inr (.inr h1)))))
end
end Go.Proofs.SN
end
