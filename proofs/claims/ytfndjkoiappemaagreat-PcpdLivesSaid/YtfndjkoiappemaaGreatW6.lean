import Derived.Test.YtfndjkoiappemaaGreatW5
import Derived.Test.YtfndjkoiappemaaGreatW3
import Derived.Test.YtfndjkoiappemaaGreatW2
open List (cons_append flatMap_append flatMap_cons getElem?_eq_getElem getElem?_map getElem?_replicate length_nil replicate_succ take_append_drop)
open Nat (lt_trichotomy)
open Int (toNat_natCast)
open Option (isSome_none isSome_some map_some)
set_option maxRecDepth 100000
section
namespace Go.Proofs
open Gp Gp.Hash
theorem aj3 (m:Nat):V4.beN 8 m=V4.beN 4 (m / 4294967296)++V4.beN 4 (m % 4294967296):=by
 simp only[V4.beN,cons_append,List.nil_append,List.cons.injEq,and_true];refine⟨?_,?_,?_,?_,?_,?_,?_,?_⟩<;>apply UInt8.toNat_inj.1<;>simp<;>omega
theorem ah1 {x:Int} (h:Bind.In64 x):DY .i64 (mW .i64 x 32) 4294967295=(((x % 18446744073709551616).toNat / 4294967296:Nat):Int)/\DY .i64 x 4294967295=(((x % 18446744073709551616).toNat % 4294967296:Nat):Int):=by
 obtain⟨h1,h2⟩:=h;have low:∀y:Int,DY .i64 y 4294967295=(((y % 18446744073709551616).toNat % 4294967296:Nat):Int):=by
  intro y;unfold DY;have e1:(BitVec.ofInt (IntKind.bits .i64) y).toNat=(y % 18446744073709551616).toNat:=by rw[NC,BitVec.toNat_ofInt];rfl
  have e2:(BitVec.ofInt (IntKind.bits .i64) 4294967295).toNat=2^32 - 1:=by rw[NC,BitVec.toNat_ofInt];rfl
  rw[BitVec.toNat_and,e1,e2,acr];rw[wrap_i64 (by omega) (by omega)]
 refine⟨?_,low x⟩;rw[low];unfold mW;have e:(2:Int)^(min (32:Int).toNat (IntKind.bits .i64))=4294967296:=by decide
 rw[e,Int.fdiv_eq_ediv_of_nonneg _ (by omega)];omega
theorem key_ok {w:World} {b:Nat} {ns:List Int} {vs:List Value} (h:Row w b vs) (hv:vs=ns.map λn=>Value.int .i64 n) (n c:Nat) (hn:n=ns.length) (hl:ns.length<=10) (hr:∀n∈ns,Bind.In64 n):
  AA ⟨some ⟨b,0,none⟩,n,c⟩ w λr w'=>r=Bind.keyS ns/\Ext w w':=by
 subst hv hn;apply aan;refine iE (λst W=>∃i:Nat,i<=ns.length/\st.2.1=(i:Int)/\qy W st.1 (Bind.keyB (ns.take i))/\Ext w W) (λst _=>ns.length - st.2.1.toNat) ⟨0,by omega,rfl,qy.nil,Ext.refl _⟩ ?_;rintro⟨s,x,⟨⟩⟩ W ⟨i,hi,rfl,hs,hx⟩ next I
 have hs:qy W s (Bind.keyB (ns.take i)):=hs;by_cases J:i<ns.length
 ·have u:((i:Int)<(ns.length:Int)):=by omega
  simp only[sx,u,decide_true,toNat_natCast,Nat.mul_one,(h.ext hx).cell,getElem?_map,getElem?_eq_getElem J,map_some];refine⟨by omega,by trivial,by omega,?_⟩;obtain⟨e1,e2⟩:=ah1 (hr _ (List.getElem_mem J));rw[e1,e2];generalize hm:(ns[i] % 18446744073709551616).toNat=m;have hm2:m<18446744073709551616:=by omega
  have kl:=Bind.Z9 (ns.take i);have kl2:(ns.take i).length<=10:=by simp;omega
  refine KW (Rw hs (by omega) _ 4) ?_;rintro t1 w1 ⟨b1,f1,_⟩;have p1:wo (Bind.keyB (ns.take i)) ((m / 4294967296:Nat):Int) 4=Bind.keyB (ns.take i)++V4.beN 4 (m / 4294967296):=by
   unfold wo;rw[if_pos ⟨⟨by omega,by omega⟩,by omega,by simp;omega⟩];rfl
  rw[p1] at b1;refine KW (Rw (qy.zZ b1) (by simp[V4.lZ];omega) _ 4) ?_;rintro t2 w2 ⟨b2,f2,_⟩;have p2:wo (Bind.keyB (ns.take i)++V4.beN 4 (m / 4294967296)) ((m % 4294967296:Nat):Int) 4=Bind.keyB (ns.take i)++V4.beN 4 (m / 4294967296)++V4.beN 4 (m % 4294967296):=by
   unfold wo;rw[if_pos ⟨⟨by omega,by omega⟩,by omega,by simp;omega⟩];rfl
  rw[p2] at b2;rw[wrap_i64 (by omega) (by omega)];refine I _ _ ⟨i+1,by omega,by simp,?_,(hx.trans f1).trans f2⟩ (by simp only;omega);have ek:Bind.keyB (ns.take (i+1))=Bind.keyB (ns.take i)++V4.beN 4 (m / 4294967296)++V4.beN 4 (m % 4294967296):=by
   rw[List.take_succ_eq_append_getElem J];unfold Bind.keyB;rw[flatMap_append,List.flatMap_singleton,hm,aj3,List.append_assoc]
  rw[ek];exact qy.zZ b2
 ·have u:¬((i:Int)<(ns.length:Int)):=by omega
  simp only[u,decide_false,cond_false];have:i=ns.length:=by omega
  subst this;rw[List.take_length] at hs;exact Ja hs ⟨rfl,hx⟩
theorem DR (l:List Int) (h:l.length<=10):(Bind.keyS l).size<=2^63 - 1:=by
 have:(Bind.keyS l).size=(Bind.keyB l).length:=rfl;rw[this,Bind.Z9];omega
theorem YE (a b c d:Int) (h:∀n∈[a,b,c,d],Bind.In64 n) (w:World):oG a b c d w λr w'=>r=Bind.keyS [a,b,c,d]/\Ext w w':=by
 apply Rf;refine iI λp w1 r1 _ _ f1=> ?_;simp only[sx,r1.cell];refine iI λq w2 r2 _ _ f2=> ?_;refine RQ (key_ok (ns:=[a,b,c,d]) r2 rfl 4 4 rfl (by simp) h) ?_;rintro _ w3 ⟨rfl,f3⟩;exact⟨rfl,(f1.trans f2).trans f3⟩
theorem Y9 (a b c:Int) (h:∀n∈[a,b,c],Bind.In64 n) (w:World):oH a b c w λr w'=>r=Bind.keyS [a,b,c]/\Ext w w':=by
 apply Rh;refine iI λp w1 r1 _ _ f1=> ?_;simp only[sx,r1.cell];refine iI λq w2 r2 _ _ f2=> ?_;refine RQ (key_ok (ns:=[a,b,c]) r2 rfl 3 3 rfl (by simp) h) ?_;rintro _ w3 ⟨rfl,f3⟩;exact⟨rfl,(f1.trans f2).trans f3⟩
open Gp.Bind (Bnd Slots live GoodB freeN getS In64)
def mX:Option Bnd->List Value
 |none=>[.int .i64 0,.int .i64 0,.int .i64 0,.int .i64 0,.int .i64 0,.int .i64 0,.int .i64 0,.bool false,.bool false]
 |some b=>[.int .i64 b.sw,.int .i64 b.pr,.int .i64 b.ad,.int .i64 b.po,.int .i64 b.opr,.int .i64 b.oad,.int .i64 b.opo,.bool b.st,.bool true]
theorem zk (o:Option Bnd):(mX o).length=9:=by cases o<;>rfl
theorem aea (o:Option Bnd):(mX o).all jr=true:=by cases o<;>rfl
theorem VQ (o:Option Bnd):(mX o)[8]? =some (.bool o.isSome):=by cases o<;>rfl
structure XO where
 d:Nat
 sl:Nat
 ti:Nat
 si:Nat
 tu:Nat
 su:Nat
def fp (A:XO) (b:Nat):Prop:=b=A.d\/b=A.sl\/b=A.ti\/b=A.si\/b=A.tu\/b=A.su
def XO.ne (A:XO):Prop:=A.d≠A.sl/\A.d≠A.ti/\A.d≠A.si/\A.d≠A.tu/\A.d≠A.su/\A.sl≠A.ti/\A.sl≠A.si/\A.sl≠A.tu/\A.sl≠A.su/\A.ti≠A.tu/\A.ti≠A.su/\A.si≠A.tu/\A.si≠A.su
structure DB (w:World) (A:XO) (most:Nat) (S:Slots) (Mi Mo:ByteArray->Option Int):Prop where
 hd:Row w A.d [.slice (some ⟨A.sl,0,none⟩) most most,.pointer (some ⟨A.ti,0,none⟩),.pointer (some ⟨A.tu,0,none⟩),.int .i64 ((live 0 S).length:Int)]
 row:Row w A.sl (S.flatMap mX)
 len:S.length=most
 mx:most<=4096
 tI:∃L,TB w A.ti A.si L most Mi/\cnt L=(live 0 S).length
 tO:∃L,TB w A.tu A.su L most Mo/\cnt L=(live 0 S).length
 good:GoodB S Mi Mo
 ne:A.ne
section
variable {w w':World} {A:XO} {most:Nat} {S:Slots} {Mi Mo:ByteArray->Option Int}
theorem DB.fr {F:Nat->Prop} (h:DB w A most S Mi Mo) (hf:iG w w' F) (hs:∀b,fp A b->¬F b):DB w' A most S Mi Mo:=by
 obtain⟨L,h1,h2⟩:=h.tI;obtain⟨L',h3,h4⟩:=h.tO;exact⟨h.hd.fr hf (hs _ (.inl rfl)),h.row.fr hf (hs _ (.inr (.inl rfl))),h.len,h.mx,⟨L,h1.fr hf (hs _ (.inr (.inr (.inl rfl)))) (hs _ (.inr (.inr (.inr (.inl rfl))))),h2⟩,
  ⟨L',h3.fr hf (hs _ (.inr (.inr (.inr (.inr (.inl rfl)))))) (hs _ (.inr (.inr (.inr (.inr (.inr rfl)))))),h4⟩,h.good,h.ne⟩
theorem DB.ext (h:DB w A most S Mi Mo) (hf:Ext w w'):DB w' A most S Mi Mo:=h.fr (hf λ_=>False) (λ_ _=>by simp)
theorem DB.slot (h:DB w A most S Mi Mo) {i:Nat} {o:Option Bnd} (hi:S[i]? =some o) (j:Nat) (hj:j<9):w.cell? ⟨A.sl,i * 9+j,none⟩=(mX o)[j]? :=by
 rw[h.row.cell,flat_get mX 9 zk _ _ j hj,hi];rfl
theorem DL (h:DB w A most S Mi Mo):kP (some ⟨A.d,0,none⟩) w λr w'=>r=true/\w'=w:=by
 apply Q_;simp only[sx,h.hd.cell,Bool.not_false];exact⟨by trivial,by trivial⟩
theorem UK (h:DB w A most S Mi Mo) (a b c d:Int) (hq:∀n∈[a,b,c,d],In64 n):
  pF (some ⟨A.d,0,none⟩) a b c d w λn t w'=>t=(Mi (Bind.keyS [a,b,c,d])).isSome/\n=(Mi (Bind.keyS [a,b,c,d])).getD 0/\Ext w w':=by
 apply Tt;refine iI λp w1 r1 _ _ f1=> ?_;refine pq (DL (h.ext f1)) ?_;rintro _ w2 ⟨rfl,hw⟩;subst hw;have h2:=(h.ext f1).ext (Ext.drew _);simp only[sx,Bool.not_true,h2.hd.cell,r1.drew.cell];refine AL (YE a b c d hq _) ?_;rintro _ w3 ⟨rfl,f3⟩;have h3:=h2.ext f3;simp only[true_and,d_,h3.hd.cell];obtain⟨L,hL,_⟩:=h3.tI;refine EY (acJ hL _ (DR _ (by simp))) ?_;rintro n t w4 ⟨f4,rfl,rfl⟩;exact⟨rfl,rfl,((f1.trans (Ext.drew _)).trans f3).trans f4⟩
theorem ZJ (h:DB w A most S Mi Mo) (a b c:Int) (hq:∀n∈[a,b,c],In64 n):
  rO (some ⟨A.d,0,none⟩) a b c w λn t w'=>t=(Mo (Bind.keyS [a,b,c])).isSome/\n=(Mo (Bind.keyS [a,b,c])).getD 0/\Ext w w':=by
 apply Tq;refine iI λp w1 r1 _ _ f1=> ?_;refine pq (DL (h.ext f1)) ?_;rintro _ w2 ⟨rfl,hw⟩;subst hw;have h2:=(h.ext f1).ext (Ext.drew _);simp only[sx,Bool.not_true,h2.hd.cell,r1.drew.cell];refine AO (Y9 a b c hq _) ?_;rintro _ w3 ⟨rfl,f3⟩;have h3:=h2.ext f3;simp only[true_and,d_,h3.hd.cell];obtain⟨L,hL,_⟩:=h3.tO;refine EY (acJ hL _ (DR _ (by simp))) ?_;rintro n t w4 ⟨f4,rfl,rfl⟩;exact⟨rfl,rfl,((f1.trans (Ext.drew _)).trans f3).trans f4⟩
theorem agW (h:DB w A most S Mi Mo):xM (some ⟨A.d,0,none⟩) w λn w'=>n=((live 0 S).length:Int)/\w'=w:=by
 apply Vg;refine pq (DL h) ?_;rintro _ w2 ⟨rfl,hw⟩;subst hw;simp only[sx,Bool.not_true,h.hd.cell];exact⟨by trivial,by trivial⟩
theorem N7:∀{S:Slots} {i:Nat},freeN S=some i↔S[i]? =some none/\∀j,j<i->∃b,S[j]? =some (some b)
 |[],i=>by simp[freeN]
 |none::r,i=>by
  simp only[freeN,Option.some.injEq];constructor
  ·rintro rfl;exact⟨rfl,by omega⟩
  ·rintro⟨_,h2⟩
   cases i with
   |zero=>rfl
   |succ i=>obtain⟨b,hb⟩:=h2 0 (by omega);simp at hb
 |some c::r,i=>by
  simp only[freeN,Option.map_eq_some_iff];constructor
  ·rintro⟨k,hk,rfl⟩;obtain⟨h1,h2⟩:=N7.1 hk;refine⟨by simpa using h1,λj hj=> ?_⟩
   cases j with
   |zero=>exact⟨c,rfl⟩
   |succ j=>simpa using h2 j (by omega)
  ·rintro⟨h1,h2⟩
   cases i with
   |zero=>simp at h1
   |succ i=>exact⟨i,N7.2 ⟨by simpa using h1,λj hj=>by simpa using h2 (j+1) (by omega)⟩,rfl⟩
theorem Xu:∀{S:Slots},(∀j,j<S.length->∃b,S[j]? =some (some b))->freeN S=none
 |[],_=>rfl
 |none::r,h=>by obtain⟨b,hb⟩:=h 0 (by simp);simp at hb
 |some c::r,h=>by
  simp only[freeN,Option.map_eq_none_iff];exact Xu λj hj=>by simpa using h (j+1) (by simp;omega)
theorem ae3 (h:DB w A most S Mi Mo):vI (some ⟨A.d,0,none⟩) w λn t w'=>w'=w/\t=(freeN S).isSome/\n=(((freeN S).getD 0:Nat):Int):=by
 apply Tv;have hm:=h.mx;have hl:=h.len;simp only[sx,h.hd.cell];refine iE (λst W=>W=w/\∃i:Nat,i<=most/\st.1=(i:Int)/\∀j,j<i->∃b,S[j]? =some (some b)) (λst _=>most - st.1.toNat) ⟨rfl,0,by omega,rfl,by omega⟩ ?_;rintro⟨x,⟨⟩⟩ W ⟨rfl,i,hi,rfl,hp⟩ next I
 by_cases hlt:i<most
 ·have u:((i:Int)<(most:Int)):=by omega
  have hS:S[i]? =some S[i]:=getElem?_eq_getElem (by omega);generalize S[i]=o at hS;simp only[sx,u,decide_true,h.hd.cell,toNat_natCast,h.slot hS 8 (by omega),VQ];refine⟨by omega,by trivial,?_⟩
  cases o with
  |none=>
   have hf:=N7.2 ⟨hS,hp⟩;simp only[isSome_none,Bool.not_false,cond_true,hf];exact⟨by trivial,rfl,rfl⟩
  |some b=>
   simp only[isSome_some,Bool.not_true,cond_false];rw[wrap_i64 (by omega) (by omega)];refine I _ _ ⟨rfl,i+1,by omega,by simp,λj hj=> ?_⟩ (by simp only;omega);by_cases J:j<i
   ·exact hp j J
   ·have:j=i:=by omega
    subst this;exact⟨b,hS⟩
 ·have u:¬((i:Int)<(most:Int)):=by omega
  simp only[u,decide_false,cond_false];have hf:=Xu (S:=S) λj hj=>hp j (by omega);rw[hf];exact⟨by trivial,rfl,rfl⟩
theorem adN {S:Slots} {i:Nat} (hi:i<S.length) (o:Option Bnd):(S.flatMap mX).take (i * 9)++mX o++(S.flatMap mX).drop (i * 9+9)=(S.set i o).flatMap mX:=by
 have e1:(S.flatMap mX).take (i * 9)=(S.take i).flatMap mX:=by
  have h:S=S.take i++S.drop i:=(take_append_drop i S).symm;have hl:((S.take i).flatMap mX).length=i * 9:=by rw[jU mX 9 zk];simp;omega
  conv=>lhs;rw[h,flatMap_append]
  rw[<- hl];simp
 have e2:(S.flatMap mX).drop (i * 9+9)=(S.drop (i+1)).flatMap mX:=by
  have h:S=S.take (i+1)++S.drop (i+1):=(take_append_drop (i+1) S).symm;have hl:((S.take (i+1)).flatMap mX).length=i * 9+9:=by rw[jU mX 9 zk];simp;omega
  conv=>lhs;rw[h,flatMap_append]
  rw[<- hl];simp
 rw[e1,e2,List.set_eq_take_append_cons_drop,if_pos hi,flatMap_append,flatMap_cons,List.append_assoc]
theorem acn (h:Row w A.sl (S.flatMap mX)) {i:Nat} (hi:i<S.length) (o:Option Bnd) {K:b_} (hK:∀w',Row w' A.sl ((S.set i o).flatMap mX)->iG w w' (·=A.sl)->w'.heap.size=w.heap.size->K w'):lM (mX o) w ⟨A.sl,i * 9,none⟩ 0 K:=by
 refine TP (mX o) w _ (i * 9) 0 h (λv hv=>List.all_eq_true.1 (aea o) v hv) ?_ λw1 r1 f1 z1=> ?_
 ·rw[zk,jU mX 9 zk];omega
 ·rw[Nat.add_zero,zk,adN hi] at r1;exact hK w1 r1 (f1 _ rfl) z1
def O4 (S:Slots) (Mi Mo:ByteArray->Option Int) (b:Bnd):Int×Int:=
 if (Mi (Bind.keyS b.i)).isSome||(Mo (Bind.keyS b.o)).isSome then (0,9) else match freeN S with
  |none=>(0,7)
  |some i=>((i:Int),0)
theorem agU (h:DB w A most S Mi Mo) (b:Bnd) (hb:b.ok) (u:∀x,fp A x->x<w.heap.size):
  xK (some ⟨A.d,0,none⟩) b.sw b.pr b.ad b.po b.opr b.oad b.opo b.st w λn e w'=>(n,e)=O4 S Mi Mo b/\iG w w' (fp A)/\
   ∃A' S' Mi' Mo',DB w' A' most S' Mi' Mo'/\A'.d=A.d/\(∀x,fp A' x->fp A x\/w.heap.size<=x)/\(∀x,fp A' x->x<w'.heap.size)/\S'=(if (O4 S Mi Mo b).2=0 then S.set (O4 S Mi Mo b).1.toNat (some b) else S):=by
 apply Vd;refine iI λp w1 r1 e1 z1 f1=> ?_;refine pq (DL (h.ext f1)) ?_;rintro _ w2 ⟨rfl,hw⟩;subst hw;simp only[sx,Bool.not_true,r1.cell];refine CV (UK (h.ext f1) _ _ _ _ hb.1) ?_;rintro n2 t2 w3 ⟨ht2,_,f3⟩;simp only[d_,iy,iF,(r1.ext f3).cell];refine Ip (ZJ ((h.ext f1).ext f3) _ _ _ hb.2) ?_;rintro n4 t4 w4 ⟨ht4,_,f4⟩;have ht2:t2=(Mi (Bind.keyS b.i)).isSome:=ht2;have ht4:t4=(Mo (Bind.keyS b.o)).isSome:=ht4;have y4:=f3.trans f4;have x4:Ext w w4:=f1.trans y4;have h4:=h.ext x4;have twice:(t2||t4)=true->((0:Int),(9:Int))=O4 S Mi Mo b/\iG w w4 (fp A)/\∃A' S' Mi' Mo',DB w4 A' most S' Mi' Mo'/\A'.d=A.d/\(∀x,fp A' x->fp A x\/w.heap.size<=x)/\(∀x,fp A' x->x<w4.heap.size)/\S'=(if (O4 S Mi Mo b).2=0 then S.set (O4 S Mi Mo b).1.toNat (some b) else S):=by
  intro ht;have e:O4 S Mi Mo b=(0,9):=by unfold O4;rw[<- ht2,<- ht4,if_pos ht]
  rw[e];exact⟨rfl,x4 _,A,S,Mi,Mo,h4,rfl,λx hx=> .inl hx,λx hx=>by have:=u x hx;have:=x4.size;omega,by rw[if_neg (by simp)]⟩
 cases ab:t2 with
 |true=>simp only[cond_true];exact twice (by rw[ab];rfl)
 |false=>
 cases Y:t4 with
 |true=>simp only[cond_true,cond_false];exact twice (by rw[ab,Y];rfl)
 |false=>
 rw[ab] at ht2;rw[Y] at ht4;simp only[cond_false];refine SQ (ae3 h4) ?_;rintro n5 t5 w5 ⟨hw,ht5,hn5⟩;subst hw
 cases aa:freeN S with
 |none=>
  rw[aa] at ht5;subst ht5;simp only[isSome_none,Bool.not_false,cond_true];have e:O4 S Mi Mo b=(0,7):=by unfold O4;rw[<- ht2,<- ht4,aa];rfl
  rw[e];exact⟨rfl,x4 _,A,S,Mi,Mo,h4,rfl,λx hx=> .inl hx,λx hx=>by have:=u x hx;have:=x4.size;omega,by rw[if_neg (by simp)]⟩
 |some i=>
  rw[aa] at ht5 hn5;subst ht5;have hn5:n5=(i:Int):=hn5;subst hn5;have e:O4 S Mi Mo b=((i:Int),0):=by unfold O4;rw[<- ht2,<- ht4,aa];rfl
  rw[e];obtain⟨g1,g2,g3,g4,g5,g6,g7⟩:=Bind.yQ 0 aa;have hm:=h.mx;have hl:=h.len;have h5:=h4.ext (Ext.drew _);have r5:=(r1.ext y4).drew;simp only[sx,isSome_some,Bool.not_true,h5.hd.cell,r5.cell,toNat_natCast];refine⟨by omega,by omega,?_⟩;refine acn h5.row g1 (some b) λw6 row6 f6 z6=> ?_;obtain⟨n1,n2,n3,n4,n5,n6,n7,n8,n9,n10,n11,n12,n13⟩:=h.ne;have hp:∀x,fp A x->x≠p:=λx hx=>by have:=u x hx;omega
  have hpd:=hp _ (.inl rfl);have ag:=hp _ (.inr (.inl rfl));have hd6:=(h5.hd.fr f6 n1).drew;have r6:=(r5.fr f6 (Ne.symm ag)).drew;simp only[d_,iy,iF,uV,hd6.cell,r6.cell];refine AL (YE _ _ _ _ hb.1 _) ?_;rintro _ w7 ⟨rfl,f7⟩;have hd7:=hd6.ext f7;have r7:=r6.ext f7;simp only[true_and,d_,hd7.cell];obtain⟨LI,tI,cI⟩:=h5.tI;obtain⟨LO,tO,cO⟩:=h5.tO;have f67:iG w5.drew w7 (·=A.sl):=(f6.ext (Ext.drew _)).ext f7;have tI7:=tI.fr f67 (Ne.symm n6) (Ne.symm n7);have tO7:=tO.fr f67 (Ne.symm n8) (Ne.symm n9);have ac:Mi (Bind.keyS b.i)=none:=by cases hx:Mi (Bind.keyS b.i) with
   |none=>rfl
   |some v=>rw[hx] at ht2;cases ht2
  have ae:Mo (Bind.keyS b.o)=none:=by cases hx:Mo (Bind.keyS b.o) with
   |none=>rfl
   |some v=>rw[hx] at ht4;cases ht4
  have z7:=f67.size;have hdrz:w5.drew.heap.size=w5.heap.size:=rfl;have x4z:=x4.size;refine EZ (acM tI7 (Bind.keyS b.i) (i:Int) (DR _ (by simp[Bnd.i]))) ?_;rintro e8 w8 (⟨rfl,hlt8,s8,L8,t8,c8,f8,hs8⟩|⟨_,_,R,_⟩);rotate_left
  ·exfalso;rw[cI] at R;omega
  have hd8:=(hd7.fr f8 (by rintro(h|h);exact n2 h;exact n3 h)).drew;have r8:Row w8.drew p _:=(r7.fr f8 (by rintro(h|h);exact hp _ (.inr (.inr (.inl rfl))) h.symm;exact hp _ (.inr (.inr (.inr (.inl rfl)))) h.symm)).drew;simp only[d_,iy,iF,uV,hd8.cell,r8.cell];refine AO (Y9 _ _ _ hb.2 _) ?_;rintro _ w9 ⟨rfl,f9⟩;have hd9:=hd8.ext f9;simp only[true_and,d_,hd9.cell];have hs8':s8≠A.tu/\s8≠A.su/\s8≠A.d/\s8≠A.sl:=by
   have q1:=u A.tu (.inr (.inr (.inr (.inr (.inl rfl)))));have q2:=u A.su (.inr (.inr (.inr (.inr (.inr rfl)))));have q3:=u A.d (.inl rfl);have q4:=u A.sl (.inr (.inl rfl));rcases hs8 with h8|h8
   ·rw[h8];exact⟨n12,n13,Ne.symm n3,Ne.symm n7⟩
   ·have O:w.heap.size<=s8:=Nat.le_trans x4z (Nat.le_trans z7 h8);exact⟨λh=>by rw[h] at O;exact Nat.lt_irrefl _ (Nat.lt_of_lt_of_le q1 O),λh=>by rw[h] at O;exact Nat.lt_irrefl _ (Nat.lt_of_lt_of_le q2 O),λh=>by rw[h] at O;exact Nat.lt_irrefl _ (Nat.lt_of_lt_of_le q3 O),λh=>by rw[h] at O;exact Nat.lt_irrefl _ (Nat.lt_of_lt_of_le q4 O)⟩
  have f89:iG w7 w9 (λx=>x=A.ti\/x=A.si):=(f8.ext (Ext.drew _)).ext f9;have tO9:=tO7.fr f89 (by rintro(h|h);exact n10 h.symm;exact n12 h.symm) (by rintro(h|h);exact n11 h.symm;exact n13 h.symm);have tI9:=(t8.PV (Ext.drew w8)).PV f9;have z8:=f8.size;have z9:=f9.size;have hdrz8:w8.drew.heap.size=w8.heap.size:=rfl;refine EZ (acM tO9 (Bind.keyS b.o) (i:Int) (DR _ (by simp[Bnd.o]))) ?_;rintro e10 ah (⟨rfl,hlt10,J,af,t10,ai,f10,hs10⟩|⟨_,_,R,_⟩);rotate_left
  ·exfalso;rw[cO] at R;omega
  have hs10':J≠A.ti/\J≠s8/\J≠A.d/\J≠A.sl:=by
   have q1:=u A.ti (.inr (.inr (.inl rfl)));have q2:=u A.su (.inr (.inr (.inr (.inr (.inr rfl)))));have q3:=u A.d (.inl rfl);have q4:=u A.sl (.inr (.inl rfl));have q5:s8<w9.heap.size:=by
    have:s8<w8.heap.size:=by
     by_cases hL:L8=[]
     ·rw[t8.nils hL];exact t8.ht.hd.lt
     ·exact(t8.ht.row hL).lt
    exact Nat.lt_of_lt_of_le this z9
   rcases hs10 with N|N
   ·rw[N];exact⟨Ne.symm n11,Ne.symm hs8'.2.1,Ne.symm n5,Ne.symm n9⟩
   ·have z49:w.heap.size<=J:=Nat.le_trans x4z (Nat.le_trans z7 (Nat.le_trans z8 (Nat.le_trans z9 N)));exact⟨λh=>by rw[h] at z49;exact Nat.lt_irrefl _ (Nat.lt_of_lt_of_le q1 z49),λh=>by rw[h] at N;exact Nat.lt_irrefl _ (Nat.lt_of_lt_of_le q5 N),λh=>by rw[h] at z49;exact Nat.lt_irrefl _ (Nat.lt_of_lt_of_le q3 z49),λh=>by rw[h] at z49;exact Nat.lt_irrefl _ (Nat.lt_of_lt_of_le q4 z49)⟩
  have hd10:=hd9.fr f10 (by rintro(h|h);exact n4 h;exact n5 h);simp only[d_,iy,iF,hd10.cell];have hll:=Bind.lX S 0;rw[wrap_i64 (by omega) (by omega)];refine iK hd10 rfl (by simp) λU hd11 f11 z11=> ?_;simp only[List.set_cons_zero,List.set_cons_succ] at hd11;have f11d:=f11 (·=A.d) rfl;have I:(live 0 (S.set i (some b))).length=(live 0 S).length+1:=by
   rw[g7 b];simp only[List.length_append,List.length_cons,List.length_take,List.length_drop];omega
  have tI11:TB U A.ti s8 L8 most (Go.Proofs.upd Mi (Bind.keyS b.i) (some (i:Int))):=(tI9.fr f10 (by rintro(h|h);exact n10 h;exact n11 h) (by rintro(h|h);exact hs8'.1 h;exact hs8'.2.1 h)).fr f11d (Ne.symm n2) hs8'.2.2.1;have tO11:TB U A.tu J af most (Go.Proofs.upd Mo (Bind.keyS b.o) (some (i:Int))):=t10.fr f11d (Ne.symm n4) hs10'.2.2.1;have row11:Row U A.sl ((S.set i (some b)).flatMap mX):=((((row6.ext (Ext.drew _)).ext f7).fr f89 (by rintro(h|h);exact n6 h;exact n7 h)).fr f10 (by rintro(h|h);exact n8 h;exact n9 h)).fr f11d (Ne.symm n1);have zb:w5.drew.heap.size<=w7.heap.size:=f67.size;have ftot:iG w U (fp A):=by
   have q1:iG w w7 (fp A):=((x4.trans (Ext.drew w5)) _).trans f67 λx _ hx=> .inr (.inl hx);have q2:iG w w9 (fp A):=q1.trans f89 λx _ hx=>by
    rcases hx with hx|hx
    ·exact .inr (.inr (.inl hx))
    ·exact .inr (.inr (.inr (.inl hx)))
   have q3:iG w ah (fp A):=q2.trans f10 λx _ hx=>by
    rcases hx with hx|hx
    ·exact .inr (.inr (.inr (.inr (.inl hx))))
    ·exact .inr (.inr (.inr (.inr (.inr hx))))
   exact q3.trans f11d λx _ hx=> .inl hx
  have zt:=ftot.size;have eu:∀M k v,Go.Proofs.upd M k v=Gp.Bind.upd M k v:=λ_ _ _=>rfl;rw[eu] at tI11 tO11;have db:DB U ⟨A.d,A.sl,A.ti,s8,A.tu,J⟩ most (S.set i (some b)) (Gp.Bind.upd Mi (Bind.keyS b.i) (some (i:Int))) (Gp.Bind.upd Mo (Bind.keyS b.o) (some (i:Int))):=by
   refine⟨?_,row11,by rw[List.length_set];exact hl,hm,⟨L8,tI11,?_⟩,⟨af,tO11,?_⟩,h.good.add g2 hb ac ae,?_⟩
   ·rw[I];simpa using hd11
   ·rw[c8,I,ac,cI];rfl
   ·rw[ai,I,ae,cO];rfl
   ·exact⟨n1,n2,Ne.symm hs8'.2.2.1,n4,Ne.symm hs10'.2.2.1,n6,Ne.symm hs8'.2.2.2,n8,Ne.symm hs10'.2.2.2,n10,Ne.symm hs10'.1,hs8'.1,Ne.symm hs10'.2.1⟩
  refine⟨ftot,_,_,_,_,db,rfl,?_,?_,by simp⟩
  ·intro x hx;rcases hx with hx|hx|hx|hx|hx|hx
   ·exact .inl (.inl hx)
   ·exact .inl (.inr (.inl hx))
   ·exact .inl (.inr (.inr (.inl hx)))
   ·have hx:x=s8:=hx;rcases hs8 with h8|h8
    ·exact .inl (.inr (.inr (.inr (.inl (hx.trans h8)))))
    ·right;rw[hx];exact Nat.le_trans x4z (Nat.le_trans z7 h8)
   ·exact .inl (.inr (.inr (.inr (.inr (.inl hx)))))
   ·have hx:x=J:=hx;rcases hs10 with N|N
    ·exact .inl (.inr (.inr (.inr (.inr (.inr (hx.trans N))))))
    ·right;rw[hx];exact Nat.le_trans x4z (Nat.le_trans z7 (Nat.le_trans z8 (Nat.le_trans z9 N)))
  ·intro x hx;have tlt:∀{w0:World} {b s:Nat} {L:List yT} {m:Int} {M:ByteArray->Option Int},TB w0 b s L m M->s<w0.heap.size:=by
    intro w0 b s L m M t;by_cases hL:L=[]
    ·rw[t.nils hL];exact t.ht.hd.lt
    ·exact(t.ht.row hL).lt
   have lt:∀y,fp A y->y<U.heap.size:=λy hy=>Nat.lt_of_lt_of_le (u y hy) zt;rcases hx with hx|hx|hx|hx|hx|hx
   ·exact lt x (.inl hx)
   ·exact lt x (.inr (.inl hx))
   ·exact lt x (.inr (.inr (.inl hx)))
   ·have hx:x=s8:=hx;rw[hx];exact tlt tI11
   ·exact lt x (.inr (.inr (.inr (.inr (.inl hx)))))
   ·have hx:x=J:=hx;rw[hx];exact tlt tO11
end
end Go.Proofs
end
section
namespace Go.Proofs
open Gp Gp.Hash
open Gp.Bind (Bnd Slots live GoodB freeN getS In64)
section
variable {w w':World} {A:XO} {most:Nat} {S:Slots} {Mi Mo:ByteArray->Option Int}
theorem Z4 {S:Slots} {id:Int} (h:id<0\/(S.length:Int)<=id):getS S id=none:=by
 unfold Gp.Bind.getS;split
 ·rw[List.getElem?_eq_none (by omega)];rfl
 ·rfl
theorem ag5 {S:Slots} {id:Int} (h0:0<=id) {o:Option Bnd} (h:S[id.toNat]? =some o):getS S id=o:=by
 unfold Gp.Bind.getS;rw[if_pos h0,h];rfl
theorem acC (h:DB w A most S Mi Mo) (id:Int):uJ (some ⟨A.d,0,none⟩) id w λr w'=>r=(getS S id).isSome/\w'=w:=by
 apply Vh;have hl:=h.len;refine pq (DL h) ?_;rintro _ w2 ⟨rfl,hw⟩;subst hw;simp only[cond_true];by_cases c1:id>=0
 ·simp only[sx,c1,decide_true,h.hd.cell];by_cases c2:id<(most:Int)
  ·have hS:S[id.toNat]? =some S[id.toNat]:=getElem?_eq_getElem (by omega);generalize S[id.toNat]=o at hS;simp only[c2,decide_true,cond_true,iy,qw,h.slot hS 8 (by omega),VQ];refine⟨by first|trivial|omega,by first|trivial|omega,?_,by trivial⟩
   rw[ag5 c1 hS]
  ·simp only[c2,decide_false,cond_false];exact⟨by rw[Z4 (.inr (by omega))];rfl,by trivial⟩
 ·simp only[c1,decide_false,cond_false];exact⟨by rw[Z4 (.inl (by omega))];rfl,by trivial⟩
def ai7 (b:Bnd) (a1 a2 a3 a4 a5 a6 a7:Int) (a8:Bool):Prop:=a1=b.sw/\a2=b.pr/\a3=b.ad/\a4=b.po/\a5=b.opr/\a6=b.oad/\a7=b.opo/\a8=b.st
def ai6:Bnd:=⟨0,0,0,0,0,0,0,false⟩
theorem acB (h:DB w A most S Mi Mo) (id:Int):uI (some ⟨A.d,0,none⟩) id w λa1 a2 a3 a4 a5 a6 a7 a8 r w'=>r=(getS S id).isSome/\ai7 ((getS S id).getD ai6) a1 a2 a3 a4 a5 a6 a7 a8/\Ext w w':=by
 apply Vf;have hl:=h.len;refine iI λp w1 r1 e1 z1 f1=> ?_;have h1:=h.ext f1;refine Ji (acC h1 id) ?_;rintro _ w2 ⟨rfl,hw⟩;subst hw
 cases hg:getS S id with
 |none=>
  simp only[isSome_none,Bool.not_false,cond_true];refine iJ r1 rfl rfl λw3 r3 f3 _=> ?_;simp only[sx,true_and,r3.cell];exact⟨⟨rfl,rfl,rfl,rfl,rfl,rfl,rfl,rfl⟩,f1.new (f3 (·=p) rfl) λy hy e=>by omega⟩
 |some b=>
  obtain⟨g0,g1⟩:=Gp.Bind.zh.1 hg;have gl:=(List.getElem?_eq_some_iff.1 g1).1;have c:∀j,j<9->_:=h1.slot g1;have c0:=c 0 (by omega);have c1:=c 1 (by omega);have c2:=c 2 (by omega);have c3:=c 3 (by omega);have c4:=c 4 (by omega);have c5:=c 5 (by omega);have c6:=c 6 (by omega);have c7:=c 7 (by omega);simp only[Nat.add_zero] at c0;simp only[sx,isSome_some,Bool.not_true,h1.hd.cell,c0,c1,c2,c3,c4,c5,c6,c7,mX];refine⟨by omega,by omega,iJ r1 rfl rfl λw3 r3 f3 _=> ?_⟩;simp only[true_and,d_,iy,iF,qw,r3.cell];exact⟨⟨rfl,rfl,rfl,rfl,rfl,rfl,rfl,rfl⟩,f1.new (f3 (·=p) rfl) λy hy e=>by omega⟩
theorem abn (h:DB w A most S Mi Mo) (id:Int) (u:∀x,fp A x->x<w.heap.size):
  rP (some ⟨A.d,0,none⟩) id w λr w'=>r=(getS S id).isSome/\iG w w' (fp A)/\∃Mi' Mo',DB w' A most (if (getS S id).isSome then S.set id.toNat none else S) Mi' Mo':=by
 apply P5;have hl:=h.len;have hm:=h.mx;refine Ji (acC h id) ?_;rintro _ w1 ⟨rfl,hw⟩;subst hw
 cases hg:getS S id with
 |none=>
  simp only[isSome_none,Bool.not_false,cond_true];exact⟨by trivial,iG.refl _ _,Mi,Mo,by simpa using h⟩
 |some b=>
  obtain⟨g0,g1⟩:=Gp.Bind.zh.1 hg;have gl:=(List.getElem?_eq_some_iff.1 g1).1;have hb:=h.good.ok _ _ g1;have c:∀j,j<9->_:=h.slot g1;have c0:=c 0 (by omega);have c1:=c 1 (by omega);have c2:=c 2 (by omega);have c3:=c 3 (by omega);have c4:=c 4 (by omega);have c5:=c 5 (by omega);have c6:=c 6 (by omega);have c7:=c 7 (by omega);have c8:=c 8 (by omega);simp only[Nat.add_zero] at c0;simp only[sx,isSome_some,Bool.not_true,h.hd.cell,c0,c1,c2,c3,c4,c5,c6,c7,c8,mX];refine⟨by omega,by omega,FX rfl rfl λp w2 r2 e2 z2 f2=> ?_⟩;have x2:Ext w1 w2.drew:=f2.trans (Ext.drew _);have h2:=h.ext x2;have r2d:=r2.drew;simp only[sx,h2.hd.cell,r2d.cell];refine AL (YE _ _ _ _ hb.1 _) ?_;rintro _ w3 ⟨rfl,f3⟩;have h3:=h2.ext f3;have r3:=r2d.ext f3;simp only[true_and,d_,h3.hd.cell];obtain⟨LI,tI,cI⟩:=h3.tI;obtain⟨n1,n2,n3,n4,n5,n6,n7,n8,n9,n10,n11,n12,n13⟩:=h.ne;have hp:∀x,fp A x->x≠p:=λx hx e=>by have:=u x hx;rw[e,e2] at this;exact Nat.lt_irrefl _ this
  refine B_ (U1 tI (Bind.keyS b.i) (DR _ (by simp[Bnd.i]))) ?_;rintro _ w4 ⟨_,⟨L4,t4,c4'⟩,f4⟩;have I:Mi (Bind.keyS b.i)=some (id.toNat:Int):=(h.good.i _ _).2 ⟨_,b,g1,rfl,rfl⟩;have J:Mo (Bind.keyS b.o)=some (id.toNat:Int):=(h.good.o _ _).2 ⟨_,b,g1,rfl,rfl⟩;have hd4:=(h3.hd.fr f4 (by rintro(h|h);exact n2 h;exact n3 h)).drew;have r4:Row w4.drew p _:=(r3.fr f4 (by rintro(h|h);exact hp _ (.inr (.inr (.inl rfl))) h.symm;exact hp _ (.inr (.inr (.inr (.inl rfl)))) h.symm)).drew;simp only[d_,iy,iF,uV,hd4.cell,r4.cell];refine AO (Y9 _ _ _ hb.2 _) ?_;rintro _ w5 ⟨rfl,f5⟩;have hd5:=hd4.ext f5;simp only[true_and,d_,hd5.cell];have f45:iG w3 w5 (λx=>x=A.ti\/x=A.si):=(f4.ext (Ext.drew _)).ext f5;obtain⟨LO,tO,cO⟩:=h3.tO;have tO5:=tO.fr f45 (by rintro(h|h);exact n10 h.symm;exact n12 h.symm) (by rintro(h|h);exact n11 h.symm;exact n13 h.symm);have tI5:=(t4.PV (Ext.drew _)).PV f5;refine B_ (U1 tO5 (Bind.keyS b.o) (DR _ (by simp[Bnd.o]))) ?_;rintro _ w6 ⟨_,⟨L6,t6,c6'⟩,f6⟩;have hd6:=hd5.fr f6 (by rintro(h|h);exact n4 h;exact n5 h);have row6:Row w6 A.sl (S.flatMap mX):=((h3.row.fr f45 (by rintro(h|h);exact n6 h;exact n7 h)).fr f6 (by rintro(h|h);exact n8 h;exact n9 h));simp only[sx,hd6.cell];refine⟨by omega,by omega,?_⟩;refine acn row6 gl none λw7 row7 f7 z7=> ?_;have hd7:=hd6.fr f7 n1;simp only[d_,iy,iF,hd7.cell];have hlen:=Gp.Bind.CW 0 g1;have hll:=Gp.Bind.lX S 0;rw[wrap_i64 (by omega) (by omega)];refine iK hd7 rfl (by simp) λw8 hd8 f8 z8=> ?_;simp only[List.set_cons_zero,List.set_cons_succ] at hd8;have f8d:=f8 (·=A.d) rfl;have eu:∀M k v,Go.Proofs.upd M k v=Gp.Bind.upd M k v:=λ_ _ _=>rfl;have tI8:=((tI5.fr f6 (by rintro(h|h);exact n10 h;exact n11 h) (by rintro(h|h);exact n12 h;exact n13 h)).fr f7 (Ne.symm n6) (Ne.symm n7)).fr f8d (Ne.symm n2) (Ne.symm n3);have tO8:=(t6.fr f7 (Ne.symm n8) (Ne.symm n9)).fr f8d (Ne.symm n4) (Ne.symm n5);rw[eu] at tI8 tO8;have ff:iG w1 w8 (fp A):=by
   have q1:iG w1 w5 (fp A):=((x2.trans f3) _).trans f45 λx _ hx=>by
    rcases hx with hx|hx
    ·exact .inr (.inr (.inl hx))
    ·exact .inr (.inr (.inr (.inl hx)))
   have q2:iG w1 w6 (fp A):=q1.trans f6 λx _ hx=>by
    rcases hx with hx|hx
    ·exact .inr (.inr (.inr (.inr (.inl hx))))
    ·exact .inr (.inr (.inr (.inr (.inr hx))))
   exact(q2.trans f7 λx _ hx=> .inr (.inl hx)).trans f8d λx _ hx=> .inl hx
  have e:((live 0 S).length:Int) - 1=((live 0 (S.set id.toNat none)).length:Int):=by omega
  rw[e] at hd8;rw[I] at c4';rw[J] at c6';simp only[isSome_some,if_true] at c4' c6';have db:DB w8 A most (S.set id.toNat none) (Gp.Bind.upd Mi (Bind.keyS b.i) none) (Gp.Bind.upd Mo (Bind.keyS b.o) none):=
   ⟨hd8,row7.fr f8d (Ne.symm n1),by rw[List.length_set];exact hl,hm,⟨L4,tI8,by omega⟩,⟨L6,tO8,by omega⟩,h.good.remove g1,h.ne⟩
  exact⟨ff,_,_,db⟩
def yD (L:List (Int×Bnd)):List (G9 [.one (.int .i64),.agg [(.int .i64),(.int .i64),(.int .i64),(.int .i64),(.int .i64),(.int .i64),(.int .i64),.bool]]):=
 L.map λx=>(x.1,(x.2.sw,x.2.pr,x.2.ad,x.2.po,x.2.opr,x.2.oad,x.2.opo,x.2.st,()),())
theorem nZ:∀(S T:Slots) (k:Nat),live k (S++T)=live k S++live (k+S.length) T
 |[],T,k=>by simp[live]
 |none::r,T,k=>by rw[cons_append,live,live,nZ r T (k+1)];simp;congr 1;omega
 |some b::r,T,k=>by rw[cons_append,live,live,nZ r T (k+1)];simp;congr 1;omega
theorem Ll {S:Slots} {i:Nat} {b:Bnd} (h:S[i]? =some (some b)):(live 0 S)[(live 0 (S.take i)).length]? =some ((i:Int),b)/\(live 0 (S.take (i+1))).length=(live 0 (S.take i)).length+1:=by
 have u:=(List.getElem?_eq_some_iff.1 h).1;have hS:S[i]=some b:=by rw[getElem?_eq_getElem u] at h;simpa using h
 have e1:S=S.take i++some b::S.drop (i+1):=by
  conv=>lhs;rw[<- take_append_drop i S,List.drop_eq_getElem_cons u,hS]
 have hl:(S.take i).length=i:=by simp;omega
 constructor
 ·conv=>lhs;rw[e1]
  rw[nZ,List.getElem?_append_right (by simp[hl])];simp[live,hl]
 ·rw[List.take_succ_eq_append_getElem u,hS,nZ];simp[live]
theorem QT {S:Slots} {i:Nat} (h:S[i]? =some none):(live 0 (S.take (i+1))).length=(live 0 (S.take i)).length:=by
 have u:=(List.getElem?_eq_some_iff.1 h).1;have hS:S[i]=none:=by rw[getElem?_eq_getElem u] at h;simpa using h
 rw[List.take_succ_eq_append_getElem u,hS,nZ];simp[live]
theorem O5 (most:Nat) (S:Slots) (Mi Mo:ByteArray->Option Int) (A:XO) (f0:Nat):
  tH Tryz.prog [.one (.int .i64),.agg [(.int .i64),(.int .i64),(.int .i64),(.int .i64),(.int .i64),(.int .i64),(.int .i64),.bool]] (Value.func (.func Iu) #[] #[(Value.pointer (some ⟨f0,0,none⟩))])
   (λW=>Row W f0 [.pointer (some ⟨A.d,0,none⟩)]/\DB W A most S Mi Mo) (yD (live 0 S)):=by
 refine⟨by kernel_rfl,λn Q D hC hQ hD hy w h0=> ?_⟩;refine Calls.mono (Q9 (a0:= .func (.yield n) #[] #[]) (f0:=⟨f0,0,none⟩) (K:=λw'=>Q (yD (live 0 S)).length w'\/D w') ?_) (λe w' h=>h);obtain⟨r0,h⟩:=hC _ _ h0;have hl:=h.len;have hm:=h.mx;simp only[sx,r0.cell];refine pq (DL h) ?_;rintro _ w2 ⟨rfl,hw⟩;subst hw;simp only[sx,Bool.not_true,r0.cell,h.hd.cell];have J:(yD (live 0 S)).length=(live 0 S).length:=by simp[yD]
 rw[J];refine iE (λst W=>∃i:Nat,i<=most/\st.1=(i:Int)/\Q (live 0 (S.take i)).length W) (λst _=>most - st.1.toNat) ⟨0,by omega,rfl,by simpa [live] using h0⟩ ?_;rintro⟨x,⟨⟩⟩ W ⟨i,hi,rfl,hq⟩ next I
 obtain⟨r0,h⟩:=hC _ _ hq;by_cases hlt:i<most
 ·have u:((i:Int)<(most:Int)):=by omega
  have hS:S[i]? =some S[i]:=getElem?_eq_getElem (by omega);generalize S[i]=o at hS;have c:∀j,j<9->_:=h.slot hS;have c0:=c 0 (by omega);have c1:=c 1 (by omega);have c2:=c 2 (by omega);have c3:=c 3 (by omega);have c4:=c 4 (by omega);have c5:=c 5 (by omega);have c6:=c 6 (by omega);have c7:=c 7 (by omega);have c8:=c 8 (by omega);simp only[Nat.add_zero] at c0
  cases o with
  |none=>
   simp only[u,decide_true,cond_true,d_,iy,iF,qw,toNat_natCast,c0,c1,c2,c3,c4,c5,c6,c7,c8,mX];refine⟨by omega,by trivial,FX rfl rfl λp w3 r3 e3 z3 f3=> ?_⟩;simp only[sx,r3.cell];rw[wrap_i64 (by omega) (by omega)];refine I _ _ ⟨i+1,by omega,by simp,?_⟩ (by simp only;omega);rw[QT hS];exact hQ _ _ _ hq f3
  |some b=>
   simp only[u,decide_true,cond_true,d_,iy,iF,qw,toNat_natCast,c0,c1,c2,c3,c4,c5,c6,c7,c8,mX];refine⟨by omega,by trivial,FX rfl rfl λp w3 r3 e3 z3 f3=> ?_⟩;simp only[sx,r3.cell];obtain⟨g1,g2⟩:=Ll hS;refine oW (hy (live 0 (S.take i)).length ((i:Int),(b.sw,b.pr,b.ad,b.po,b.opr,b.oad,b.opo,b.st,()),()) w3 _ ?_ (hQ _ _ _ hq f3) ?_ ?_)
   ·simp only[yD,getElem?_map,g1,map_some]
   ·intro W' hq';refine⟨true,rfl,?_⟩;simp only[Bool.not_true,cond_false];rw[wrap_i64 (by omega) (by omega)];exact I _ _ ⟨i+1,by omega,by simp,by rw[g2];exact hq'⟩ (by simp only;omega)
   ·intro W' hd;refine⟨false,rfl,?_⟩;simp only[Bool.not_false,cond_true];exact .inr hd
 ·have u:¬((i:Int)<(most:Int)):=by omega
  simp only[u,decide_false,cond_false];rw[List.take_of_length_le (by omega)] at hq;exact .inl hq
theorem agX (n:Int) (w:World):D6 n w λp e w'=>Ext w w'/\((¬(0<=n/\n<=4096)/\p=none/\e=1)\/(0<=n/\n<=4096/\e=0/\∃A,p=some ⟨A.d,0,none⟩/\(∀x,fp A x->w.heap.size<=x/\x<w'.heap.size)/\DB w' A n.toNat (List.replicate n.toNat none) (λ_=>none) (λ_=>none))):=by
 apply aam;by_cases c1:n<0
 ·simp only[c1,decide_true,cond_true];exact⟨Ext.refl _,.inl ⟨by omega,by trivial,by trivial⟩⟩
 by_cases c2:n>4096
 ·simp only[c1,c2,decide_true,decide_false,cond_true,cond_false];exact⟨Ext.refl _,.inl ⟨by omega,by trivial,by trivial⟩⟩
 simp only[c1,c2,decide_false,cond_false];refine Jj (YD n w) ?_;rintro p1 e1 w1 ⟨f1,(⟨_,_,rfl,ti,rfl,l1,t1⟩|⟨u,_,_⟩)⟩;rotate_left
 ·omega
 refine Jj (YD n w1) ?_;rintro p2 e2 w2 ⟨f2,(⟨_,_,rfl,tu,rfl,l2,t2⟩|⟨u,_,_⟩)⟩;rotate_left
 ·omega
 simp only[show ((0:Int) !=0)=false from rfl,cond_false];refine F6 (by omega) (by omega) (by omega) (by omega) λsl w3 r3 e3 z3 f3=> ?_;refine iI λd w4 r4 e4 z4 f4=> ?_;obtain⟨m,rfl⟩:∃m:Nat,n=(m:Int):=⟨n.toNat,by omega⟩;simp only[toNat_natCast] at r3 r4 ⊢;have f1:Ext w w1:=f1;have f2:Ext w1 w2:=f2;have f3:Ext w2 w3:=f3;have x4:Ext w w4:=(f1.trans f2).trans (f3.trans f4);have i1:=t1.ht.hd.lt;have i2:=t2.ht.hd.lt;have s1:=f1.size;have s2:=f2.size;have sN:∀(k j:Nat),live j (List.replicate k none)=[]:=by
  intro k
  induction k with
  |zero=>intro j;rfl
  |succ k ih=>intro j;rw[replicate_succ,live];exact ih _
 have rep:∀k,iM [Value.int .i64 0,Value.int .i64 0,Value.int .i64 0,Value.int .i64 0,Value.int .i64 0,Value.int .i64 0,Value.int .i64 0,Value.bool false,Value.bool false] k=(List.replicate k (none:Option Bnd)).flatMap mX:=by
  intro k
  induction k with
  |zero=>rfl
  |succ k ih=>rw[iM,ih,replicate_succ,flatMap_cons];rfl
 refine⟨x4,.inr ⟨by omega,by omega,by trivial,⟨d,sl,ti,ti,tu,tu⟩,rfl,?_,?_⟩⟩
 ·intro x hx;rcases hx with hx|hx|hx|hx|hx|hx<;>simp only at hx<;>omega
 ·refine⟨?_,?_,by simp,by omega,⟨[],?_,?_⟩,⟨[],?_,?_⟩,⟨λk v=> ?_,λk v=> ?_,λj b hb=> ?_⟩,?_⟩
  ·rw[sN];exact r4
  ·rw[<- rep];exact r3.ext f4
  ·exact t1.PV (f2.trans (f3.trans f4))
  ·rw[sN];rfl
  ·exact t2.PV (f3.trans f4)
  ·rw[sN];rfl
  ·constructor
   ·intro h;cases h
   ·rintro⟨j,b,hj,_⟩;rw[getElem?_replicate] at hj;split at hj<;>simp at hj
  ·constructor
   ·intro h;cases h
   ·rintro⟨j,b,hj,_⟩;rw[getElem?_replicate] at hj;split at hj<;>simp at hj
  ·rw[getElem?_replicate] at hb;split at hb<;>simp at hb
  ·refine⟨?_,?_,?_,?_,?_,?_,?_,?_,?_,?_,?_,?_,?_⟩<;>simp only<;>omega
end
end Go.Proofs
end
section
namespace Gp.Ses
open Gp.V4
open Gp.Bind (keyB keyS In64 upd)
structure Ses where
 bd:Int
 st:Int
 un:Int
 ra:Int
 rp:Int
deriving DecidableEq
def Ses.k (b:Ses):List Int:=[b.bd,b.ra,b.rp]
def Ses.ok (b:Ses):Prop:=∀n∈b.k,In64 n
abbrev Slots:=List (Option Ses)
def live:Nat->Slots->List (Int×Ses)
 |_,[]=>[]
 |i,none::r=>live (i+1) r
 |i,some b::r=>((i:Int),b)::live (i+1) r
theorem lY:∀{S:Slots} {k:Nat} {v:Int} {b:Ses},(v,b)∈live k S↔∃i:Nat,S[i]? =some (some b)/\v=((k+i:Nat):Int)
 |[],k,v,b=>by simp[live]
 |none::r,k,v,b=>by
  rw[live,lY];constructor
  ·rintro⟨i,h1,h2⟩;exact⟨i+1,by simpa using h1,by omega⟩
  ·rintro⟨i,h1,h2⟩
   cases i with
   |zero=>simp at h1
   |succ i=>exact⟨i,by simpa using h1,by omega⟩
 |some c::r,k,v,b=>by
  rw[live,List.mem_cons,lY];constructor
  ·rintro(h|⟨i,h1,h2⟩)
   ·simp only[Prod.mk.injEq] at h;exact⟨0,by simp[h.2],by omega⟩
   ·exact⟨i+1,by simpa using h1,by omega⟩
  ·rintro⟨i,h1,h2⟩
   cases i with
   |zero=>
    simp only[List.getElem?_cons_zero,Option.some.injEq] at h1;left;rw[h1,h2];rfl
   |succ i=>right;exact⟨i,by simpa using h1,by omega⟩
theorem lX:∀(S:Slots) (k:Nat),(live k S).length<=S.length
 |[],_=>by simp[live]
 |none::r,k=>by have:=lX r (k+1);simp[live];omega
 |some b::r,k=>by have:=lX r (k+1);simp[live];omega
structure GoodS (S:Slots) (M:ByteArray->Option Int):Prop where
 k:∀k v,M k=some v↔∃(j:Nat) (b:Ses),S[j]? =some (some b)/\keyS b.k=k/\v=(j:Int)
 ok:∀(j:Nat) (b:Ses),S[j]? =some (some b)->b.ok
def ids (S:Slots) (k:Int):List Int:=((live 0 S).filter λx=>x.2.bd==k).map (·.1)
theorem ag9 (S:Slots) (k:Int):(ids S k).length<=S.length:=by
 unfold ids;rw[List.length_map];exact Nat.le_trans (List.length_filter_le ..) (lX S 0)
end Gp.Ses
end
section
namespace Go.Proofs.SN
open Gp Gp.Hash
abbrev eI (x:Int):List Value:=[.int .i64 x]
theorem kN (x:Int):(eI x).length=1:=rfl
theorem Yt (x:Int):∀v∈eI x,jr v=true:=by intro v hv;rw[List.mem_singleton.1 hv];rfl
theorem SlN_ix {α:Type} {n:Nat} {f:α->List Value} {w:World} {s:iq} {xs:List α} (hn:∀x,(f x).length=n) (hn0:0<n) (h:mY n f w s xs) {i:Int} {K:Addr->Prop} {x:α} (h0:0<=i) (hx:xs[i.toNat]? =some x)
  (hK:∀a:Addr,(∀j v,(f x)[j]? =some v->w.cell? (a.add j)=some v)->K a):iO s n i K:=by
 obtain⟨a,ha,hc⟩:=h.at_ hn hn0 hx;have hlt:=(List.getElem?_eq_some_iff.1 hx).1;obtain⟨sa,sl,sc⟩:=s;simp only at ha;subst ha;have hl:sl=xs.length:=h.len;refine(FY ..).2 ⟨h0,by omega,hK _ λj v hj=> ?_⟩;rw[<- hc j v hj];congr 1;obtain⟨b,o,t⟩:=a;unfold Addr.add;by_cases h1:i.toNat * n=0<;>by_cases h2:j=0<;>simp[h1,h2,Nat.add_assoc]
theorem ER {w:World} {s:iq} {l:List Int} (h:mY 1 eI w s l) {k:Nat} {z:Int} (hk:l[k]? =some z) {K:Addr->Prop} (hK:∀a,w.cell? a=some (.int .i64 z)->K a):iO s 1 (k:Int) K:=
 SlN_ix kN (by omega) h (by omega) (by rw[toNat_natCast];exact hk) λa hc=>hK a (hc 0 _ rfl)
theorem Xm {w:World} {s:iq} {xs:List Int} (hs:mY 1 eI w s xs) (hl:xs.length<=2^30):
  kS s w λr w'=>Ext w w'/\iW 1 eI w' r xs/\∀b,iq.at r b->w.heap.size<=b:=by
 apply GN;have hlen:=hs.len
 cases ha:s.a with
 |none=>
  have hc:=hs.cells;rw[ha] at hc;have h0:xs.flatMap eI=[]:=hc;have u:=jU eI 1 kN xs;rw[h0] at u;have:xs=[]:=by
   cases xs with
   |nil=>rfl
   |cons _ _=>simp only[List.length_cons,length_nil] at u;omega
  subst this;simp only[Option.isNone_none,cond_true];exact⟨Ext.refl _,iW.nil,λb ⟨o,hb⟩=>by cases hb⟩
 |some a=>
  simp only[Option.isNone_some,cond_false];refine iI λt w1 rt et zt f1=> ?_;have hb:iW 1 eI w1 ⟨some ⟨t,0,none⟩,0,0⟩ ([]:List Int):=iW.row (xs:=[]) rt;refine iV kN hb (hs.ext f1) rfl (by omega) Yt (by simp only[length_nil];omega) (by simp only[length_nil];omega) λs' w' h1 h2 h3=> ?_;refine⟨f1.new h2 λb hb ⟨o,he⟩=>by cases he;omega,h1,λb hb=> ?_⟩;rcases h3 b hb with ⟨o,he⟩|h
  ·cases he;omega
  ·omega
end Go.Proofs.SN
end
section
namespace Go.Proofs.SN
open Gp Gp.Hash
open Gp.Ses (Ses Slots live GoodS ids)
open Gp.Bind (In64)
def mX:Option Ses->List Value
 |none=>[.int .i64 0,.int .i64 0,.int .i64 0,.int .i64 0,.int .i64 0,.bool false]
 |some b=>[.int .i64 b.bd,.int .i64 b.st,.int .i64 b.un,.int .i64 b.ra,.int .i64 b.rp,.bool true]
theorem zk (o:Option Ses):(mX o).length=6:=by cases o<;>rfl
def encI (k:Int):Value:= .int .i64 k
def slV (s:iq):Value:= .slice s.a s.len s.cap
abbrev OL:=List (Int×iq)
theorem eqI (a b:Int):FH Tryz.prog 16 3 (encI a) (encI b)=some (decide (a=b)):=by
 have h:FH Tryz.prog 16 3 (.int .i64 a) (.int .i64 b)=some (a==b):=by kernel_rfl
 rw[encI,encI,h];congr 1
theorem afy (a:Int):oQ Tryz.prog 3 (encI a)=true:=by
 have h:oQ Tryz.prog 3 (.int .i64 a)=true:=by kernel_rfl
 exact h
def ownB (l:OL) (b:Nat):Prop:=∃k s,kT l k=some s/\iq.at s b
structure V5 (w:World) (m:Nat) (l:OL) (S:Slots):Prop where
 mp:rH encI slV w m l
 nd:(l.map (·.1)).Nodup
 has:∀k s,kT l k=some s->iW 1 eI w s (ids S k)
 non:∀k,kT l k=none->ids S k=[]
 ap:∀k k' s s' b,k≠k'->kT l k=some s->kT l k'=some s'->iq.at s b->¬iq.at s' b
 ne:∀b,ownB l b->b≠m
section
variable {w w':World} {m:Nat} {l:OL} {S S':Slots}
theorem V5.fr {F:Nat->Prop} (h:V5 w m l S) (hf:iG w w' F) (hm:¬F m) (ho:∀b,ownB l b->¬F b):V5 w' m l S:=
 ⟨h.mp.fr hf hm,h.nd,λk s hk=>(h.has k s hk).fr hf λb hb=>ho b ⟨k,s,hk,hb⟩,h.non,h.ap,h.ne⟩
theorem V5.lt (h:V5 w m l S) {b:Nat} (hb:ownB l b):b<w.heap.size:=by
 obtain⟨k,s,hk,hs⟩:=hb;exact(h.has k s hk).lt hs
def lkS (l:OL) (k:Int):iq:=(kT l k).getD ⟨none,0,0⟩
theorem V5.buf (h:V5 w m l S) (k:Int):iW 1 eI w (lkS l k) (ids S k):=by
 unfold lkS
 cases hl:kT l k with
 |none=>rw[h.non k hl];exact iW.nil
 |some s=>exact h.has k s hl
theorem V5.get (h:V5 w m l S) (k:Int) {K:iq->Prop} (hK:K (lkS l k)):wV Tryz.prog 3 .slice (some m) (.int .i64 k) (.slice none 0 0) w K:=by
 refine DX (enc:=encI) h.mp eqI k (afy k) ?_ ?_
 ·intro hl;rw[lkS,hl] at hK;rw[iL];exact hK
 ·intro s hl;rw[lkS,hl] at hK;rw[slV,iL];exact hK
end
structure XO where
 d:Nat
 sl:Nat
 ti:Nat
 si:Nat
 m:Nat
 l:OL
def fp (A:XO) (b:Nat):Prop:=b=A.d\/b=A.sl\/b=A.ti\/b=A.si\/b=A.m\/ownB A.l b
structure XO.ne (A:XO):Prop where
 p:A.d≠A.sl/\A.d≠A.ti/\A.d≠A.si/\A.d≠A.m/\A.sl≠A.ti/\A.sl≠A.si/\A.sl≠A.m/\A.ti≠A.m/\A.si≠A.m
 o:∀b,ownB A.l b->b≠A.d/\b≠A.sl/\b≠A.ti/\b≠A.si
structure TA (w:World) (A:XO) (most:Nat) (S:Slots) (M:ByteArray->Option Int):Prop where
 hd:Row w A.d [.slice (some ⟨A.sl,0,none⟩) most most,.pointer (some ⟨A.ti,0,none⟩),.map (some A.m),.int .i64 ((live 0 S).length:Int)]
 row:Row w A.sl (S.flatMap mX)
 len:S.length=most
 mx:most<=4096
 tb:∃L,TB w A.ti A.si L most M/\cnt L=(live 0 S).length
 own:V5 w A.m A.l S
 good:GoodS S M
 ne:A.ne
section
variable {w w':World} {A:XO} {most:Nat} {S:Slots} {M:ByteArray->Option Int}
theorem TA.fr {F:Nat->Prop} (h:TA w A most S M) (hf:iG w w' F) (hs:∀b,fp A b->¬F b):TA w' A most S M:=by
 obtain⟨L,h1,h2⟩:=h.tb;exact⟨h.hd.fr hf (hs _ (.inl rfl)),h.row.fr hf (hs _ (.inr (.inl rfl))),h.len,h.mx,⟨L,h1.fr hf (hs _ (.inr (.inr (.inl rfl)))) (hs _ (.inr (.inr (.inr (.inl rfl))))),h2⟩,
  h.own.fr hf (hs _ (.inr (.inr (.inr (.inr (.inl rfl)))))) (λb hb=>hs _ (.inr (.inr (.inr (.inr (.inr hb)))))),h.good,h.ne⟩
theorem TA.ext (h:TA w A most S M) (hf:Ext w w'):TA w' A most S M:=h.fr (hf λ_=>False) (λ_ _=>by simp)
theorem ajQ {b s:Nat} {L:List yT} {mo:Int} (t:TB w b s L mo M):s<w.heap.size:=by
 by_cases hL:L=[]
 ·rw[t.nils hL];exact t.ht.hd.lt
 ·exact(t.ht.row hL).lt
theorem TA.lt (h:TA w A most S M) {x:Nat} (hx:fp A x):x<w.heap.size:=by
 obtain⟨L,h1,h2⟩:=h.tb;rcases hx with rfl|rfl|rfl|rfl|rfl|hx
 ·exact h.hd.lt
 ·exact h.row.lt
 ·exact h1.ht.hd.lt
 ·exact ajQ h1
 ·exact h.own.mp.lt
 ·exact h.own.lt hx
theorem TA.slot (h:TA w A most S M) {i:Nat} {o:Option Ses} (hi:S[i]? =some o) (j:Nat) (hj:j<6):w.cell? ⟨A.sl,i * 6+j,none⟩=(mX o)[j]? :=by
 rw[h.row.cell,flat_get mX 6 zk _ _ j hj,hi];rfl
theorem XK (h:TA w A most S M):kY (some ⟨A.d,0,none⟩) w λr w'=>r=true/\w'=w:=by
 apply Ie;simp only[sx,h.hd.cell,Bool.not_false];exact⟨by trivial,by trivial⟩
end
end Go.Proofs.SN
end
section
namespace Go.Proofs.SN
open Gp Gp.Hash
open Gp.Ses (Ses Slots live GoodS ids)
open Gp.Bind (In64)
section
variable {w w':World} {A:XO} {most:Nat} {S:Slots} {M:ByteArray->Option Int}
abbrev yK:List Shape:=[.one (.int .i64),.agg [(.int .i64),(.int .i64),(.int .i64),(.int .i64),(.int .i64)]]
def yS (L:List (Int×Ses)):List (G9 yK):=L.map λx=>(x.1,(x.2.bd,x.2.st,x.2.un,x.2.ra,x.2.rp,()),())
theorem nZ:∀(S T:Slots) (k:Nat),live k (S++T)=live k S++live (k+S.length) T
 |[],T,k=>by simp[live]
 |none::r,T,k=>by rw[cons_append,live,live,nZ r T (k+1)];simp;congr 1;omega
 |some b::r,T,k=>by rw[cons_append,live,live,nZ r T (k+1)];simp;congr 1;omega
theorem Ll {S:Slots} {i:Nat} {b:Ses} (h:S[i]? =some (some b)):(live 0 S)[(live 0 (S.take i)).length]? =some ((i:Int),b)/\(live 0 (S.take (i+1))).length=(live 0 (S.take i)).length+1:=by
 have u:=(List.getElem?_eq_some_iff.1 h).1;have hS:S[i]=some b:=by rw[getElem?_eq_getElem u] at h;simpa using h
 have e1:S=S.take i++some b::S.drop (i+1):=by
  conv=>lhs;rw[<- take_append_drop i S,List.drop_eq_getElem_cons u,hS]
 have hl:(S.take i).length=i:=by simp;omega
 constructor
 ·conv=>lhs;rw[e1]
  rw[nZ,List.getElem?_append_right (by simp[hl])];simp[live,hl]
 ·rw[List.take_succ_eq_append_getElem u,hS,nZ];simp[live]
theorem QT {S:Slots} {i:Nat} (h:S[i]? =some none):(live 0 (S.take (i+1))).length=(live 0 (S.take i)).length:=by
 have u:=(List.getElem?_eq_some_iff.1 h).1;have hS:S[i]=none:=by rw[getElem?_eq_getElem u] at h;simpa using h
 rw[List.take_succ_eq_append_getElem u,hS,nZ];simp[live]
theorem O5 (most:Nat) (S:Slots) (M:ByteArray->Option Int) (A:XO) (f0:Nat):
  tH Tryz.prog yK (Value.func (.func Aq) #[] #[(Value.pointer (some ⟨f0,0,none⟩))])
   (λW=>Row W f0 [.pointer (some ⟨A.d,0,none⟩)]/\TA W A most S M) (yS (live 0 S)):=by
 refine⟨by kernel_rfl,λn Q D hC hQ hD hy w h0=> ?_⟩;refine Calls.mono (Ic (a0:= .func (.yield n) #[] #[]) (f0:=⟨f0,0,none⟩) (K:=λw'=>Q (yS (live 0 S)).length w'\/D w') ?_) (λe w' h=>h);obtain⟨r0,h⟩:=hC _ _ h0;have hl:=h.len;have hm:=h.mx;simp only[sx,r0.cell];refine zS (XK h) ?_;rintro _ w2 ⟨rfl,hw⟩;subst hw;simp only[sx,Bool.not_true,r0.cell,h.hd.cell];have J:(yS (live 0 S)).length=(live 0 S).length:=by simp[yS]
 rw[J];refine iE (λst W=>∃i:Nat,i<=most/\st.1=(i:Int)/\Q (live 0 (S.take i)).length W) (λst _=>most - st.1.toNat) ⟨0,by omega,rfl,by simpa [live] using h0⟩ ?_;rintro⟨x,⟨⟩⟩ W ⟨i,hi,rfl,hq⟩ next I
 obtain⟨r0,h⟩:=hC _ _ hq;by_cases hlt:i<most
 ·have u:((i:Int)<(most:Int)):=by omega
  have hS:S[i]? =some S[i]:=getElem?_eq_getElem (by omega);generalize S[i]=o at hS;have c:∀j,j<6->_:=h.slot hS;have c0:=c 0 (by omega);have c1:=c 1 (by omega);have c2:=c 2 (by omega);have c3:=c 3 (by omega);have c4:=c 4 (by omega);have c5:=c 5 (by omega);simp only[Nat.add_zero] at c0
  cases o with
  |none=>
   simp only[u,decide_true,cond_true,d_,iy,iF,qw,toNat_natCast,c0,c1,c2,c3,c4,c5,mX];refine⟨by omega,by trivial,FX rfl rfl λp w3 r3 e3 z3 f3=> ?_⟩;simp only[sx,r3.cell];rw[wrap_i64 (by omega) (by omega)];refine I _ _ ⟨i+1,by omega,by simp,?_⟩ (by simp only;omega);rw[QT hS];exact hQ _ _ _ hq f3
  |some b=>
   simp only[u,decide_true,cond_true,d_,iy,iF,qw,toNat_natCast,c0,c1,c2,c3,c4,c5,mX];refine⟨by omega,by trivial,FX rfl rfl λp w3 r3 e3 z3 f3=> ?_⟩;simp only[sx,r3.cell];obtain⟨g1,g2⟩:=Ll hS;refine oW (hy (live 0 (S.take i)).length ((i:Int),(b.bd,b.st,b.un,b.ra,b.rp,()),()) w3 _ ?_ (hQ _ _ _ hq f3) ?_ ?_)
   ·simp only[yS,getElem?_map,g1,map_some]
   ·intro W' hq';refine⟨true,rfl,?_⟩;simp only[Bool.not_true,cond_false];rw[wrap_i64 (by omega) (by omega)];exact I _ _ ⟨i+1,by omega,by simp,by rw[g2];exact hq'⟩ (by simp only;omega)
   ·intro W' hd;refine⟨false,rfl,?_⟩;simp only[Bool.not_false,cond_true];exact .inr hd
 ·have u:¬((i:Int)<(most:Int)):=by omega
  simp only[u,decide_false,cond_false];rw[List.take_of_length_le (by omega)] at hq;exact .inl hq
def ofL (S:Slots) (k:Int):List (Int×Ses):=(live 0 S).filter λx=>x.2.bd==k
theorem acS (S:Slots) (k:Int):(ofL S k).map (·.1)=ids S k:=rfl
theorem ahq (most:Nat) (S:Slots) (M:ByteArray->Option Int) (A:XO) (f0 f1:Nat) (k:Int):
  OV Tryz.prog yK (Value.func (.func Cm) #[] #[(Value.pointer (some ⟨f0,0,none⟩)),(Value.pointer (some ⟨f1,0,none⟩))])
   (λW=>Row W f0 [.pointer (some ⟨A.d,0,none⟩)]/\Row W f1 [.int .i64 k]/\TA W A most S M) (yS (ofL S k)):=by
 refine⟨by kernel_rfl,λn w Q D hC hQ hD hy h0=> ?_⟩;refine Calls.mono (IV (a0:= .func (.yield n) #[] #[]) (f0:=⟨f0,0,none⟩) (f1:=⟨f1,0,none⟩) (K:=λw'=>Q (yS (ofL S k)).length w'\/D w') ?_) (λe w' h=>h);have up:∀{i W W'},Q i W->Ext W W'->Q i W':=λhq hx=>hQ _ _ _ hq (hx _);obtain⟨r0,r1,h⟩:=hC _ _ h0;have hl:=h.len;have hm:=h.mx;simp only[sx,r0.cell];refine zS (XK h) ?_;rintro _ w2 ⟨rfl,hw⟩;subst hw;have q2:=up h0 (Ext.drew _);obtain⟨r0,r1,h⟩:=hC _ _ q2;simp only[sx,Bool.not_true,r0.cell,r1.cell,h.hd.cell];refine h.own.get k ?_;have hil:=Gp.Ses.ag9 S k;refine zf (Xm ((h.own.buf k).sl kN (by omega)) (by omega)) ?_;rintro s3 w3 ⟨f3,b3,n3⟩;have q3:=up q2 f3;have O:(yS (ofL S k)).length=(ofL S k).length:=by simp[yS]
 have hol:(ofL S k).length=(ids S k).length:=by rw[<- acS,List.length_map]
 rw[O];have l3:=b3.len;refine iE (λst W=>∃i:Nat,i<=(ofL S k).length/\st.1=(i:Int)/\Q i W/\iW 1 eI W s3 (ids S k)) (λst _=>(ofL S k).length - st.1.toNat) ⟨0,by omega,rfl,q3,b3⟩ ?_;rintro⟨x,⟨⟩⟩ W ⟨i,hi,rfl,hq,hb⟩ next I
 obtain⟨r0,r1,h⟩:=hC _ _ hq;by_cases R:i<(ofL S k).length
 ·have u:((i:Int)<(s3.len:Int)):=by omega
  have hS:(ofL S k)[i]? =some (ofL S k)[i]:=getElem?_eq_getElem R;generalize (ofL S k)[i]=y at hS;obtain⟨v,b⟩:=y;have hv:(ids S k)[i]? =some v:=by rw[<- acS,getElem?_map,hS];rfl
  obtain⟨J,_⟩:=List.mem_filter.1 (List.mem_of_getElem? hS);obtain⟨j,hj,N⟩:=Gp.Ses.lY.1 J;have N:v=(j:Int):=by omega
  subst N;have gl:=(List.getElem?_eq_some_iff.1 hj).1;have c:∀m,m<6->_:=h.slot hj;have c0:=c 0 (by omega);have c1:=c 1 (by omega);have c2:=c 2 (by omega);have c3:=c 3 (by omega);have c4:=c 4 (by omega);simp only[Nat.add_zero,mX,d_] at c0 c1 c2 c3 c4;rw[decide_eq_true u,cond_true];refine ER (hb.sl kN (by omega)) hv λa hc=> ?_;simp only[sx,hc,r0.cell,h.hd.cell,toNat_natCast,c0,c1,c2,c3,c4];refine⟨by omega,by omega,?_⟩;refine oW (hy i ((j:Int),(b.bd,b.st,b.un,b.ra,b.rp,()),()) W _ ?_ hq ?_ ?_)
  ·simp only[yS,getElem?_map,hS,map_some]
  ·intro W' hq' hf;refine⟨true,rfl,?_⟩;simp only[Bool.not_true,cond_false];rw[wrap_i64 (by omega) (by omega)];refine I _ _ ⟨i+1,by omega,by simp,hq',hb.fr hf λc hc=> ?_⟩ (by simp only;omega);have:=n3 c hc;have hz:w2.drew.heap.size=w2.heap.size:=rfl;omega
  ·intro W' hd hf;refine⟨false,rfl,?_⟩;simp only[Bool.not_false,cond_true];exact .inr hd
 ·have u:¬((i:Int)<(s3.len:Int)):=by omega
  rw[decide_eq_false u,cond_false];have:i=(ofL S k).length:=by omega
  subst this;exact .inl hq
theorem G7 {α β:Type} {enc:α->Value} {ev:β->Value} {w:World} {K:Addr->b_} (h:∀w1,rH enc ev w1 w.heap.size []->w1.heap.size=w.heap.size+1->Ext w w1->K ⟨w.heap.size,0,none⟩ w1):Al w (.map #[] 0) K:=
 h _ (rH.new w enc ev) (by simp) (λS=>iG.alloc w _ S)
theorem ahJ (n:Int) (w:World):yc n w λp e w'=>Ext w w'/\((¬(0<=n/\n<=4096)/\p=none/\e=1)\/(0<=n/\n<=4096/\e=0/\∃A,p=some ⟨A.d,0,none⟩/\(∀x,fp A x->w.heap.size<=x)/\TA w' A n.toNat (List.replicate n.toNat none) (λ_=>none))):=by
 apply Vz;by_cases c1:n<0
 ·simp only[c1,decide_true,cond_true];exact⟨Ext.refl _,.inl ⟨by omega,by trivial,by trivial⟩⟩
 by_cases c2:n>4096
 ·simp only[c1,c2,decide_true,decide_false,cond_true,cond_false];exact⟨Ext.refl _,.inl ⟨by omega,by trivial,by trivial⟩⟩
 simp only[c1,c2,decide_false,cond_false];refine Jj (YD n w) ?_;rintro p1 e1 w1 ⟨f1,(⟨_,_,rfl,ti,rfl,l1,t1⟩|⟨hbad,_,_⟩)⟩;rotate_left
 ·omega
 simp only[show ((0:Int) !=0)=false from rfl,cond_false];refine F6 (by omega) (by omega) (by omega) (by omega) λsl w3 r3 e3 z3 f3=> ?_;refine G7 (enc:=encI) (ev:=slV) λw4 m4 z4 f4=> ?_;refine iI λd w5 r5 e5 z5 f5=> ?_;obtain⟨m,rfl⟩:∃m:Nat,n=(m:Int):=⟨n.toNat,by omega⟩;simp only[toNat_natCast] at r3 r5 ⊢;have f1:Ext w w1:=f1;have f3:Ext w1 w3:=f3;have x5:Ext w w5:=(f1.trans f3).trans (f4.trans f5);have i1:=t1.ht.hd.lt;have s1:=f1.size;have sN:∀(k j:Nat),live j (List.replicate k none)=[]:=by
  intro k
  induction k with
  |zero=>intro j;rfl
  |succ k ih=>intro j;rw[replicate_succ,live];exact ih _
 have ids_rep:∀k j,ids (List.replicate k none) j=[]:=λk j=>by unfold ids;rw[sN];rfl
 have rep:∀k,iM [Value.int .i64 0,Value.int .i64 0,Value.int .i64 0,Value.int .i64 0,Value.int .i64 0,Value.bool false] k=(List.replicate k (none:Option Ses)).flatMap mX:=by
  intro k
  induction k with
  |zero=>rfl
  |succ k ih=>rw[iM,ih,replicate_succ,flatMap_cons];rfl
 have noB:∀x,¬ownB [] x:=λx ⟨k,s,hk,_⟩=>by cases hk
 refine⟨x5,.inr ⟨by omega,by omega,by trivial,⟨d,sl,ti,ti,w3.heap.size,[]⟩,rfl,?_,?_⟩⟩
 ·intro x hx;rcases hx with hx|hx|hx|hx|hx|hx
  ·simp only at hx;omega
  ·simp only at hx;omega
  ·simp only at hx;omega
  ·simp only at hx;omega
  ·simp only at hx;omega
  ·exact absurd hx (noB x)
 ·refine⟨?_,?_,by simp,by omega,⟨[],?_,?_⟩,⟨?_,?_,?_,?_,?_,?_⟩,⟨λk v=> ?_,λj b hb=> ?_⟩,⟨?_,λx hx=>absurd hx (noB x)⟩⟩
  ·rw[sN];exact r5
  ·rw[<- rep];exact(r3.ext f4).ext f5
  ·exact t1.PV (f3.trans (f4.trans f5))
  ·rw[sN];rfl
  ·exact rH.ext (m4) f5
  ·simp
  ·intro k s hk;cases hk
  ·intro k _;exact ids_rep _ _
  ·intro k k' s s' b _ hk;cases hk
  ·intro b hb;exact absurd hb (noB b)
  ·constructor
   ·intro h;cases h
   ·rintro⟨j,b,hj,_⟩;rw[getElem?_replicate] at hj;split at hj<;>simp at hj
  ·rw[getElem?_replicate] at hb;split at hb<;>simp at hb
  ·refine⟨?_,?_,?_,?_,?_,?_,?_,?_,?_⟩<;>simp only<;>omega
end
end Go.Proofs.SN
end
section
namespace Go.Proofs.QN
open Gp
def Ii (m:Int) (x:Int):List Value:=[.int .i64 x,.int .i64 m]
def af0 (x:Int):List Value:=[.int .i64 x]
structure QOk (l:List Int) (m:Int):Prop where
 lo:∀x∈l,0<=x/\x<=m
 m0:0<=m
 m1:m<=4096
 len:l.length<=64
structure QR (w:World) (b s:Nat) (l:List Int) (m:Int):Prop where
 hd:Row w b [.slice (some ⟨s,0,none⟩) l.length l.length]
 row:Row w s (l.flatMap (Ii m))
 ne:b≠s
structure QX (w:World) (b s:Nat) (l:List Int) (m:Int):Prop where
 hd:Row w b [.slice (some ⟨s,0,none⟩) l.length l.length,.int .i64 m]
 row:Row w s (l.flatMap af0)
 ne:b≠s
theorem QR.fr {w w':World} {b s:Nat} {l:List Int} {m:Int} {S:Nat->Prop} (h:QR w b s l m) (hf:iG w w' S) (h1:¬S b) (h2:¬S s):QR w' b s l m:=⟨h.hd.fr hf h1,h.row.fr hf h2,h.ne⟩
theorem QX.fr {w w':World} {b s:Nat} {l:List Int} {m:Int} {S:Nat->Prop} (h:QX w b s l m) (hf:iG w w' S) (h1:¬S b) (h2:¬S s):QX w' b s l m:=⟨h.hd.fr hf h1,h.row.fr hf h2,h.ne⟩
def N_ (l:List Int) (i:Int):Prop:=0<=i/\i<(l.length:Int)
instance (l:List Int) (i:Int):Decidable (N_ l i):=inferInstanceAs (Decidable (_/\_))
def at_ (l:List Int) (i:Int):Int:=l.getD i.toNat 0
def Au (l:List Int) (m i:Int):Int×List Int:=
 if N_ l i then (if at_ l i>=m then (10,l) else (0,l.set i.toNat (at_ l i+1))) else (1,l)
def zU (l:List Int) (i:Int):Int×List Int:=
 if N_ l i then (if at_ l i=0 then (8,l) else (0,l.set i.toNat (at_ l i - 1))) else (1,l)
def sJ (l:List Int) (i:Int):Int:=if N_ l i then at_ l i else 0
theorem QA {l:List Int} {i:Int} (h:N_ l i):l[i.toNat]? =some (at_ l i):=by
 obtain⟨h0,h1⟩:=h;have:i.toNat<l.length:=by omega
 simp[at_,this]
theorem at_mem {l:List Int} {i:Int} (h:N_ l i):at_ l i∈l:=List.mem_of_getElem? (QA h)
theorem wu (m x:Int):(Ii m x).length=2:=rfl
theorem Qn (x:Int):(af0 x).length=1:=rfl
theorem QR.cell0 {w:World} {b s:Nat} {l:List Int} {m i:Int} (h:QR w b s l m) (hi:N_ l i):w.cell? ⟨s,i.toNat * 2,none⟩=some (.int .i64 (at_ l i)):=by
 rw[h.row.cell,<- Nat.add_zero (i.toNat * 2),flat_get _ 2 (wu m) _ _ 0 (by omega),QA hi];rfl
theorem QR.cell1 {w:World} {b s:Nat} {l:List Int} {m i:Int} (h:QR w b s l m) (hi:N_ l i):w.cell? ⟨s,i.toNat * 2+1,none⟩=some (.int .i64 m):=by
 rw[h.row.cell,flat_get _ 2 (wu m) _ _ 1 (by omega),QA hi];rfl
theorem QX.cell0 {w:World} {b s:Nat} {l:List Int} {m i:Int} (h:QX w b s l m) (hi:N_ l i):w.cell? ⟨s,i.toNat * 1,none⟩=some (.int .i64 (at_ l i)):=by
 rw[h.row.cell,<- Nat.add_zero (i.toNat * 1),flat_get _ 1 Qn _ _ 0 (by omega),QA hi];rfl
theorem QR.set {w w1:World} {b s:Nat} {l:List Int} {m i y:Int} (h:QR w b s l m) (hi:N_ l i) (hr:Row w1 s ((l.flatMap (Ii m)).set (i.toNat * 2) (.int .i64 y))) (hf:iG w w1 (·=s)):
  QR w1 b s (l.set i.toNat y) m:=by
 refine⟨by simpa using h.hd.fr hf h.ne,?_,h.ne⟩;rw[<- Nat.add_zero (i.toNat * 2),Ej _ 2 (wu m) _ _ 0 (at_ l i) y _ (by omega) (QA hi) rfl] at hr;exact hr
theorem QX.set {w w1:World} {b s:Nat} {l:List Int} {m i y:Int} (h:QX w b s l m) (hi:N_ l i) (hr:Row w1 s ((l.flatMap af0).set (i.toNat * 1) (.int .i64 y))) (hf:iG w w1 (·=s)):
  QX w1 b s (l.set i.toNat y) m:=by
 refine⟨by simpa using h.hd.fr hf h.ne,?_,h.ne⟩;rw[<- Nat.add_zero (i.toNat * 1),Ej _ 1 Qn _ _ 0 (at_ l i) y _ (by omega) (QA hi) rfl] at hr;exact hr
theorem afO {w:World} {b s:Nat} {l:List Int} {m:Int} (h:QR w b s l m) (i:Int):
  nK (some ⟨b,0,none⟩) i w λp e w'=>w'=w/\((N_ l i/\e=0/\p=some ⟨s,i.toNat * 2,none⟩)\/(¬N_ l i/\e=1/\p=none)):=by
 apply Qh;simp only[sx,h.hd.cell];by_cases h1:i<0
 ·have:¬N_ l i:=λx=>by have:=x.1;omega
  simp[h1,this]
 ·by_cases h2:i>=(l.length:Int)
  ·have:¬N_ l i:=λx=>by have:=x.2;omega
   simp[h1,h2,this]
  ·have:N_ l i:=⟨by omega,by omega⟩;simp[h1,h2,this,this.1,this.2]
theorem YB (x m:Int) (w:World):pO x m w λr w'=>r=decide (x>=m)/\∀S,iG w w' S:=by
 apply MN;refine vF λa w1 hr _ _ hf=> ?_;simp only[sx,hr.cell];exact⟨trivial,hf⟩
theorem ahH {w:World} {b s:Nat} {l:List Int} {m:Int} (h:QR w b s l m) (hq:QOk l m) (i:Int):
  pK (some ⟨b,0,none⟩) i w λe w'=>e=(Au l m i).1/\QR w' b s (Au l m i).2 m/\iG w w' (·=s):=by
 apply ML;refine zQ (afO h i) ?_;rintro p e w' ⟨rfl,⟨hi,rfl,rfl⟩|⟨hi,rfl,rfl⟩⟩
 ·have hx:=hq.lo _ (at_mem hi);have hm:=hq.m1;simp only[sx,bne_self_eq_false,h.cell0 hi,h.cell1 hi];refine LM (YB _ _ _) ?_;rintro r w1 ⟨rfl,hf⟩;have h1:=h.fr (hf λ_=>False) (by simp) (by simp);by_cases u:at_ l i>=m
  ·simp only[u,decide_true,cond_true];simp only[Au,hi,u,if_true];exact⟨by trivial,h1,hf _⟩
  ·simp only[u,decide_false,cond_false,iy,iF,h1.cell0 hi];have hw:IntKind.i64.wrap (at_ l i+1)=at_ l i+1:=wrap_i64 (by omega) (by omega);rw[hw];refine iK h1.row rfl ?_ λw2 hr2 hf2 _=> ?_
   ·rw[jU _ 2 (wu m)];have:=hi.1;have:=hi.2;omega
   ·simp only[Au,hi,u,if_true,if_false];exact⟨by trivial,h1.set hi hr2 (hf2 (·=s) rfl),(hf _).trans (hf2 (·=s) rfl) λ_ _ e=>e⟩
 ·simp only[Au,hi,if_false];exact⟨by trivial,h,iG.refl _ _⟩
theorem ag6 {w:World} {b s:Nat} {l:List Int} {m:Int} (h:QR w b s l m) (hq:QOk l m) (i:Int):
  pJ (some ⟨b,0,none⟩) i w λe w'=>e=(zU l i).1/\QR w' b s (zU l i).2 m/\iG w w' (·=s):=by
 apply MK;refine zQ (afO h i) ?_;rintro p e w' ⟨rfl,⟨hi,rfl,rfl⟩|⟨hi,rfl,rfl⟩⟩
 ·have hx:=hq.lo _ (at_mem hi);have hm:=hq.m1;simp only[sx,bne_self_eq_false,h.cell0 hi];by_cases h0:at_ l i=0
  ·simp only[h0,beq_self_eq_true,cond_true];simp only[zU,hi,h0,if_true];exact⟨by trivial,h,iG.refl _ _⟩
  ·have h0':(at_ l i==0)=false:=by simpa using h0
   have hw:IntKind.i64.wrap (at_ l i - 1)=at_ l i - 1:=wrap_i64 (by omega) (by omega);simp only[h0',cond_false,hw];refine iK h.row rfl ?_ λw2 hr2 hf2 _=> ?_
   ·rw[jU _ 2 (wu m)];have:=hi.1;have:=hi.2;omega
   ·simp only[zU,hi,h0,if_true,if_false];exact⟨by trivial,h.set hi hr2 (hf2 (·=s) rfl),hf2 (·=s) rfl⟩
 ·simp only[zU,hi,if_false];exact⟨by trivial,h,iG.refl _ _⟩
theorem aeW {w:World} {b s:Nat} {l:List Int} {m:Int} (h:QR w b s l m) (i:Int):
  oN (some ⟨b,0,none⟩) i w λn w'=>n=sJ l i/\w'=w:=by
 apply Ku;refine zQ (afO h i) ?_;rintro p e w' ⟨rfl,⟨hi,rfl,rfl⟩|⟨hi,rfl,rfl⟩⟩
 ·simp only[sx,bne_self_eq_false,h.cell0 hi,sJ,hi,if_true,and_self]
 ·simp only[sJ,hi,if_false];exact⟨by trivial,by trivial⟩
theorem afh (m x:Int) (n:Nat):(List.replicate n x).flatMap (Ii m)=iM (Ii m x) n:=by
 induction n with
 |zero=>rfl
 |succ n ih=>simp[replicate_succ,iM,ih]
def JQ (n m:Int):Prop:=1<=n/\n<=64/\0<=m/\m<=4096
instance (n m:Int):Decidable (JQ n m):=inferInstanceAs (Decidable (_/\_))
theorem acN {n m:Int} (h:JQ n m):QOk (List.replicate n.toNat 0) m:=by
 obtain⟨h1,h2,h3,h4⟩:=h;refine⟨λx hx=> ?_,h3,h4,by simp;omega⟩;have:=(List.mem_replicate.1 hx).2;omega
def Qo (m:Int) (n k:Nat):List Value:=(List.replicate k (0:Int)).flatMap (Ii m)++(List.replicate (n - k) (0:Int)).flatMap (Ii 0)
theorem ad4 (m:Int) (n k:Nat) (hk:k<n):(Qo m n k).set (k * 2+1) (.int .i64 m)=Qo m n (k+1):=by
 unfold Qo;have hl:((List.replicate k (0:Int)).flatMap (Ii m)).length=k * 2:=by rw[jU _ 2 (wu m)];simp
 rw[List.set_append_right _ _ (by omega),hl];obtain⟨j,hj⟩:∃j,n - k=j+1:=⟨n - k - 1,by omega⟩;have hj2:n - (k+1)=j:=by omega
 rw[hj,hj2,List.replicate_succ' (n:=k),flatMap_append];simp[replicate_succ,Ii]
theorem ad1 (m:Int) (n k:Nat) (hk:k<=n):(Qo m n k).length=n * 2:=by
 unfold Qo;rw[List.length_append,jU _ 2 (wu m),jU _ 2 (wu 0)];simp;omega
theorem Q5 (n m:Int) (w:World):BN n m w λp e w'=>
  (∀S,iG w w' S)/\((JQ n m/\e=0/\∃b s,p=some ⟨b,0,none⟩/\w.heap.size<=b/\w.heap.size<=s/\QR w' b s (List.replicate n.toNat 0) m)\/(¬JQ n m/\e=1/\p=none)):=by
 apply YX;by_cases hn:JQ n m
 ·obtain⟨h1,h2,h3,h4⟩:=hn;have c1:¬(n<1):=by omega
  have c2:¬(n>64):=by omega
  have c3:¬(m<0):=by omega
  have c4:¬(m>4096):=by omega
  simp only[sx,c1,c2,c3,c4,decide_false];refine F6 (by omega) (by omega) (by omega) (by omega) λs w1 hr0 hs _ hf1=> ?_;have hq0:iM [Value.int .i64 0,Value.int .i64 0] n.toNat=Qo m n.toNat 0:=by
   unfold Qo;simp only[List.replicate_zero,List.flatMap_nil,List.nil_append,Nat.sub_zero];exact(afh 0 0 _).symm
  rw[hq0] at hr0;subst hs;refine vF λb w2 hr2 hb hsz hf2=> ?_;simp only[List.getElem?_cons_zero,iy,iL,hr2.cell];have hb1:=(hf1 λ_=>False).size;have hs0:w.heap.size<w1.heap.size:=hr0.lt;refine iE (λst w'=>∃k:Nat,k<=n.toNat/\st.1=k/\Row w' b [.slice (some ⟨w.heap.size,0,none⟩) n.toNat n.toNat]/\Row w' w.heap.size (Qo m n.toNat k)/\∀S,iG w w' S)
   (λst _=>n.toNat - st.1.toNat) ⟨0,by omega,rfl,hr2,hr0.fr (hf2 λ_=>False) (by simp),λS=>(hf1 S).trans (hf2 S) λ_ _ e=>e⟩ ?_
  rintro⟨i,⟨⟩⟩ w3 ⟨k,hk,rfl,hb3,hr3,hf3⟩ next h
  simp only[sx,hb3.cell];by_cases u:k<n.toNat
  ·simp only[u,Int.ofNat_lt,decide_true,cond_true,toNat_natCast];refine⟨by omega,by first|trivial|omega,?_⟩
   refine iK hr3 rfl (by rw[ad1 _ _ _ hk];omega) λw4 hr4 hf4 _=> ?_;rw[ad4 _ _ _ u] at hr4;have e2:IntKind.i64.wrap ((k:Int)+1)=((k+1:Nat):Int):=by rw[wrap_i64 (by omega) (by omega)];omega
   rw[e2];refine h _ _ ⟨k+1,by omega,rfl,hb3.fr (hf4 (·=w.heap.size) rfl) (by omega),hr4,λS=>(hf3 S).trans (hf4 (·=w.heap.size) rfl) λx hx e=>by omega⟩ (by simp only;omega)
  ·have hk2:k=n.toNat:=by omega
   subst hk2;simp only[Int.lt_irrefl,decide_false,cond_false];refine⟨hf3,.inl ⟨⟨h1,h2,h3,h4⟩,by trivial,b,w.heap.size,rfl,by omega,by omega,⟨by simpa using hb3,?_,by omega⟩⟩⟩;unfold Qo at hr3;simpa using hr3
 ·have key:(bif decide (n<1) then true else bif decide (n>64) then true else bif decide (m<0) then true else decide (m>4096))=true:=by
   simp only[JQ] at hn;by_cases c1:n<1
   ·simp[c1]
   ·by_cases c2:n>64
    ·simp[c2]
    ·by_cases c3:m<0
     ·simp[c3]
     ·simp[c1,c2,c3];omega
  by_cases c1:n<1
  ·simp only[sx,c1,decide_true];exact⟨λS=>iG.refl _ _,.inr ⟨hn,by trivial,by trivial⟩⟩
  ·by_cases c2:n>64
   ·simp only[sx,c1,c2,decide_true,decide_false];exact⟨λS=>iG.refl _ _,.inr ⟨hn,by trivial,by trivial⟩⟩
   ·by_cases c3:m<0
    ·simp only[sx,c1,c2,c3,decide_true,decide_false];exact⟨λS=>iG.refl _ _,.inr ⟨hn,by trivial,by trivial⟩⟩
    ·have c4:m>4096:=by simp only[JQ] at hn;omega
     simp only[sx,c1,c2,c3,c4,decide_true,decide_false];exact⟨λS=>iG.refl _ _,.inr ⟨hn,by trivial,by trivial⟩⟩
theorem aaK {l:List Int} {m:Int} (h:QOk l m) (i:Int):QOk (Au l m i).2 m:=by
 unfold Au;split
 ·split
  ·exact h
  ·rename_i hi hge;refine⟨λx hx=> ?_,h.m0,h.m1,by simpa using h.len⟩;rcases List.mem_or_eq_of_mem_set hx with hx|rfl
   ·exact h.lo x hx
   ·have:=h.lo _ (at_mem hi);omega
 ·exact h
theorem Z5 {l:List Int} {m:Int} (h:QOk l m) (i:Int):QOk (zU l i).2 m:=by
 unfold zU;split
 ·split
  ·exact h
  ·rename_i hi hge;refine⟨λx hx=> ?_,h.m0,h.m1,by simpa using h.len⟩;rcases List.mem_or_eq_of_mem_set hx with hx|rfl
   ·exact h.lo x hx
   ·have:=h.lo _ (at_mem hi);omega
 ·exact h
end Go.Proofs.QN
end
section
namespace Gp.Wh
structure Tm where
 id:Int
 a:Nat
 tn:Int
deriving DecidableEq
def Lv (now a n:Nat):Prop:=now / 64^(n+1)=a / 64^(n+1)/\(n=0\/now / 64^n≠a / 64^n)
def dg (a n:Nat):Nat:=a / 64^n % 64
theorem zT (a n:Nat):a / 64^(n+1)=a / 64^n / 64:=by rw[Nat.pow_succ,Nat.div_div_eq_div_mul]
theorem NU {x y n m:Nat} (h:x / 64^n=y / 64^n) (hm:n<=m):x / 64^m=y / 64^m:=by
 obtain⟨k,rfl⟩:=Nat.exists_eq_add_of_le hm;rw[Nat.pow_add,<- Nat.div_div_eq_div_mul,<- Nat.div_div_eq_div_mul,h]
theorem Lv.uniq {now a n m:Nat} (h:Lv now a n) (g:Lv now a m):n=m:=by
 rcases lt_trichotomy n m with hl|hl|hl
 ·exact absurd (NU h.1 hl) (by rcases g.2 with e|e;omega;exact e)
 ·exact hl
 ·exact absurd (NU g.1 hl) (by rcases h.2 with e|e;omega;exact e)
theorem Lv.self (now:Nat):Lv now now 0:=⟨rfl,.inl rfl⟩
theorem Qm {a n:Nat} (h:a<=2^40) (hn:7<=n):a / 64^n=0:=by
 refine Nat.div_eq_of_lt (Nat.lt_of_lt_of_le ?_ (Nat.pow_le_pow_right (by omega) hn));omega
theorem Lv.lt {now a n:Nat} (h:Lv now a n) (h1:now<=2^40) (h2:a<=2^40):n<7:=by
 rcases h.2 with e|e
 ·omega
 ·refine Classical.byContradiction λhn=>e ?_;rw[Qm h1 (by omega),Qm h2 (by omega)]
theorem Lv.dig {now a n:Nat} (h:Lv now a n) (u:now<=a):dg now n<=dg a n/\(0<n->dg now n<dg a n):=by
 have h1:=h.1;rw[zT,zT] at h1;have h2:now / 64^n<=a / 64^n:=Nat.div_le_div_right u;unfold dg;refine⟨by omega,λhn=> ?_⟩;rcases h.2 with e|e
 ·omega
 ·omega
theorem Xz {x y n:Nat} (h:x / 64^n<y / 64^n):x<y:=by
 refine Classical.byContradiction λhx=> ?_;have:=Nat.div_le_div_right (c:=64^n) (Nat.le_of_not_lt hx);omega
theorem Lv.first {now a b n m:Nat} (h:Lv now a n) (g:Lv now b m) (hn:n<m) (hb:now<=b):a<b:=by
 have h1:=NU h.1 (show n+1<=m by omega);have h2:=(g.dig hb).2 (by omega);have g1:=g.1;rw[zT,zT] at g1;unfold dg at h2;exact Xz (n:=m) (by omega)
theorem Lv.slot {now a b n:Nat} (h:Lv now a n) (g:Lv now b n) (hd:dg a n<dg b n):a<b:=by
 have h1:=h.1;have g1:=g.1;rw[zT,zT] at h1 g1;unfold dg at hd;exact Xz (n:=n) (by omega)
abbrev Fs:=Nat->Nat->List Tm
abbrev Ps:=Int->Option Tm
def zn (F:Fs) (n k:Nat) (l:List Tm):Fs:=λn' k'=>if n'=n/\k'=k then l else F n' k'
def G5 (P:Ps) (id:Int) (o:Option Tm):Ps:=λid'=>if id'=id then o else P id'
structure WI (now:Nat) (P:Ps) (F:Fs):Prop where
 pl:∀id t,P id=some t->t.id=id/\now<=t.a/\t.a<=2^40
 nw:now<=2^40
 mem:∀n k t,n<7->k<64->(t∈F n k↔P t.id=some t/\Lv now t.a n/\dg t.a n=k)
 nd:∀n k,n<7->k<64->((F n k).map Tm.id).Nodup
variable {now:Nat} {P:Ps} {F:Fs}
theorem Eh (a n:Nat):dg a n<64:=Nat.mod_lt _ (by omega)
theorem afG (now a:Nat) (h1:now<=2^40) (h2:a<=2^40):∃n,n<7/\Lv now a n:=by
 have:∀m,now / 64^m=a / 64^m->∃n,n<=m/\Lv now a n:=by
  intro m
  induction m with
  |zero=>intro h;exact⟨0,Nat.le_refl _,NU h (by omega),.inl rfl⟩
  |succ m ih=>
   intro h;by_cases e:now / 64^m=a / 64^m
   ·obtain⟨n,hn,hl⟩:=ih e;exact⟨n,by omega,hl⟩
   ·exact⟨m,by omega,h,.inr e⟩
 obtain⟨n,_,hl⟩:=this 7 (by rw[Qm h1 (by omega),Qm h2 (by omega)]);exact⟨n,hl.lt h1 h2,hl⟩
theorem WI.at_ (h:WI now P F) {id:Int} {t:Tm} (ht:P id=some t):∃n,n<7/\Lv now t.a n/\t∈F n (dg t.a n):=by
 obtain⟨g1,g2,g3⟩:=h.pl id t ht;obtain⟨n,hn,hl⟩:=afG now t.a h.nw g3;exact⟨n,hn,hl,(h.mem n _ t hn (Eh _ _)).2 ⟨by rw[g1];exact ht,hl,rfl⟩⟩
theorem WI.take (h:WI now P F) {id:Int} {t:Tm} {n:Nat} (ht:P id=some t) (hl:Lv now t.a n):WI now (G5 P id none) (zn F n (dg t.a n) ((F n (dg t.a n)).filter λx=> !(x.id==id))):=by
 obtain⟨g1,g2,g3⟩:=h.pl id t ht;refine⟨λid' u hu=> ?_,h.nw,λn' k' u hn hk=> ?_,λn' k' hn hk=> ?_⟩
 ·unfold G5 at hu;split at hu
  ·cases hu
  ·exact h.pl id' u hu
 ·unfold zn G5;split
  ·rename_i e;obtain⟨rfl,rfl⟩:=e;rw[List.mem_filter,h.mem n' _ u hn hk];by_cases e:u.id=id
   ·rw[if_pos e];simp[e]
   ·rw[if_neg e];simp[e]
  ·rename_i e;rw[h.mem n' k' u hn hk];by_cases eu:u.id=id
   ·rw[if_pos eu];constructor
    ·rintro⟨h1,h2,h3⟩;rw[eu,ht] at h1
     cases h1
     exact absurd ⟨h2.uniq hl,by rw[<- h3,h2.uniq hl]⟩ e
    ·rintro⟨h1,_⟩;cases h1
   ·rw[if_neg eu]
 ·unfold zn;split
  ·rename_i e;obtain⟨rfl,rfl⟩:=e;exact(h.nd n' _ hn hk).sublist (List.filter_sublist.map _)
  ·exact h.nd n' k' hn hk
theorem WI.put (h:WI now P F) {t:Tm} {n:Nat} (hp:P t.id=none) (h1:now<=t.a) (h2:t.a<=2^40) (hl:Lv now t.a n):WI now (G5 P t.id (some t)) (zn F n (dg t.a n) (F n (dg t.a n)++[t])):=by
 refine⟨λid' u hu=> ?_,h.nw,λn' k' u hn hk=> ?_,λn' k' hn hk=> ?_⟩
 ·unfold G5 at hu;split at hu
  ·rename_i e;cases hu;exact⟨e.symm,h1,h2⟩
  ·exact h.pl id' u hu
 ·unfold zn G5;split
  ·rename_i e;obtain⟨rfl,rfl⟩:=e;rw[List.mem_append,List.mem_singleton,h.mem n' _ u hn hk];by_cases e:u.id=t.id
   ·rw[if_pos e];constructor
    ·rintro(⟨g1,_⟩|rfl)
     ·rw[e,hp] at g1;cases g1
     ·exact⟨rfl,hl,rfl⟩
    ·rintro⟨g1,_⟩;cases g1;exact .inr rfl
   ·rw[if_neg e];constructor
    ·rintro(g|rfl)
     ·exact g
     ·exact absurd rfl e
    ·exact .inl
  ·rename_i e;rw[h.mem n' k' u hn hk];by_cases eu:u.id=t.id
   ·rw[if_pos eu];constructor
    ·rintro⟨g1,_⟩;rw[eu,hp] at g1;cases g1
    ·rintro⟨g1,g2,g3⟩;cases g1;exact absurd ⟨g2.uniq hl,by rw[<- g3,g2.uniq hl]⟩ e
   ·rw[if_neg eu]
 ·unfold zn;split
  ·rename_i e;obtain⟨rfl,rfl⟩:=e;rw[List.map_append,List.nodup_append];refine⟨h.nd n' _ hn hk,by simp,λx hx y hy e=> ?_⟩;simp only[List.map_cons,List.map_nil,List.mem_singleton] at hy;subst hy;subst e;obtain⟨u,hu,hx⟩:=List.mem_map.1 hx;have:=((h.mem n' _ u hn hk).1 hu).1;rw[hx,hp] at this;cases this
  ·exact h.nd n' k' hn hk
theorem WI.next (h:WI now P F) {n k:Nat} {t:Tm} (hn:n<7) (hk:k<64) (e1:∀n' k',n'<n->k'<64->dg now n'<=k'->F n' k'=[]) (e2:∀k',k'<k->dg now n<=k'->F n k'=[])
  (ht:t∈F n k) (hm:∀u∈F n k,t.a<=u.a):P t.id=some t/\now<=t.a/\∀id u,P id=some u->t.a<=u.a:=by
 obtain⟨g1,g2,g3⟩:=(h.mem n k t hn hk).1 ht;refine⟨g1,(h.pl _ _ g1).2.1,λid u hu=> ?_⟩;obtain⟨_,p2,p3⟩:=h.pl id u hu;obtain⟨m,hm7,hl,I⟩:=h.at_ hu;rcases lt_trichotomy m n with J|rfl|J
 ·have:=e1 m (dg u.a m) J (Eh _ _) (hl.dig p2).1;rw[this] at I;simp at I
 ·rcases lt_trichotomy (dg u.a m) k with hd|hd|hd
  ·have:=e2 (dg u.a m) hd (hl.dig p2).1;rw[this] at I;simp at I
  ·rw[hd] at I;exact hm u I
  ·exact Nat.le_of_lt (g2.slot hl (by rw[g3];exact hd))
 ·exact Nat.le_of_lt (g2.first hl J p2)
theorem WI.none (h:WI now P F) (e1:∀n' k',n'<7->k'<64->dg now n'<=k'->F n' k'=[]) (id:Int):P id=none:=by
 cases hp:P id with
 |none=>rfl
 |some u=>
  obtain⟨m,hm7,hl,I⟩:=h.at_ hp;have:=e1 m (dg u.a m) hm7 (Eh _ _) (hl.dig (h.pl _ _ hp).2.1).1;rw[this] at I;simp at I
theorem WI.low (h:WI now P F) {to m:Nat} (h1:now<=to) (I:∀id u,P id=some u->to<=u.a) (hm:Lv now to m) {n k:Nat} (hn:n<m) (hn7:n<7) (hk:k<64):F n k=[]:=by
 cases hf:F n k with
 |nil=>rfl
 |cons u r=>
  obtain⟨g1,g2,_⟩:=(h.mem n k u hn7 hk).1 (by rw[hf];simp);have:=g2.first hm hn h1
  have:=I _ _ g1;omega
def rest (P:Ps) (M:List Tm):Ps:=λid=>match P id with|some t=>if t∈M then none else some t|none=>none
theorem zi {P:Ps} {M:List Tm} {id:Int} {t:Tm}:rest P M id=some t↔P id=some t/\t∉M:=by
 unfold rest
 cases hp:P id with
 |none=>simp
 |some u=>
  by_cases hu:u∈M
  ·simp only[hu,if_true];constructor
   ·intro h;cases h
   ·rintro⟨h,h2⟩;cases h;exact absurd hu h2
  ·simp only[hu,if_false,Option.some.injEq];constructor
   ·rintro rfl;exact⟨rfl,hu⟩
   ·rintro⟨h,_⟩;exact h
theorem af8 (P:Ps):rest P []=P:=by
 funext id;unfold rest
 cases P id<;>simp
theorem WI.turn (h:WI now P F) {to m:Nat} (h1:now<=to) (h2:to<=2^40) (R:∀id u,P id=some u->to<=u.a) (hm:Lv now to m):
  WI to (rest P (if m=0 then [] else F m (dg to m))) (if m=0 then F else zn F m (dg to m) []):=by
 have m7:=hm.lt h.nw h2;have low:=λ{n k:Nat}=>h.low (n:=n) (k:=k) h1 R hm;have lvl:∀u n,(∃id,P id=some u)->Lv now u.a n->n<7->(n<m->False)/\(m<n->Lv to u.a n)/\(n=m->(m=0\/dg u.a m≠dg to m)->Lv to u.a n):=by
  rintro u n ⟨id,hu⟩ hl hn7;refine⟨λN=> ?_,λN=> ?_,λe hd=> ?_⟩
  ·have:=(h.mem n (dg u.a n) u hn7 (Eh _ _)).2 ⟨by rw[(h.pl _ _ hu).1];exact hu,hl,rfl⟩;rw[low N hn7 (Eh _ _)] at this;simp at this
  ·refine⟨?_,.inr ?_⟩
   ·rw[<- hl.1];exact(NU hm.1 (by omega)).symm
   ·rw[<- NU hm.1 (show m+1<=n by omega)];rcases hl.2 with e|e
    ·omega
    ·exact e
  ·subst e;refine⟨?_,?_⟩
   ·rw[<- hl.1];exact hm.1.symm
   ·rcases hd with e|e
    ·exact .inl e
    ·refine .inr λhe=>e ?_;unfold dg;rw[he]
 have back:∀u n,(∃id,P id=some u)->Lv to u.a n->n<7->(m<n->Lv now u.a n)/\(n=m->m=0\/Lv now u.a m):=by
  rintro u n ⟨id,hu⟩ hl hn7;obtain⟨k,hk7,hk⟩:=afG now u.a h.nw (h.pl _ _ hu).2.2;have:=lvl u k ⟨id,hu⟩ hk hk7;refine⟨λN=> ?_,λe=> ?_⟩
  ·rcases lt_trichotomy k m with J|J|J
   ·exact(this.1 J).elim
   ·by_cases hz:m=0\/dg u.a m≠dg to m
    ·have:=(this.2.2 J hz).uniq hl;omega
    ·exfalso;simp only[not_or,Classical.not_not] at hz;have e1:=hk.1;rw[J] at e1;have e2:to / 64^m=u.a / 64^m:=by
      have e3:=hm.1;rw[zT,zT] at e1 e3;unfold dg at hz;omega
     have:=NU e2 (show m<=n by omega);rcases hl.2 with e|e
     ·omega
     ·exact e this
   ·have:=(this.2.1 J).uniq hl;rw[<- this];exact hk
  ·subst e;rcases lt_trichotomy k n with J|J|J
   ·exact(this.1 J).elim
   ·subst J;exact .inr hk
   ·have:=(this.2.1 J).uniq hl;omega
 refine⟨λid u hu=> ?_,h2,λn k u hn hk=> ?_,λn k hn hk=> ?_⟩
 ·obtain⟨g1,_⟩:=zi.1 hu;exact⟨(h.pl id u g1).1,R id u g1,(h.pl id u g1).2.2⟩
 ·rw[zi];by_cases hz:m=0
  ·rw[if_pos hz,if_pos hz,h.mem n k u hn hk];constructor
   ·rintro⟨g1,g2,g3⟩;refine⟨⟨g1,by simp⟩,?_,g3⟩;rcases lt_trichotomy n m with I|I|I
    ·omega
    ·exact(lvl u n ⟨_,g1⟩ g2 hn).2.2 I (.inl hz)
    ·exact(lvl u n ⟨_,g1⟩ g2 hn).2.1 I
   ·rintro⟨⟨g1,_⟩,g2,g3⟩;refine⟨g1,?_,g3⟩;rcases lt_trichotomy n m with I|I|I
    ·omega
    ·subst I;subst hz;refine⟨?_,.inl rfl⟩;rw[hm.1];exact g2.1
    ·exact(back u n ⟨_,g1⟩ g2 hn).1 I
  ·rw[if_neg hz,if_neg hz];have inM:∀u,u∈F m (dg to m)↔P u.id=some u/\Lv now u.a m/\dg u.a m=dg to m:=λu=>h.mem m _ u m7 (Eh _ _);unfold zn;split
   ·rename_i e;obtain⟨rfl,rfl⟩:=e;constructor
    ·intro hx;simp at hx
    ·rintro⟨⟨g1,g2⟩,g3,g4⟩;exfalso;rcases(back u n ⟨_,g1⟩ g3 hn).2 rfl with e|e
     ·exact hz e
     ·exact g2 ((inM u).2 ⟨g1,e,g4⟩)
   ·rename_i U;rw[h.mem n k u hn hk];constructor
    ·rintro⟨g1,g2,g3⟩;have O:u∉F m (dg to m):=λhx=>by
      obtain⟨_,q2,q3⟩:=(inM u).1 hx;have:=g2.uniq q2;exact U ⟨this,by rw[<- g3,this,q3]⟩
     refine⟨⟨g1,O⟩,?_,g3⟩;rcases lt_trichotomy n m with I|I|I
     ·exact((lvl u n ⟨_,g1⟩ g2 hn).1 I).elim
     ·refine(lvl u n ⟨_,g1⟩ g2 hn).2.2 I (.inr λe=>U ⟨I,?_⟩);rw[<- g3,I,e]
     ·exact(lvl u n ⟨_,g1⟩ g2 hn).2.1 I
    ·rintro⟨⟨g1,g2⟩,g3,g4⟩;refine⟨g1,?_,g4⟩;rcases lt_trichotomy n m with I|I|I
     ·exfalso;obtain⟨j,hj7,hj⟩:=afG now u.a h.nw (h.pl _ _ g1).2.2;have:=lvl u j ⟨_,g1⟩ hj hj7;rcases lt_trichotomy j m with q|q|q
      ·exact this.1 q
      ·by_cases hd:dg u.a m=dg to m
       ·exact g2 ((inM u).2 ⟨g1,q ▸ hj,hd⟩)
       ·have:=(this.2.2 q (.inr hd)).uniq g3;omega
      ·have:=(this.2.1 q).uniq g3;omega
     ·rcases(back u n ⟨_,g1⟩ g3 hn).2 I with e|e
      ·exact absurd e hz
      ·rw[I];exact e
     ·exact(back u n ⟨_,g1⟩ g3 hn).1 I
 ·by_cases hz:m=0
  ·rw[if_pos hz];exact h.nd n k hn hk
  ·rw[if_neg hz];unfold zn;split
   ·simp
   ·exact h.nd n k hn hk
theorem ad5 {P:Ps} {t:Tm} {M:List Tm} (hp:P t.id=some t) (I:∀id u,P id=some u->u.id=id) (ht:t∉M):G5 (rest P (t::M)) t.id (some t)=rest P M:=by
 funext id;unfold G5;split
 ·rename_i e;subst e;exact(zi.2 ⟨hp,ht⟩).symm
 ·rename_i e;unfold rest
  cases hu:P id with
  |none=>rfl
  |some u=>
   have:u≠t:=λh=>e (by rw[<- I id u hu,h]);simp[this]
theorem WI.acE (h:WI now P F) {t:Tm}:t∈F 0 (dg now 0)↔P t.id=some t/\t.a=now:=by
 rw[h.mem 0 _ t (by omega) (Eh _ _)];constructor
 ·rintro⟨h1,h2,h3⟩;refine⟨h1,?_⟩;have:=h2.1;unfold dg at h3;simp only[Nat.pow_zero,Nat.div_one,Nat.zero_add,Nat.pow_one] at h3 this;omega
 ·rintro⟨h1,h2⟩;rw[h2];exact⟨h1,Lv.self now,rfl⟩
theorem WI.due (h:WI now P F):WI now (rest P (F 0 (dg now 0))) (zn F 0 (dg now 0) []):=by
 refine⟨λid u hu=>h.pl id u (zi.1 hu).1,h.nw,λn k u hn hk=> ?_,λn k hn hk=> ?_⟩
 ·rw[zi];unfold zn;split
  ·rename_i e;obtain⟨rfl,rfl⟩:=e;constructor
   ·intro hx;simp at hx
   ·rintro⟨⟨g1,g2⟩,g3,g4⟩;exact(g2 ((h.mem 0 _ u hn hk).2 ⟨g1,g3,g4⟩)).elim
  ·rename_i I;rw[h.mem n k u hn hk];constructor
   ·rintro⟨g1,g2,g3⟩;refine⟨⟨g1,λhx=> ?_⟩,g2,g3⟩;obtain⟨_,q2,q3⟩:=(h.mem 0 _ u (by omega) (Eh _ _)).1 hx;have:=g2.uniq q2;exact I ⟨this,by rw[<- g3,this,q3]⟩
   ·rintro⟨⟨g1,_⟩,g2,g3⟩;exact⟨g1,g2,g3⟩
 ·unfold zn;split
  ·simp
  ·exact h.nd n k hn hk
end Gp.Wh
end
