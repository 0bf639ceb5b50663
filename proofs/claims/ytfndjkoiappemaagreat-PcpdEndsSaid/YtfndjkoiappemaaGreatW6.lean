import Derived.Test.YtfndjkoiappemaaGreatW5
import Derived.Test.YtfndjkoiappemaaGreatW3
import Derived.Test.YtfndjkoiappemaaGreatW2
section
namespace Go.Proofs
open Gp Gp.Hash
set_option maxRecDepth 100000
theorem adz (m:Nat):V4.tJ 8 m=V4.tJ 4 (m / 4294967296)++V4.tJ 4 (m % 4294967296):=by
 simp only [V4.tJ,List.cons_append,List.nil_append,List.cons.injEq,and_true]
 refine⟨?_,?_,?_,?_,?_,?_,?_,?_⟩<;>apply UInt8.toNat_inj.1<;>simp<;>omega
theorem ZH {x:Int} (h:Bind.In64 x):wG .i64 (jU .i64 x 32) 4294967295=(((x % 18446744073709551616).toNat / 4294967296:Nat):Int)/\wG .i64 x 4294967295=(((x % 18446744073709551616).toNat % 4294967296:Nat):Int):=by
 obtain⟨h1,h2⟩:=h
 have low:∀y:Int,wG .i64 y 4294967295=(((y % 18446744073709551616).toNat % 4294967296:Nat):Int):=by
  intro y
  unfold wG
  have e1:(BitVec.ofInt (IntKind.bits .i64) y).toNat=(y % 18446744073709551616).toNat:=by rw [Ci,BitVec.toNat_ofInt];rfl
  have e2:(BitVec.ofInt (IntKind.bits .i64) 4294967295).toNat=2^32 - 1:=by rw [Ci,BitVec.toNat_ofInt];rfl
  rw [BitVec.toNat_and,e1,e2,RF]
  rw [wrap_i64 (by omega) (by omega)]
 refine⟨?_,low x⟩
 rw [low]
 unfold jU
 have e:(2:Int)^(min (32:Int).toNat (IntKind.bits .i64))=4294967296:=by decide
 rw [e,Int.fdiv_eq_ediv_of_nonneg _ (by omega)]
 omega
theorem key_ok {w:World} {b:Nat} {ns:List Int} {vs:List Value} (h:Row w b vs) (hv:vs=ns.map fun n=>Value.int .i64 n) (n c:Nat) (hn:n=ns.length) (hl:ns.length<=10) (hr:∀n∈ns,Bind.In64 n):
  wY ⟨some ⟨b,0,none⟩,n,c⟩ w fun r w'=>r=Bind.keyS ns/\Ext w w':=by
 subst hv hn
 apply TV
 refine fE (fun st W=>∃i:Nat,i<=ns.length/\st.2.1=(i:Int)/\rO W st.1 (Bind.keyB (ns.take i))/\Ext w W) (fun st _=>ns.length - st.2.1.toNat) ⟨0,by omega,rfl,rO.nil,Ext.refl _⟩ ?_
 rintro⟨s,x,⟨⟩⟩ W ⟨i,hi,rfl,hs,hx⟩ next hnext
 have hs:rO W s (Bind.keyB (ns.take i)):=hs
 by_cases hlt:i<ns.length
 ·have hlt':((i:Int)<(ns.length:Int)):=by omega
  simp only [sx,hlt',decide_true,Int.toNat_natCast,Nat.mul_one,(h.ext hx).cell,List.getElem?_map,List.getElem?_eq_getElem hlt,Option.map_some]
  refine⟨by omega,by trivial,by omega,?_⟩
  obtain⟨e1,e2⟩:=ZH (hr _ (List.getElem_mem hlt))
  rw [e1,e2]
  generalize hm:(ns[i] % 18446744073709551616).toNat=m
  have hm2:m<18446744073709551616:=by omega
  have kl:=Bind.Oq (ns.take i)
  have kl2:(ns.take i).length<=10:=by simp;omega
  refine FM (RU hs (by omega) _ 4) ?_
  rintro t1 w1 ⟨b1,f1,_⟩
  have p1:Gt (Bind.keyB (ns.take i)) ((m / 4294967296:Nat):Int) 4=Bind.keyB (ns.take i)++V4.tJ 4 (m / 4294967296):=by
   unfold Gt;rw [if_pos ⟨⟨by omega,by omega⟩,by omega,by simp;omega⟩];rfl
  rw [p1] at b1
  refine FM (RU (rO.IB b1) (by simp [V4.kD];omega) _ 4) ?_
  rintro t2 w2 ⟨b2,f2,_⟩
  have p2:Gt (Bind.keyB (ns.take i)++V4.tJ 4 (m / 4294967296)) ((m % 4294967296:Nat):Int) 4=Bind.keyB (ns.take i)++V4.tJ 4 (m / 4294967296)++V4.tJ 4 (m % 4294967296):=by
   unfold Gt;rw [if_pos ⟨⟨by omega,by omega⟩,by omega,by simp;omega⟩];rfl
  rw [p2] at b2
  rw [wrap_i64 (by omega) (by omega)]
  refine hnext _ _ ⟨i+1,by omega,by simp,?_,(hx.trans f1).trans f2⟩ (by simp only;omega)
  have ek:Bind.keyB (ns.take (i+1))=Bind.keyB (ns.take i)++V4.tJ 4 (m / 4294967296)++V4.tJ 4 (m % 4294967296):=by
   rw [List.take_succ_eq_append_getElem hlt]
   unfold Bind.keyB
   rw [List.flatMap_append,List.flatMap_singleton,hm,adz,List.append_assoc]
  rw [ek]
  exact rO.IB b2
 ·have hlt':¬((i:Int)<(ns.length:Int)):=by omega
  simp only [hlt',decide_false,cond_false]
  have:i=ns.length:=by omega
  subst this
  rw [List.take_length] at hs
  exact Ut hs ⟨rfl,hx⟩
theorem wF (l:List Int) (h:l.length<=10):(Bind.keyS l).size<=2^63 - 1:=by
 have:(Bind.keyS l).size=(Bind.keyB l).length:=rfl
 rw [this,Bind.Oq];omega
theorem Rl (a b c d:Int) (h:∀n∈[a,b,c,d],Bind.In64 n) (w:World):kQ a b c d w fun r w'=>r=Bind.keyS [a,b,c,d]/\Ext w w':=by
 apply KI
 refine fK fun p w1 r1 _ _ f1=> ?_
 simp only [sx,r1.cell]
 refine fK fun q w2 r2 _ _ f2=> ?_
 refine Lm (key_ok (ns:=[a,b,c,d]) r2 rfl 4 4 rfl (by simp) h) ?_
 rintro _ w3 ⟨rfl,f3⟩
 exact⟨rfl,(f1.trans f2).trans f3⟩
theorem Tc (a b c:Int) (h:∀n∈[a,b,c],Bind.In64 n) (w:World):kR a b c w fun r w'=>r=Bind.keyS [a,b,c]/\Ext w w':=by
 apply K_
 refine fK fun p w1 r1 _ _ f1=> ?_
 simp only [sx,r1.cell]
 refine fK fun q w2 r2 _ _ f2=> ?_
 refine Lm (key_ok (ns:=[a,b,c]) r2 rfl 3 3 rfl (by simp) h) ?_
 rintro _ w3 ⟨rfl,f3⟩
 exact⟨rfl,(f1.trans f2).trans f3⟩
open Gp.Bind (Bnd Slots live GoodB freeN getS In64)
def iJ:Option Bnd->List Value
 |none=>[.int .i64 0,.int .i64 0,.int .i64 0,.int .i64 0,.int .i64 0,.int .i64 0,.int .i64 0,.bool false,.bool false]
 |some b=>[.int .i64 b.sw,.int .i64 b.pr,.int .i64 b.ad,.int .i64 b.po,.int .i64 b.opr,.int .i64 b.oad,.int .i64 b.opo,.bool b.st,.bool true]
theorem lH (o:Option Bnd):(iJ o).length=9:=by cases o<;>rfl
theorem Le (o:Option Bnd):(iJ o).all gY=true:=by cases o<;>rfl
theorem IG (o:Option Bnd):(iJ o)[8]? =some (.bool o.isSome):=by cases o<;>rfl
structure Tn where
 d:Nat
 sl:Nat
 ti:Nat
 si:Nat
 tu:Nat
 su:Nat
def fp (A:Tn) (b:Nat):Prop:=b=A.d\/b=A.sl\/b=A.ti\/b=A.si\/b=A.tu\/b=A.su
def Tn.ne (A:Tn):Prop:=A.d≠A.sl/\A.d≠A.ti/\A.d≠A.si/\A.d≠A.tu/\A.d≠A.su/\A.sl≠A.ti/\A.sl≠A.si/\A.sl≠A.tu/\A.sl≠A.su/\A.ti≠A.tu/\A.ti≠A.su/\A.si≠A.tu/\A.si≠A.su
structure DB (w:World) (A:Tn) (most:Nat) (S:Slots) (Mi Mo:ByteArray->Option Int):Prop where
 hd:Row w A.d [.slice (some ⟨A.sl,0,none⟩) most most,.pointer (some ⟨A.ti,0,none⟩),.pointer (some ⟨A.tu,0,none⟩),.int .i64 ((live 0 S).length:Int)]
 row:Row w A.sl (S.flatMap iJ)
 len:S.length=most
 mx:most<=4096
 tI:∃L,TB w A.ti A.si L most Mi/\cnt L=(live 0 S).length
 tO:∃L,TB w A.tu A.su L most Mo/\cnt L=(live 0 S).length
 good:GoodB S Mi Mo
 ne:A.ne
section
variable {w w':World} {A:Tn} {most:Nat} {S:Slots} {Mi Mo:ByteArray->Option Int}
theorem DB.fr {F:Nat->Prop} (h:DB w A most S Mi Mo) (hf:fD w w' F) (hs:∀b,fp A b->¬F b):DB w' A most S Mi Mo:=by
 obtain⟨L,h1,h2⟩:=h.tI
 obtain⟨L',h3,h4⟩:=h.tO
 exact⟨h.hd.fr hf (hs _ (.inl rfl)),h.row.fr hf (hs _ (.inr (.inl rfl))),h.len,h.mx,⟨L,h1.fr hf (hs _ (.inr (.inr (.inl rfl)))) (hs _ (.inr (.inr (.inr (.inl rfl))))),h2⟩,
  ⟨L',h3.fr hf (hs _ (.inr (.inr (.inr (.inr (.inl rfl)))))) (hs _ (.inr (.inr (.inr (.inr (.inr rfl)))))),h4⟩,h.good,h.ne⟩
theorem DB.ext (h:DB w A most S Mi Mo) (hf:Ext w w'):DB w' A most S Mi Mo:=h.fr (hf fun _=>False) (fun _ _=>by simp)
theorem DB.slot (h:DB w A most S Mi Mo) {i:Nat} {o:Option Bnd} (hi:S[i]? =some o) (j:Nat) (hj:j<9):w.cell? ⟨A.sl,i * 9+j,none⟩=(iJ o)[j]? :=by
 rw [h.row.cell,flat_get iJ 9 lH _ _ j hj,hi];rfl
theorem yZ (h:DB w A most S Mi Mo):jd (some ⟨A.d,0,none⟩) w fun r w'=>r=true/\w'=w:=by
 apply KA
 simp only [sx,h.hd.cell,Bool.not_false]
 exact⟨by trivial,by trivial⟩
theorem NT (h:DB w A most S Mi Mo) (a b c d:Int) (hq:∀n∈[a,b,c,d],In64 n):
  lU (some ⟨A.d,0,none⟩) a b c d w fun n t w'=>t=(Mi (Bind.keyS [a,b,c,d])).isSome/\n=(Mi (Bind.keyS [a,b,c,d])).getD 0/\Ext w w':=by
 apply MS
 refine fK fun p w1 r1 _ _ f1=> ?_
 refine lF (yZ (h.ext f1)) ?_
 rintro _ w2 ⟨rfl,hw⟩
 subst hw
 have h2:=(h.ext f1).ext (Ext.drew _)
 simp only [sx,Bool.not_true,h2.hd.cell,r1.drew.cell]
 refine wU (Rl a b c d hq _) ?_
 rintro _ w3 ⟨rfl,f3⟩
 have h3:=h2.ext f3
 simp only [true_and,List.getElem?_cons_zero,List.getElem?_cons_succ,h3.hd.cell]
 obtain⟨L,hL,_⟩:=h3.tI
 refine AA (XG hL _ (wF _ (by simp))) ?_
 rintro n t w4 ⟨f4,rfl,rfl⟩
 exact⟨rfl,rfl,((f1.trans (Ext.drew _)).trans f3).trans f4⟩
theorem UQ (h:DB w A most S Mi Mo) (a b c:Int) (hq:∀n∈[a,b,c],In64 n):
  nM (some ⟨A.d,0,none⟩) a b c w fun n t w'=>t=(Mo (Bind.keyS [a,b,c])).isSome/\n=(Mo (Bind.keyS [a,b,c])).getD 0/\Ext w w':=by
 apply L_
 refine fK fun p w1 r1 _ _ f1=> ?_
 refine lF (yZ (h.ext f1)) ?_
 rintro _ w2 ⟨rfl,hw⟩
 subst hw
 have h2:=(h.ext f1).ext (Ext.drew _)
 simp only [sx,Bool.not_true,h2.hd.cell,r1.drew.cell]
 refine wX (Tc a b c hq _) ?_
 rintro _ w3 ⟨rfl,f3⟩
 have h3:=h2.ext f3
 simp only [true_and,List.getElem?_cons_zero,List.getElem?_cons_succ,h3.hd.cell]
 obtain⟨L,hL,_⟩:=h3.tO
 refine AA (XG hL _ (wF _ (by simp))) ?_
 rintro n t w4 ⟨f4,rfl,rfl⟩
 exact⟨rfl,rfl,((f1.trans (Ext.drew _)).trans f3).trans f4⟩
theorem abk (h:DB w A most S Mi Mo):t_ (some ⟨A.d,0,none⟩) w fun n w'=>n=((live 0 S).length:Int)/\w'=w:=by
 apply Np
 refine lF (yZ h) ?_
 rintro _ w2 ⟨rfl,hw⟩
 subst hw
 simp only [sx,Bool.not_true,h.hd.cell]
 exact⟨by trivial,by trivial⟩
theorem wQ:∀{S:Slots} {i:Nat},freeN S=some i↔S[i]? =some none/\∀j,j<i->∃b,S[j]? =some (some b)
 |[],i=>by simp [freeN]
 |none::r,i=>by
  simp only [freeN,Option.some.injEq]
  constructor
  ·rintro rfl;exact⟨rfl,by omega⟩
  ·rintro⟨_,h2⟩
   cases i with
   |zero=>rfl
   |succ i=>obtain⟨b,hb⟩:=h2 0 (by omega);simp at hb
 |some c::r,i=>by
  simp only [freeN,Option.map_eq_some_iff]
  constructor
  ·rintro⟨k,hk,rfl⟩
   obtain⟨h1,h2⟩:=wQ.1 hk
   refine⟨by simpa using h1,fun j hj=> ?_⟩
   cases j with
   |zero=>exact⟨c,rfl⟩
   |succ j=>simpa using h2 j (by omega)
  ·rintro⟨h1,h2⟩
   cases i with
   |zero=>simp at h1
   |succ i=>exact⟨i,wQ.2 ⟨by simpa using h1,fun j hj=>by simpa using h2 (j+1) (by omega)⟩,rfl⟩
theorem FK:∀{S:Slots},(∀j,j<S.length->∃b,S[j]? =some (some b))->freeN S=none
 |[],_=>rfl
 |none::r,h=>by obtain⟨b,hb⟩:=h 0 (by simp);simp at hb
 |some c::r,h=>by
  simp only [freeN,Option.map_eq_none_iff]
  exact FK fun j hj=>by simpa using h (j+1) (by simp;omega)
theorem aaN (h:DB w A most S Mi Mo):qR (some ⟨A.d,0,none⟩) w fun n t w'=>w'=w/\t=(freeN S).isSome/\n=(((freeN S).getD 0:Nat):Int):=by
 apply Me
 have hm:=h.mx
 have hl:=h.len
 simp only [sx,h.hd.cell]
 refine fE (fun st W=>W=w/\∃i:Nat,i<=most/\st.1=(i:Int)/\∀j,j<i->∃b,S[j]? =some (some b)) (fun st _=>most - st.1.toNat) ⟨rfl,0,by omega,rfl,by omega⟩ ?_
 rintro⟨x,⟨⟩⟩ W ⟨rfl,i,hi,rfl,hp⟩ next hnext
 by_cases hlt:i<most
 ·have hlt':((i:Int)<(most:Int)):=by omega
  have hS:S[i]? =some S[i]:=List.getElem?_eq_getElem (by omega)
  generalize S[i]=o at hS
  simp only [sx,hlt',decide_true,h.hd.cell,Int.toNat_natCast,h.slot hS 8 (by omega),IG]
  refine⟨by omega,by trivial,?_⟩
  cases o with
  |none=>
   have hf:=wQ.2 ⟨hS,hp⟩
   simp only [Option.isSome_none,Bool.not_false,cond_true,hf]
   exact⟨by trivial,rfl,rfl⟩
  |some b=>
   simp only [Option.isSome_some,Bool.not_true,cond_false]
   rw [wrap_i64 (by omega) (by omega)]
   refine hnext _ _ ⟨rfl,i+1,by omega,by simp,fun j hj=> ?_⟩ (by simp only;omega)
   by_cases hji:j<i
   ·exact hp j hji
   ·have:j=i:=by omega
    subst this;exact⟨b,hS⟩
 ·have hlt':¬((i:Int)<(most:Int)):=by omega
  simp only [hlt',decide_false,cond_false]
  have hf:=FK (S:=S) fun j hj=>hp j (by omega)
  rw [hf]
  exact⟨by trivial,rfl,rfl⟩
theorem Y0 {S:Slots} {i:Nat} (hi:i<S.length) (o:Option Bnd):(S.flatMap iJ).take (i * 9)++iJ o++(S.flatMap iJ).drop (i * 9+9)=(S.set i o).flatMap iJ:=by
 have e1:(S.flatMap iJ).take (i * 9)=(S.take i).flatMap iJ:=by
  have h:S=S.take i++S.drop i:=(List.take_append_drop i S).symm
  have hl:((S.take i).flatMap iJ).length=i * 9:=by rw [iH iJ 9 lH];simp;omega
  conv=>lhs;rw [h,List.flatMap_append]
  rw [<- hl];simp
 have e2:(S.flatMap iJ).drop (i * 9+9)=(S.drop (i+1)).flatMap iJ:=by
  have h:S=S.take (i+1)++S.drop (i+1):=(List.take_append_drop (i+1) S).symm
  have hl:((S.take (i+1)).flatMap iJ).length=i * 9+9:=by rw [iH iJ 9 lH];simp;omega
  conv=>lhs;rw [h,List.flatMap_append]
  rw [<- hl];simp
 rw [e1,e2,List.set_eq_take_append_cons_drop,if_pos hi,List.flatMap_append,List.flatMap_cons,List.append_assoc]
theorem RY (h:Row w A.sl (S.flatMap iJ)) {i:Nat} (hi:i<S.length) (o:Option Bnd) {K:World->Prop} (hK:∀w',Row w' A.sl ((S.set i o).flatMap iJ)->fD w w' (·=A.sl)->w'.heap.size=w.heap.size->K w'):lS (iJ o) w ⟨A.sl,i * 9,none⟩ 0 K:=by
 refine Ja (iJ o) w _ (i * 9) 0 h (fun v hv=>List.all_eq_true.1 (Le o) v hv) ?_ fun w1 r1 f1 z1=> ?_
 ·rw [lH,iH iJ 9 lH];omega
 ·rw [Nat.add_zero,lH,Y0 hi] at r1
  exact hK w1 r1 (f1 _ rfl) z1
def I7 (S:Slots) (Mi Mo:ByteArray->Option Int) (b:Bnd):Int×Int:=
 if (Mi (Bind.keyS b.i)).isSome||(Mo (Bind.keyS b.o)).isSome then (0,9) else match freeN S with
  |none=>(0,7)
  |some i=>((i:Int),0)
theorem abm (h:DB w A most S Mi Mo) (b:Bnd) (hb:b.ok) (hlt:∀x,fp A x->x<w.heap.size):
  uo (some ⟨A.d,0,none⟩) b.sw b.pr b.ad b.po b.opr b.oad b.opo b.st w fun n e w'=>(n,e)=I7 S Mi Mo b/\fD w w' (fp A)/\
   ∃A' S' Mi' Mo',DB w' A' most S' Mi' Mo'/\A'.d=A.d/\(∀x,fp A' x->fp A x\/w.heap.size<=x)/\(∀x,fp A' x->x<w'.heap.size)/\S'=(if (I7 S Mi Mo b).2=0 then S.set (I7 S Mi Mo b).1.toNat (some b) else S):=by
 apply NZ
 refine fK fun p w1 r1 e1 z1 f1=> ?_
 refine lF (yZ (h.ext f1)) ?_
 rintro _ w2 ⟨rfl,hw⟩
 subst hw
 simp only [sx,Bool.not_true,r1.cell]
 refine yj (NT (h.ext f1) _ _ _ _ hb.1) ?_
 rintro n2 t2 w3 ⟨ht2,_,f3⟩
 simp only [List.getElem?_cons_zero,List.getElem?_cons_succ,fA,fC,(r1.ext f3).cell]
 refine Dt (UQ ((h.ext f1).ext f3) _ _ _ hb.2) ?_
 rintro n4 t4 w4 ⟨ht4,_,f4⟩
 have ht2:t2=(Mi (Bind.keyS b.i)).isSome:=ht2
 have ht4:t4=(Mo (Bind.keyS b.o)).isSome:=ht4
 have y4:=f3.trans f4
 have x4:Ext w w4:=f1.trans y4
 have h4:=h.ext x4
 have twice:(t2||t4)=true->((0:Int),(9:Int))=I7 S Mi Mo b/\fD w w4 (fp A)/\∃A' S' Mi' Mo',DB w4 A' most S' Mi' Mo'/\A'.d=A.d/\(∀x,fp A' x->fp A x\/w.heap.size<=x)/\(∀x,fp A' x->x<w4.heap.size)/\S'=(if (I7 S Mi Mo b).2=0 then S.set (I7 S Mi Mo b).1.toNat (some b) else S):=by
  intro ht
  have e:I7 S Mi Mo b=(0,9):=by unfold I7;rw [<- ht2,<- ht4,if_pos ht]
  rw [e]
  exact⟨rfl,x4 _,A,S,Mi,Mo,h4,rfl,fun x hx=> .inl hx,fun x hx=>by have:=hlt x hx;have:=x4.size;omega,by rw [if_neg (by simp)]⟩
 cases htt:t2 with
 |true=>simp only [cond_true];exact twice (by rw [htt];rfl)
 |false=>
 cases htt4:t4 with
 |true=>simp only [cond_true,cond_false];exact twice (by rw [htt,htt4];rfl)
 |false=>
 rw [htt] at ht2
 rw [htt4] at ht4
 simp only [cond_false]
 refine MG (aaN h4) ?_
 rintro n5 t5 w5 ⟨hw,ht5,hn5⟩
 subst hw
 cases hfr:freeN S with
 |none=>
  rw [hfr] at ht5
  subst ht5
  simp only [Option.isSome_none,Bool.not_false,cond_true]
  have e:I7 S Mi Mo b=(0,7):=by unfold I7;rw [<- ht2,<- ht4,hfr];rfl
  rw [e]
  exact⟨rfl,x4 _,A,S,Mi,Mo,h4,rfl,fun x hx=> .inl hx,fun x hx=>by have:=hlt x hx;have:=x4.size;omega,by rw [if_neg (by simp)]⟩
 |some i=>
  rw [hfr] at ht5 hn5
  subst ht5
  have hn5:n5=(i:Int):=hn5
  subst hn5
  have e:I7 S Mi Mo b=((i:Int),0):=by unfold I7;rw [<- ht2,<- ht4,hfr];rfl
  rw [e]
  obtain⟨g1,g2,g3,g4,g5,g6,g7⟩:=Bind.uO 0 hfr
  have hm:=h.mx
  have hl:=h.len
  have h5:=h4.ext (Ext.drew _)
  have r5:=(r1.ext y4).drew
  simp only [sx,Option.isSome_some,Bool.not_true,h5.hd.cell,r5.cell,Int.toNat_natCast]
  refine⟨by omega,by omega,?_⟩
  refine RY h5.row g1 (some b) fun w6 row6 f6 z6=> ?_
  obtain⟨n1,n2,n3,n4,n5,n6,n7,n8,n9,n10,n11,n12,n13⟩:=h.ne
  have hp:∀x,fp A x->x≠p:=fun x hx=>by have:=hlt x hx;omega
  have hpd:=hp _ (.inl rfl)
  have hps:=hp _ (.inr (.inl rfl))
  have hd6:=(h5.hd.fr f6 n1).drew
  have r6:=(r5.fr f6 (Ne.symm hps)).drew
  simp only [List.getElem?_cons_zero,List.getElem?_cons_succ,fA,fC,ru,hd6.cell,r6.cell]
  refine wU (Rl _ _ _ _ hb.1 _) ?_
  rintro _ w7 ⟨rfl,f7⟩
  have hd7:=hd6.ext f7
  have r7:=r6.ext f7
  simp only [true_and,List.getElem?_cons_zero,List.getElem?_cons_succ,hd7.cell]
  obtain⟨LI,tI,cI⟩:=h5.tI
  obtain⟨LO,tO,cO⟩:=h5.tO
  have f67:fD w5.drew w7 (·=A.sl):=(f6.ext (Ext.drew _)).ext f7
  have tI7:=tI.fr f67 (Ne.symm n6) (Ne.symm n7)
  have tO7:=tO.fr f67 (Ne.symm n8) (Ne.symm n9)
  have hMi:Mi (Bind.keyS b.i)=none:=by cases hx:Mi (Bind.keyS b.i) with
   |none=>rfl
   |some v=>rw [hx] at ht2;cases ht2
  have hMo:Mo (Bind.keyS b.o)=none:=by cases hx:Mo (Bind.keyS b.o) with
   |none=>rfl
   |some v=>rw [hx] at ht4;cases ht4
  have z7:=f67.size
  have hdrz:w5.drew.heap.size=w5.heap.size:=rfl
  have x4z:=x4.size
  refine Ag (XI tI7 (Bind.keyS b.i) (i:Int) (wF _ (by simp [Bnd.i]))) ?_
  rintro e8 w8 (⟨rfl,hlt8,s8,L8,t8,c8,f8,hs8⟩|⟨_,_,hbad,_⟩)
  rotate_left
  ·exfalso;rw [cI] at hbad;omega
  have hd8:=(hd7.fr f8 (by rintro(h|h);exact n2 h;exact n3 h)).drew
  have r8:Row w8.drew p _:=(r7.fr f8 (by rintro(h|h);exact hp _ (.inr (.inr (.inl rfl))) h.symm;exact hp _ (.inr (.inr (.inr (.inl rfl)))) h.symm)).drew
  simp only [List.getElem?_cons_zero,List.getElem?_cons_succ,fA,fC,ru,hd8.cell,r8.cell]
  refine wX (Tc _ _ _ hb.2 _) ?_
  rintro _ w9 ⟨rfl,f9⟩
  have hd9:=hd8.ext f9
  simp only [true_and,List.getElem?_cons_zero,List.getElem?_cons_succ,hd9.cell]
  have hs8':s8≠A.tu/\s8≠A.su/\s8≠A.d/\s8≠A.sl:=by
   have q1:=hlt A.tu (.inr (.inr (.inr (.inr (.inl rfl)))))
   have q2:=hlt A.su (.inr (.inr (.inr (.inr (.inr rfl)))))
   have q3:=hlt A.d (.inl rfl)
   have q4:=hlt A.sl (.inr (.inl rfl))
   rcases hs8 with h8|h8
   ·rw [h8];exact⟨n12,n13,Ne.symm n3,Ne.symm n7⟩
   ·have z47:w.heap.size<=s8:=Nat.le_trans x4z (Nat.le_trans z7 h8)
    exact⟨fun h=>by rw [h] at z47;exact Nat.lt_irrefl _ (Nat.lt_of_lt_of_le q1 z47),fun h=>by rw [h] at z47;exact Nat.lt_irrefl _ (Nat.lt_of_lt_of_le q2 z47),fun h=>by rw [h] at z47;exact Nat.lt_irrefl _ (Nat.lt_of_lt_of_le q3 z47),fun h=>by rw [h] at z47;exact Nat.lt_irrefl _ (Nat.lt_of_lt_of_le q4 z47)⟩
  have f89:fD w7 w9 (fun x=>x=A.ti\/x=A.si):=(f8.ext (Ext.drew _)).ext f9
  have tO9:=tO7.fr f89 (by rintro(h|h);exact n10 h.symm;exact n12 h.symm) (by rintro(h|h);exact n11 h.symm;exact n13 h.symm)
  have tI9:=(t8.JE (Ext.drew w8)).JE f9
  have z8:=f8.size
  have z9:=f9.size
  have hdrz8:w8.drew.heap.size=w8.heap.size:=rfl
  refine Ag (XI tO9 (Bind.keyS b.o) (i:Int) (wF _ (by simp [Bnd.o]))) ?_
  rintro e10 w10 (⟨rfl,hlt10,s10,L10,t10,c10,f10,hs10⟩|⟨_,_,hbad,_⟩)
  rotate_left
  ·exfalso;rw [cO] at hbad;omega
  have hs10':s10≠A.ti/\s10≠s8/\s10≠A.d/\s10≠A.sl:=by
   have q1:=hlt A.ti (.inr (.inr (.inl rfl)))
   have q2:=hlt A.su (.inr (.inr (.inr (.inr (.inr rfl)))))
   have q3:=hlt A.d (.inl rfl)
   have q4:=hlt A.sl (.inr (.inl rfl))
   have q5:s8<w9.heap.size:=by
    have:s8<w8.heap.size:=by
     by_cases hL:L8=[]
     ·rw [t8.nils hL];exact t8.ht.hd.lt
     ·exact(t8.ht.row hL).lt
    exact Nat.lt_of_lt_of_le this z9
   rcases hs10 with h10|h10
   ·rw [h10];exact⟨Ne.symm n11,Ne.symm hs8'.2.1,Ne.symm n5,Ne.symm n9⟩
   ·have z49:w.heap.size<=s10:=Nat.le_trans x4z (Nat.le_trans z7 (Nat.le_trans z8 (Nat.le_trans z9 h10)))
    exact⟨fun h=>by rw [h] at z49;exact Nat.lt_irrefl _ (Nat.lt_of_lt_of_le q1 z49),fun h=>by rw [h] at h10;exact Nat.lt_irrefl _ (Nat.lt_of_lt_of_le q5 h10),fun h=>by rw [h] at z49;exact Nat.lt_irrefl _ (Nat.lt_of_lt_of_le q3 z49),fun h=>by rw [h] at z49;exact Nat.lt_irrefl _ (Nat.lt_of_lt_of_le q4 z49)⟩
  have hd10:=hd9.fr f10 (by rintro(h|h);exact n4 h;exact n5 h)
  simp only [List.getElem?_cons_zero,List.getElem?_cons_succ,fA,fC,hd10.cell]
  have hll:=Bind.jT S 0
  rw [wrap_i64 (by omega) (by omega)]
  refine gu hd10 rfl (by simp) fun w11 hd11 f11 z11=> ?_
  simp only [List.set_cons_zero,List.set_cons_succ] at hd11
  have f11d:=f11 (·=A.d) rfl
  have hlen':(live 0 (S.set i (some b))).length=(live 0 S).length+1:=by
   rw [g7 b]
   simp only [List.length_append,List.length_cons,List.length_take,List.length_drop];omega
  have tI11:TB w11 A.ti s8 L8 most (Go.Proofs.upd Mi (Bind.keyS b.i) (some (i:Int))):=(tI9.fr f10 (by rintro(h|h);exact n10 h;exact n11 h) (by rintro(h|h);exact hs8'.1 h;exact hs8'.2.1 h)).fr f11d (Ne.symm n2) hs8'.2.2.1
  have tO11:TB w11 A.tu s10 L10 most (Go.Proofs.upd Mo (Bind.keyS b.o) (some (i:Int))):=t10.fr f11d (Ne.symm n4) hs10'.2.2.1
  have row11:Row w11 A.sl ((S.set i (some b)).flatMap iJ):=((((row6.ext (Ext.drew _)).ext f7).fr f89 (by rintro(h|h);exact n6 h;exact n7 h)).fr f10 (by rintro(h|h);exact n8 h;exact n9 h)).fr f11d (Ne.symm n1)
  have zb:w5.drew.heap.size<=w7.heap.size:=f67.size
  have ftot:fD w w11 (fp A):=by
   have q1:fD w w7 (fp A):=((x4.trans (Ext.drew w5)) _).trans f67 fun x _ hx=> .inr (.inl hx)
   have q2:fD w w9 (fp A):=q1.trans f89 fun x _ hx=>by
    rcases hx with hx|hx
    ·exact .inr (.inr (.inl hx))
    ·exact .inr (.inr (.inr (.inl hx)))
   have q3:fD w w10 (fp A):=q2.trans f10 fun x _ hx=>by
    rcases hx with hx|hx
    ·exact .inr (.inr (.inr (.inr (.inl hx))))
    ·exact .inr (.inr (.inr (.inr (.inr hx))))
   exact q3.trans f11d fun x _ hx=> .inl hx
  have zt:=ftot.size
  have eu:∀M k v,Go.Proofs.upd M k v=Gp.Bind.upd M k v:=fun _ _ _=>rfl
  rw [eu] at tI11 tO11
  have db:DB w11 ⟨A.d,A.sl,A.ti,s8,A.tu,s10⟩ most (S.set i (some b)) (Gp.Bind.upd Mi (Bind.keyS b.i) (some (i:Int))) (Gp.Bind.upd Mo (Bind.keyS b.o) (some (i:Int))):=by
   refine⟨?_,row11,by rw [List.length_set];exact hl,hm,⟨L8,tI11,?_⟩,⟨L10,tO11,?_⟩,h.good.add g2 hb hMi hMo,?_⟩
   ·rw [hlen'];simpa using hd11
   ·rw [c8,hlen',hMi,cI];rfl
   ·rw [c10,hlen',hMo,cO];rfl
   ·exact⟨n1,n2,Ne.symm hs8'.2.2.1,n4,Ne.symm hs10'.2.2.1,n6,Ne.symm hs8'.2.2.2,n8,Ne.symm hs10'.2.2.2,n10,Ne.symm hs10'.1,hs8'.1,Ne.symm hs10'.2.1⟩
  refine⟨ftot,_,_,_,_,db,rfl,?_,?_,by simp⟩
  ·intro x hx
   rcases hx with hx|hx|hx|hx|hx|hx
   ·exact .inl (.inl hx)
   ·exact .inl (.inr (.inl hx))
   ·exact .inl (.inr (.inr (.inl hx)))
   ·have hx:x=s8:=hx
    rcases hs8 with h8|h8
    ·exact .inl (.inr (.inr (.inr (.inl (hx.trans h8)))))
    ·right;rw [hx];exact Nat.le_trans x4z (Nat.le_trans z7 h8)
   ·exact .inl (.inr (.inr (.inr (.inr (.inl hx)))))
   ·have hx:x=s10:=hx
    rcases hs10 with h10|h10
    ·exact .inl (.inr (.inr (.inr (.inr (.inr (hx.trans h10))))))
    ·right;rw [hx];exact Nat.le_trans x4z (Nat.le_trans z7 (Nat.le_trans z8 (Nat.le_trans z9 h10)))
  ·intro x hx
   have tlt:∀{w0:World} {b s:Nat} {L:List uY} {m:Int} {M:ByteArray->Option Int},TB w0 b s L m M->s<w0.heap.size:=by
    intro w0 b s L m M t
    by_cases hL:L=[]
    ·rw [t.nils hL];exact t.ht.hd.lt
    ·exact(t.ht.row hL).lt
   have lt:∀y,fp A y->y<w11.heap.size:=fun y hy=>Nat.lt_of_lt_of_le (hlt y hy) zt
   rcases hx with hx|hx|hx|hx|hx|hx
   ·exact lt x (.inl hx)
   ·exact lt x (.inr (.inl hx))
   ·exact lt x (.inr (.inr (.inl hx)))
   ·have hx:x=s8:=hx
    rw [hx];exact tlt tI11
   ·exact lt x (.inr (.inr (.inr (.inr (.inl hx)))))
   ·have hx:x=s10:=hx
    rw [hx];exact tlt tO11
end
end Go.Proofs
end
section
namespace Go.Proofs
open Gp Gp.Hash
open Gp.Bind (Bnd Slots live GoodB freeN getS In64)
set_option maxRecDepth 100000
section
variable {w w':World} {A:Tn} {most:Nat} {S:Slots} {Mi Mo:ByteArray->Option Int}
theorem Oj {S:Slots} {id:Int} (h:id<0\/(S.length:Int)<=id):getS S id=none:=by
 unfold Gp.Bind.getS
 split
 ·rw [List.getElem?_eq_none (by omega)];rfl
 ·rfl
theorem XR {S:Slots} {id:Int} (h0:0<=id) {o:Option Bnd} (h:S[id.toNat]? =some o):getS S id=o:=by
 unfold Gp.Bind.getS
 rw [if_pos h0,h];rfl
theorem Xo (h:DB w A most S Mi Mo) (id:Int):pU (some ⟨A.d,0,none⟩) id w fun r w'=>r=(getS S id).isSome/\w'=w:=by
 apply OX
 have hl:=h.len
 refine lF (yZ h) ?_
 rintro _ w2 ⟨rfl,hw⟩
 subst hw
 simp only [cond_true]
 by_cases c1:id>=0
 ·simp only [sx,c1,decide_true,h.hd.cell]
  by_cases c2:id<(most:Int)
  ·have hS:S[id.toNat]? =some S[id.toNat]:=List.getElem?_eq_getElem (by omega)
   generalize S[id.toNat]=o at hS
   simp only [c2,decide_true,cond_true,fA,uf,h.slot hS 8 (by omega),IG]
   refine⟨by first|trivial|omega,by first|trivial|omega,?_,by trivial⟩
   rw [XR c1 hS]
  ·simp only [c2,decide_false,cond_false]
   exact⟨by rw [Oj (.inr (by omega))];rfl,by trivial⟩
 ·simp only [c1,decide_false,cond_false]
  exact⟨by rw [Oj (.inl (by omega))];rfl,by trivial⟩
def aeh (b:Bnd) (a1 a2 a3 a4 a5 a6 a7:Int) (a8:Bool):Prop:=a1=b.sw/\a2=b.pr/\a3=b.ad/\a4=b.po/\a5=b.opr/\a6=b.oad/\a7=b.opo/\a8=b.st
def aeg:Bnd:=⟨0,0,0,0,0,0,0,false⟩
theorem XL (h:DB w A most S Mi Mo) (id:Int):pV (some ⟨A.d,0,none⟩) id w fun a1 a2 a3 a4 a5 a6 a7 a8 r w'=>r=(getS S id).isSome/\aeh ((getS S id).getD aeg) a1 a2 a3 a4 a5 a6 a7 a8/\Ext w w':=by
 apply PG
 have hl:=h.len
 refine fK fun p w1 r1 e1 z1 f1=> ?_
 have h1:=h.ext f1
 refine DW (Xo h1 id) ?_
 rintro _ w2 ⟨rfl,hw⟩
 subst hw
 cases hg:getS S id with
 |none=>
  simp only [Option.isSome_none,Bool.not_false,cond_true]
  refine fP r1 rfl rfl fun w3 r3 f3 _=> ?_
  simp only [sx,true_and,r3.cell]
  exact⟨⟨rfl,rfl,rfl,rfl,rfl,rfl,rfl,rfl⟩,f1.new (f3 (·=p) rfl) fun y hy e=>by omega⟩
 |some b=>
  obtain⟨g0,g1⟩:=Gp.Bind.Bv.1 hg
  have gl:=(List.getElem?_eq_some_iff.1 g1).1
  have c:∀j,j<9->_:=h1.slot g1
  have c0:=c 0 (by omega)
  have c1:=c 1 (by omega)
  have c2:=c 2 (by omega)
  have c3:=c 3 (by omega)
  have c4:=c 4 (by omega)
  have c5:=c 5 (by omega)
  have c6:=c 6 (by omega)
  have c7:=c 7 (by omega)
  simp only [Nat.add_zero] at c0
  simp only [sx,Option.isSome_some,Bool.not_true,h1.hd.cell,c0,c1,c2,c3,c4,c5,c6,c7,iJ]
  refine⟨by omega,by omega,fP r1 rfl rfl fun w3 r3 f3 _=> ?_⟩
  simp only [true_and,List.getElem?_cons_zero,List.getElem?_cons_succ,fA,fC,uf,r3.cell]
  exact⟨⟨rfl,rfl,rfl,rfl,rfl,rfl,rfl,rfl⟩,f1.new (f3 (·=p) rfl) fun y hy e=>by omega⟩
theorem VR (h:DB w A most S Mi Mo) (id:Int) (hlt:∀x,fp A x->x<w.heap.size):
  nN (some ⟨A.d,0,none⟩) id w fun r w'=>r=(getS S id).isSome/\fD w w' (fp A)/\∃Mi' Mo',DB w' A most (if (getS S id).isSome then S.set id.toNat none else S) Mi' Mo':=by
 apply Jg
 have hl:=h.len
 have hm:=h.mx
 refine DW (Xo h id) ?_
 rintro _ w1 ⟨rfl,hw⟩
 subst hw
 cases hg:getS S id with
 |none=>
  simp only [Option.isSome_none,Bool.not_false,cond_true]
  exact⟨by trivial,fD.refl _ _,Mi,Mo,by simpa using h⟩
 |some b=>
  obtain⟨g0,g1⟩:=Gp.Bind.Bv.1 hg
  have gl:=(List.getElem?_eq_some_iff.1 g1).1
  have hb:=h.good.ok _ _ g1
  have c:∀j,j<9->_:=h.slot g1
  have c0:=c 0 (by omega)
  have c1:=c 1 (by omega)
  have c2:=c 2 (by omega)
  have c3:=c 3 (by omega)
  have c4:=c 4 (by omega)
  have c5:=c 5 (by omega)
  have c6:=c 6 (by omega)
  have c7:=c 7 (by omega)
  have c8:=c 8 (by omega)
  simp only [Nat.add_zero] at c0
  simp only [sx,Option.isSome_some,Bool.not_true,h.hd.cell,c0,c1,c2,c3,c4,c5,c6,c7,c8,iJ]
  refine⟨by omega,by omega,Cc rfl rfl fun p w2 r2 e2 z2 f2=> ?_⟩
  have x2:Ext w1 w2.drew:=f2.trans (Ext.drew _)
  have h2:=h.ext x2
  have r2d:=r2.drew
  simp only [sx,h2.hd.cell,r2d.cell]
  refine wU (Rl _ _ _ _ hb.1 _) ?_
  rintro _ w3 ⟨rfl,f3⟩
  have h3:=h2.ext f3
  have r3:=r2d.ext f3
  simp only [true_and,List.getElem?_cons_zero,List.getElem?_cons_succ,h3.hd.cell]
  obtain⟨LI,tI,cI⟩:=h3.tI
  obtain⟨n1,n2,n3,n4,n5,n6,n7,n8,n9,n10,n11,n12,n13⟩:=h.ne
  have hp:∀x,fp A x->x≠p:=fun x hx e=>by have:=hlt x hx;rw [e,e2] at this;exact Nat.lt_irrefl _ this
  refine yh (Oh tI (Bind.keyS b.i) (wF _ (by simp [Bnd.i]))) ?_
  rintro _ w4 ⟨_,⟨L4,t4,c4'⟩,f4⟩
  have hMi:Mi (Bind.keyS b.i)=some (id.toNat:Int):=(h.good.i _ _).2 ⟨_,b,g1,rfl,rfl⟩
  have hMo:Mo (Bind.keyS b.o)=some (id.toNat:Int):=(h.good.o _ _).2 ⟨_,b,g1,rfl,rfl⟩
  have hd4:=(h3.hd.fr f4 (by rintro(h|h);exact n2 h;exact n3 h)).drew
  have r4:Row w4.drew p _:=(r3.fr f4 (by rintro(h|h);exact hp _ (.inr (.inr (.inl rfl))) h.symm;exact hp _ (.inr (.inr (.inr (.inl rfl)))) h.symm)).drew
  simp only [List.getElem?_cons_zero,List.getElem?_cons_succ,fA,fC,ru,hd4.cell,r4.cell]
  refine wX (Tc _ _ _ hb.2 _) ?_
  rintro _ w5 ⟨rfl,f5⟩
  have hd5:=hd4.ext f5
  simp only [true_and,List.getElem?_cons_zero,List.getElem?_cons_succ,hd5.cell]
  have f45:fD w3 w5 (fun x=>x=A.ti\/x=A.si):=(f4.ext (Ext.drew _)).ext f5
  obtain⟨LO,tO,cO⟩:=h3.tO
  have tO5:=tO.fr f45 (by rintro(h|h);exact n10 h.symm;exact n12 h.symm) (by rintro(h|h);exact n11 h.symm;exact n13 h.symm)
  have tI5:=(t4.JE (Ext.drew _)).JE f5
  refine yh (Oh tO5 (Bind.keyS b.o) (wF _ (by simp [Bnd.o]))) ?_
  rintro _ w6 ⟨_,⟨L6,t6,c6'⟩,f6⟩
  have hd6:=hd5.fr f6 (by rintro(h|h);exact n4 h;exact n5 h)
  have row6:Row w6 A.sl (S.flatMap iJ):=((h3.row.fr f45 (by rintro(h|h);exact n6 h;exact n7 h)).fr f6 (by rintro(h|h);exact n8 h;exact n9 h))
  simp only [sx,hd6.cell]
  refine⟨by omega,by omega,?_⟩
  refine RY row6 gl none fun w7 row7 f7 z7=> ?_
  have hd7:=hd6.fr f7 n1
  simp only [List.getElem?_cons_zero,List.getElem?_cons_succ,fA,fC,hd7.cell]
  have hlen:=Gp.Bind.mP 0 g1
  have hll:=Gp.Bind.jT S 0
  rw [wrap_i64 (by omega) (by omega)]
  refine gu hd7 rfl (by simp) fun w8 hd8 f8 z8=> ?_
  simp only [List.set_cons_zero,List.set_cons_succ] at hd8
  have f8d:=f8 (·=A.d) rfl
  have eu:∀M k v,Go.Proofs.upd M k v=Gp.Bind.upd M k v:=fun _ _ _=>rfl
  have tI8:=((tI5.fr f6 (by rintro(h|h);exact n10 h;exact n11 h) (by rintro(h|h);exact n12 h;exact n13 h)).fr f7 (Ne.symm n6) (Ne.symm n7)).fr f8d (Ne.symm n2) (Ne.symm n3)
  have tO8:=(t6.fr f7 (Ne.symm n8) (Ne.symm n9)).fr f8d (Ne.symm n4) (Ne.symm n5)
  rw [eu] at tI8 tO8
  have ff:fD w1 w8 (fp A):=by
   have q1:fD w1 w5 (fp A):=((x2.trans f3) _).trans f45 fun x _ hx=>by
    rcases hx with hx|hx
    ·exact .inr (.inr (.inl hx))
    ·exact .inr (.inr (.inr (.inl hx)))
   have q2:fD w1 w6 (fp A):=q1.trans f6 fun x _ hx=>by
    rcases hx with hx|hx
    ·exact .inr (.inr (.inr (.inr (.inl hx))))
    ·exact .inr (.inr (.inr (.inr (.inr hx))))
   exact(q2.trans f7 fun x _ hx=> .inr (.inl hx)).trans f8d fun x _ hx=> .inl hx
  have e:((live 0 S).length:Int) - 1=((live 0 (S.set id.toNat none)).length:Int):=by omega
  rw [e] at hd8
  rw [hMi] at c4'
  rw [hMo] at c6'
  simp only [Option.isSome_some,if_true] at c4' c6'
  have db:DB w8 A most (S.set id.toNat none) (Gp.Bind.upd Mi (Bind.keyS b.i) none) (Gp.Bind.upd Mo (Bind.keyS b.o) none):=
   ⟨hd8,row7.fr f8d (Ne.symm n1),by rw [List.length_set];exact hl,hm,⟨L4,tI8,by omega⟩,⟨L6,tO8,by omega⟩,h.good.remove g1,h.ne⟩
  exact⟨ff,_,_,db⟩
def yD (L:List (Int×Bnd)):List (DC [.one (.int .i64),.agg [(.int .i64),(.int .i64),(.int .i64),(.int .i64),(.int .i64),(.int .i64),(.int .i64),.bool]]):=
 L.map fun x=>(x.1,(x.2.sw,x.2.pr,x.2.ad,x.2.po,x.2.opr,x.2.oad,x.2.opo,x.2.st,()),())
theorem kG:∀(S T:Slots) (k:Nat),live k (S++T)=live k S++live (k+S.length) T
 |[],T,k=>by simp [live]
 |none::r,T,k=>by rw [List.cons_append,live,live,kG r T (k+1)];simp;congr 1;omega
 |some b::r,T,k=>by rw [List.cons_append,live,live,kG r T (k+1)];simp;congr 1;omega
theorem TD {S:Slots} {i:Nat} {b:Bnd} (h:S[i]? =some (some b)):(live 0 S)[(live 0 (S.take i)).length]? =some ((i:Int),b)/\(live 0 (S.take (i+1))).length=(live 0 (S.take i)).length+1:=by
 have hlt:=(List.getElem?_eq_some_iff.1 h).1
 have hS:S[i]=some b:=by rw [List.getElem?_eq_getElem hlt] at h;simpa using h
 have e1:S=S.take i++some b::S.drop (i+1):=by
  conv=>lhs;rw [<- List.take_append_drop i S,List.drop_eq_getElem_cons hlt,hS]
 have hl:(S.take i).length=i:=by simp;omega
 constructor
 ·conv=>lhs;rw [e1]
  rw [kG,List.getElem?_append_right (by simp [hl])]
  simp [live,hl]
 ·rw [List.take_succ_eq_append_getElem hlt,hS,kG]
  simp [live]
theorem KJ {S:Slots} {i:Nat} (h:S[i]? =some none):(live 0 (S.take (i+1))).length=(live 0 (S.take i)).length:=by
 have hlt:=(List.getElem?_eq_some_iff.1 h).1
 have hS:S[i]=none:=by rw [List.getElem?_eq_getElem hlt] at h;simpa using h
 rw [List.take_succ_eq_append_getElem hlt,hS,kG]
 simp [live]
theorem N_ (most:Nat) (S:Slots) (Mi Mo:ByteArray->Option Int) (A:Tn) (f0:Nat):
  n_ Tryz.prog [.one (.int .i64),.agg [(.int .i64),(.int .i64),(.int .i64),(.int .i64),(.int .i64),(.int .i64),(.int .i64),.bool]] (Value.func (.func Dq) #[] #[(Value.pointer (some ⟨f0,0,none⟩))])
   (fun W=>Row W f0 [.pointer (some ⟨A.d,0,none⟩)]/\DB W A most S Mi Mo) (yD (live 0 S)):=by
 refine⟨by kernel_rfl,fun n Q D hC hQ hD hy w h0=> ?_⟩
 refine Calls.mono (KH (a0:= .func (.yield n) #[] #[]) (f0:=⟨f0,0,none⟩) (K:=fun w'=>Q (yD (live 0 S)).length w'\/D w') ?_) (fun e w' h=>h)
 obtain⟨r0,h⟩:=hC _ _ h0
 have hl:=h.len
 have hm:=h.mx
 simp only [sx,r0.cell]
 refine lF (yZ h) ?_
 rintro _ w2 ⟨rfl,hw⟩
 subst hw
 simp only [sx,Bool.not_true,r0.cell,h.hd.cell]
 have hyl:(yD (live 0 S)).length=(live 0 S).length:=by simp [yD]
 rw [hyl]
 refine fE (fun st W=>∃i:Nat,i<=most/\st.1=(i:Int)/\Q (live 0 (S.take i)).length W) (fun st _=>most - st.1.toNat) ⟨0,by omega,rfl,by simpa [live] using h0⟩ ?_
 rintro⟨x,⟨⟩⟩ W ⟨i,hi,rfl,hq⟩ next hnext
 obtain⟨r0,h⟩:=hC _ _ hq
 by_cases hlt:i<most
 ·have hlt':((i:Int)<(most:Int)):=by omega
  have hS:S[i]? =some S[i]:=List.getElem?_eq_getElem (by omega)
  generalize S[i]=o at hS
  have c:∀j,j<9->_:=h.slot hS
  have c0:=c 0 (by omega)
  have c1:=c 1 (by omega)
  have c2:=c 2 (by omega)
  have c3:=c 3 (by omega)
  have c4:=c 4 (by omega)
  have c5:=c 5 (by omega)
  have c6:=c 6 (by omega)
  have c7:=c 7 (by omega)
  have c8:=c 8 (by omega)
  simp only [Nat.add_zero] at c0
  cases o with
  |none=>
   simp only [hlt',decide_true,cond_true,List.getElem?_cons_zero,List.getElem?_cons_succ,fA,fC,uf,Int.toNat_natCast,c0,c1,c2,c3,c4,c5,c6,c7,c8,iJ]
   refine⟨by omega,by trivial,Cc rfl rfl fun p w3 r3 e3 z3 f3=> ?_⟩
   simp only [sx,r3.cell]
   rw [wrap_i64 (by omega) (by omega)]
   refine hnext _ _ ⟨i+1,by omega,by simp,?_⟩ (by simp only;omega)
   rw [KJ hS]
   exact hQ _ _ _ hq f3
  |some b=>
   simp only [hlt',decide_true,cond_true,List.getElem?_cons_zero,List.getElem?_cons_succ,fA,fC,uf,Int.toNat_natCast,c0,c1,c2,c3,c4,c5,c6,c7,c8,iJ]
   refine⟨by omega,by trivial,Cc rfl rfl fun p w3 r3 e3 z3 f3=> ?_⟩
   simp only [sx,r3.cell]
   obtain⟨g1,g2⟩:=TD hS
   refine oK (hy (live 0 (S.take i)).length ((i:Int),(b.sw,b.pr,b.ad,b.po,b.opr,b.oad,b.opo,b.st,()),()) w3 _ ?_ (hQ _ _ _ hq f3) ?_ ?_)
   ·simp only [yD,List.getElem?_map,g1,Option.map_some]
   ·intro W' hq'
    refine⟨true,rfl,?_⟩
    simp only [Bool.not_true,cond_false]
    rw [wrap_i64 (by omega) (by omega)]
    exact hnext _ _ ⟨i+1,by omega,by simp,by rw [g2];exact hq'⟩ (by simp only;omega)
   ·intro W' hd
    refine⟨false,rfl,?_⟩
    simp only [Bool.not_false,cond_true]
    exact .inr hd
 ·have hlt':¬((i:Int)<(most:Int)):=by omega
  simp only [hlt',decide_false,cond_false]
  rw [List.take_of_length_le (by omega)] at hq
  exact .inl hq
theorem abL (n:Int) (w:World):zS n w fun p e w'=>Ext w w'/\((¬(0<=n/\n<=4096)/\p=none/\e=1)\/(0<=n/\n<=4096/\e=0/\∃A,p=some ⟨A.d,0,none⟩/\(∀x,fp A x->w.heap.size<=x/\x<w'.heap.size)/\DB w' A n.toNat (List.replicate n.toNat none) (fun _=>none) (fun _=>none))):=by
 apply Uy
 by_cases c1:n<0
 ·simp only [c1,decide_true,cond_true]
  exact⟨Ext.refl _,.inl ⟨by omega,by trivial,by trivial⟩⟩
 by_cases c2:n>4096
 ·simp only [c1,c2,decide_true,decide_false,cond_true,cond_false]
  exact⟨Ext.refl _,.inl ⟨by omega,by trivial,by trivial⟩⟩
 simp only [c1,c2,decide_false,cond_false]
 refine E_ (Ro n w) ?_
 rintro p1 e1 w1 ⟨f1,(⟨_,_,rfl,ti,rfl,l1,t1⟩|⟨hbad,_,_⟩)⟩
 rotate_left
 ·omega
 refine E_ (Ro n w1) ?_
 rintro p2 e2 w2 ⟨f2,(⟨_,_,rfl,tu,rfl,l2,t2⟩|⟨hbad,_,_⟩)⟩
 rotate_left
 ·omega
 simp only [show ((0:Int) !=0)=false from rfl,cond_false]
 refine E5 (by omega) (by omega) (by omega) (by omega) fun sl w3 r3 e3 z3 f3=> ?_
 refine fK fun d w4 r4 e4 z4 f4=> ?_
 obtain⟨m,rfl⟩:∃m:Nat,n=(m:Int):=⟨n.toNat,by omega⟩
 simp only [Int.toNat_natCast] at r3 r4 ⊢
 have f1:Ext w w1:=f1
 have f2:Ext w1 w2:=f2
 have f3:Ext w2 w3:=f3
 have x4:Ext w w4:=(f1.trans f2).trans (f3.trans f4)
 have i1:=t1.ht.hd.lt
 have i2:=t2.ht.hd.lt
 have s1:=f1.size
 have s2:=f2.size
 have qJ:∀(k j:Nat),live j (List.replicate k none)=[]:=by
  intro k
  induction k with
  |zero=>intro j;rfl
  |succ k ih=>intro j;rw [List.replicate_succ,live];exact ih _
 have rep:∀k,fH [Value.int .i64 0,Value.int .i64 0,Value.int .i64 0,Value.int .i64 0,Value.int .i64 0,Value.int .i64 0,Value.int .i64 0,Value.bool false,Value.bool false] k=(List.replicate k (none:Option Bnd)).flatMap iJ:=by
  intro k
  induction k with
  |zero=>rfl
  |succ k ih=>rw [fH,ih,List.replicate_succ,List.flatMap_cons];rfl
 refine⟨x4,.inr ⟨by omega,by omega,by trivial,⟨d,sl,ti,ti,tu,tu⟩,rfl,?_,?_⟩⟩
 ·intro x hx
  rcases hx with hx|hx|hx|hx|hx|hx<;>simp only at hx<;>omega
 ·refine⟨?_,?_,by simp,by omega,⟨[],?_,?_⟩,⟨[],?_,?_⟩,⟨fun k v=> ?_,fun k v=> ?_,fun j b hb=> ?_⟩,?_⟩
  ·rw [qJ];exact r4
  ·rw [<- rep];exact r3.ext f4
  ·exact t1.JE (f2.trans (f3.trans f4))
  ·rw [qJ];rfl
  ·exact t2.JE (f3.trans f4)
  ·rw [qJ];rfl
  ·constructor
   ·intro h;cases h
   ·rintro⟨j,b,hj,_⟩
    rw [List.getElem?_replicate] at hj
    split at hj<;>simp at hj
  ·constructor
   ·intro h;cases h
   ·rintro⟨j,b,hj,_⟩
    rw [List.getElem?_replicate] at hj
    split at hj<;>simp at hj
  ·rw [List.getElem?_replicate] at hb
   split at hb<;>simp at hb
  ·refine⟨?_,?_,?_,?_,?_,?_,?_,?_,?_,?_,?_,?_,?_⟩<;>simp only<;>omega
end
end Go.Proofs
end
section
namespace Gp.Ses
open Gp.V4
open Gp.Bind (keyB keyS In64 upd)
structure Ses where
 bd:Int
 st:Int
 un:Int
 ra:Int
 rp:Int
deriving DecidableEq
def Ses.k (b:Ses):List Int:=[b.bd,b.ra,b.rp]
def Ses.ok (b:Ses):Prop:=∀n∈b.k,In64 n
abbrev Slots:=List (Option Ses)
def live:Nat->Slots->List (Int×Ses)
 |_,[]=>[]
 |i,none::r=>live (i+1) r
 |i,some b::r=>((i:Int),b)::live (i+1) r
theorem nX:∀{S:Slots} {k:Nat} {v:Int} {b:Ses},(v,b)∈live k S↔∃i:Nat,S[i]? =some (some b)/\v=((k+i:Nat):Int)
 |[],k,v,b=>by simp [live]
 |none::r,k,v,b=>by
  rw [live,nX]
  constructor
  ·rintro⟨i,h1,h2⟩
   exact⟨i+1,by simpa using h1,by omega⟩
  ·rintro⟨i,h1,h2⟩
   cases i with
   |zero=>simp at h1
   |succ i=>exact⟨i,by simpa using h1,by omega⟩
 |some c::r,k,v,b=>by
  rw [live,List.mem_cons,nX]
  constructor
  ·rintro(h|⟨i,h1,h2⟩)
   ·simp only [Prod.mk.injEq] at h
    exact⟨0,by simp [h.2],by omega⟩
   ·exact⟨i+1,by simpa using h1,by omega⟩
  ·rintro⟨i,h1,h2⟩
   cases i with
   |zero=>
    simp only [List.getElem?_cons_zero,Option.some.injEq] at h1
    left;rw [h1,h2];rfl
   |succ i=>right;exact⟨i,by simpa using h1,by omega⟩
theorem jT:∀(S:Slots) (k:Nat),(live k S).length<=S.length
 |[],_=>by simp [live]
 |none::r,k=>by have:=jT r (k+1);simp [live];omega
 |some b::r,k=>by have:=jT r (k+1);simp [live];omega
def freeN:Slots->Option Nat
 |[]=>none
 |none::_=>some 0
 |some _::r=>(freeN r).map (·+1)
theorem uO:∀{S:Slots} {i:Nat} (k:Nat),freeN S=some i->i<S.length/\S[i]? =some none/\(live k S).length<S.length/\i<=(live k S).length/\(∀j,j<i->∃b,(live k S)[j]? =some (((k+j:Nat):Int),b)/\S[j]? =some (some b))/\
  (∀v b,(live k S)[i]? =some (v,b)->v≠((k+i:Nat):Int))/\∀b,live k (S.set i (some b))=(live k S).take i++(((k+i:Nat):Int),b)::(live k S).drop i
 |[],i,_,h=>by simp [freeN] at h
 |none::r,i,k,h=>by
  simp [freeN] at h
  subst h
  have hl:=jT r (k+1)
  refine⟨by simp,rfl,by simp [live];omega,by omega,by omega,fun v b hv=> ?_,fun b=>by simp [live]⟩
  have:=List.mem_of_getElem? hv
  rw [live,nX] at this
  obtain⟨j,_,hj⟩:=this
  omega
 |some c::r,i,k,h=>by
  simp only [freeN,Option.map_eq_some_iff] at h
  obtain⟨i',h',rfl⟩:=h
  obtain⟨h1,h2,h3,h4,h5,h6,h7⟩:=uO (k+1) h'
  refine⟨by simp;omega,by simpa using h2,by simp [live];omega,by simp [live];omega,fun j hj=> ?_,fun v b hv=> ?_,fun b=> ?_⟩
  ·cases j with
   |zero=>exact⟨c,by simp [live],by simp⟩
   |succ j=>
    obtain⟨b,g1,g2⟩:=h5 j (by omega)
    refine⟨b,?_,by simpa using g2⟩
    rw [live,List.getElem?_cons_succ,g1,show k+1+j=k+(j+1) by omega]
  ·rw [live,List.getElem?_cons_succ] at hv
   have:=h6 v b hv
   rwa [show k+1+i'=k+(i'+1) by omega] at this
  ·rw [List.set_cons_succ,live,h7 b,live,List.take_succ_cons,List.drop_succ_cons,show k+1+i'=k+(i'+1) by omega]
   rfl
theorem mP:∀{S:Slots} {i:Nat} {b:Ses} (k:Nat),S[i]? =some (some b)->(live k (S.set i none)).length+1=(live k S).length
 |[],_,_,_,h=>by simp at h
 |c::r,0,b,k,h=>by
  simp at h;subst h;simp [live]
 |none::r,i+1,b,k,h=>by
  rw [List.set_cons_succ,live,live];exact mP (k+1) (by simpa using h)
 |some c::r,i+1,b,k,h=>by
  rw [List.set_cons_succ,live,live,List.length_cons,List.length_cons,mP (k+1) (by simpa using h)]
structure GoodS (S:Slots) (M:ByteArray->Option Int):Prop where
 k:∀k v,M k=some v↔∃(j:Nat) (b:Ses),S[j]? =some (some b)/\keyS b.k=k/\v=(j:Int)
 ok:∀(j:Nat) (b:Ses),S[j]? =some (some b)->b.ok
theorem fU {S:Slots} {i j:Nat} {v:Option Ses} (hi:i<S.length):(S.set i v)[j]? =if i=j then some v else S[j]? :=by
 rw [List.getElem?_set]
 split
 ·rename_i h;subst h;simp []
 ·rfl
theorem GoodS.add {S:Slots} {M:ByteArray->Option Int} (h:GoodS S M) {i:Nat} {b:Ses} (hi:S[i]? =some none) (hb:b.ok) (h1:M (keyS b.k)=none):GoodS (S.set i (some b)) (upd M (keyS b.k) (some i)):=by
 have hl:i<S.length:=(List.getElem?_eq_some_iff.1 hi).1
 refine⟨fun k v=> ?_,fun j c hc=> ?_⟩
 ·unfold upd
  by_cases hk:k=keyS b.k
  ·rw [if_pos hk]
   constructor
   ·intro e;exact⟨i,b,by rw [fU hl,if_pos rfl],hk.symm,by simpa using e.symm⟩
   ·rintro⟨j,c,hc,hk2,rfl⟩
    rw [fU hl] at hc
    split at hc
    ·rename_i e;subst e;rfl
    ·have:=(h.k k j).2 ⟨j,c,hc,hk2,rfl⟩
     rw [hk,h1] at this;cases this
  ·rw [if_neg hk,h.k]
   constructor
   ·rintro⟨j,c,hc,hk2,rfl⟩
    refine⟨j,c,?_,hk2,rfl⟩
    rw [fU hl,if_neg]
    ·exact hc
    ·rintro rfl;rw [hi] at hc;cases hc
   ·rintro⟨j,c,hc,hk2,rfl⟩
    rw [fU hl] at hc
    split at hc
    ·rename_i e;subst e;simp only [Option.some.injEq] at hc;subst hc;exact absurd hk2.symm hk
    ·exact⟨j,c,hc,hk2,rfl⟩
 ·rw [fU hl] at hc
  split at hc
  ·simp only [Option.some.injEq] at hc;subst hc;exact hb
  ·exact h.ok j c hc
theorem GoodS.one {S:Slots} {M:ByteArray->Option Int} (h:GoodS S M) {i j:Nat} {b c:Ses} (hi:S[i]? =some (some b)) (hj:S[j]? =some (some c)) (e:keyS b.k=keyS c.k):i=j:=by
 have h1:=(h.k _ i).2 ⟨i,b,hi,rfl,rfl⟩
 have h2:=(h.k _ j).2 ⟨j,c,hj,rfl,rfl⟩
 rw [e,h2] at h1
 simp at h1;omega
theorem GoodS.remove {S:Slots} {M:ByteArray->Option Int} (h:GoodS S M) {i:Nat} {b:Ses} (hi:S[i]? =some (some b)):GoodS (S.set i none) (upd M (keyS b.k) none):=by
 have hl:i<S.length:=(List.getElem?_eq_some_iff.1 hi).1
 refine⟨fun k v=> ?_,fun j c hc=> ?_⟩
 ·unfold upd
  by_cases hk:k=keyS b.k
  ·rw [if_pos hk]
   constructor
   ·intro e;cases e
   ·rintro⟨j,c,hc,hk2,rfl⟩
    rw [fU hl] at hc
    split at hc
    ·cases hc
    ·rename_i e;exact absurd (h.one hi hc (by rw [hk2,hk])) e
  ·rw [if_neg hk,h.k]
   constructor
   ·rintro⟨j,c,hc,hk2,rfl⟩
    refine⟨j,c,?_,hk2,rfl⟩
    rw [fU hl,if_neg]
    ·exact hc
    ·rintro rfl;rw [hi] at hc;simp only [Option.some.injEq] at hc;subst hc;exact hk hk2.symm
   ·rintro⟨j,c,hc,hk2,rfl⟩
    rw [fU hl] at hc
    split at hc
    ·cases hc
    ·exact⟨j,c,hc,hk2,rfl⟩
 ·rw [fU hl] at hc
  split at hc
  ·cases hc
  ·exact h.ok j c hc
theorem GoodS.put {S:Slots} {M:ByteArray->Option Int} (h:GoodS S M) {i:Nat} {b b':Ses} (hi:S[i]? =some (some b)) (he:b'.k=b.k):GoodS (S.set i (some b')) M:=by
 have hl:i<S.length:=(List.getElem?_eq_some_iff.1 hi).1
 refine⟨fun k v=> ?_,fun j c hc=> ?_⟩
 ·rw [h.k]
  constructor
  ·rintro⟨j,c,hc,hk,rfl⟩
   by_cases e:i=j
   ·subst e
    rw [hi] at hc
    cases hc
    exact⟨i,b',by rw [fU hl,if_pos rfl],by rw [he,hk],rfl⟩
   ·exact⟨j,c,by rw [fU hl,if_neg e];exact hc,hk,rfl⟩
  ·rintro⟨j,c,hc,hk,rfl⟩
   rw [fU hl] at hc
   split at hc
   ·rename_i e;subst e;cases hc
    exact⟨i,b,hi,by rw [<- he,hk],rfl⟩
   ·exact⟨j,c,hc,hk,rfl⟩
 ·rw [fU hl] at hc
  split at hc
  ·cases hc
   have:=h.ok i b hi
   unfold Ses.ok at this ⊢
   rw [he];exact this
  ·exact h.ok j c hc
def getS (S:Slots) (id:Int):Option Ses:=if 0<=id then (S[id.toNat]?).join else none
theorem Bv {S:Slots} {id:Int} {b:Ses}:getS S id=some b↔0<=id/\S[id.toNat]? =some (some b):=by
 unfold getS
 split
 ·rename_i h
  rw [Option.join_eq_some_iff]
  simp [h]
 ·rename_i h;simp [h]
def ids (S:Slots) (k:Int):List Int:=((live 0 S).filter fun x=>x.2.bd==k).map (·.1)
theorem ab6 (S:Slots) (k:Int):(ids S k).length<=S.length:=by
 unfold ids
 rw [List.length_map]
 exact Nat.le_trans (List.length_filter_le ..) (jT S 0)
end Gp.Ses
end
section
namespace Go.Proofs.SN
open Gp Gp.Hash
set_option maxRecDepth 100000
abbrev eI (x:Int):List Value:=[.int .i64 x]
theorem jB (x:Int):(eI x).length=1:=rfl
theorem SE (x:Int):∀v∈eI x,gY v=true:=by intro v hv;rw [List.mem_singleton.1 hv];rfl
theorem jg {α:Type} {n:Nat} {f:α->List Value} {w:World} {s:b_} {xs:List α} (hn:∀x,(f x).length=n) (hn0:0<n) (h:kH n f w s xs) {i:Int} {K:Addr->Prop} {x:α} (h0:0<=i) (hx:xs[i.toNat]? =some x)
  (hK:∀a:Addr,(∀j v,(f x)[j]? =some v->w.cell? (a.add j)=some v)->K a):g_ s n i K:=by
 obtain⟨a,ha,hc⟩:=h.at_ hn hn0 hx
 have hlt:=(List.getElem?_eq_some_iff.1 hx).1
 obtain⟨sa,sl,sc⟩:=s
 simp only at ha
 subst ha
 have hl:sl=xs.length:=h.len
 refine(BR ..).2 ⟨h0,by omega,hK _ fun j v hj=> ?_⟩
 rw [<- hc j v hj]
 congr 1
 obtain⟨b,o,t⟩:=a
 unfold Addr.add
 by_cases h1:i.toNat * n=0<;>by_cases h2:j=0<;>simp [h1,h2,Nat.add_assoc]
theorem RV {w:World} {s:b_} {l:List Int} (h:kH 1 eI w s l) {k:Nat} {z:Int} (hk:l[k]? =some z) {K:Addr->Prop} (hK:∀a,w.cell? a=some (.int .i64 z)->K a):g_ s 1 (k:Int) K:=
 jg jB (by omega) h (by omega) (by rw [Int.toNat_natCast];exact hk) fun a hc=>hK a (hc 0 _ rfl)
theorem QD {w:World} {s:b_} {xs:List Int} (hs:kH 1 eI w s xs) (hl:xs.length<=2^30):
  jf s w fun r w'=>Ext w w'/\iI 1 eI w' r xs/\∀b,b_.at r b->w.heap.size<=b:=by
 apply B_
 have hlen:=hs.len
 cases ha:s.a with
 |none=>
  have hc:=hs.cells
  rw [ha] at hc
  have h0:xs.flatMap eI=[]:=hc
  have hfl:=iH eI 1 jB xs
  rw [h0] at hfl
  have:xs=[]:=by
   cases xs with
   |nil=>rfl
   |cons _ _=>simp only [List.length_cons,List.length_nil] at hfl;omega
  subst this
  simp only [Option.isNone_none,cond_true]
  exact⟨Ext.refl _,iI.nil,fun b ⟨o,hb⟩=>by cases hb⟩
 |some a=>
  simp only [Option.isNone_some,cond_false]
  refine fK fun t w1 rt et zt f1=> ?_
  have hb:iI 1 eI w1 ⟨some ⟨t,0,none⟩,0,0⟩ ([]:List Int):=iI.row (xs:=[]) rt
  refine mg jB hb (hs.ext f1) rfl (by omega) SE (by simp only [List.length_nil];omega) (by simp only [List.length_nil];omega) fun s' w' h1 h2 h3=> ?_
  refine⟨f1.new h2 fun b hb ⟨o,he⟩=>by cases he;omega,h1,fun b hb=> ?_⟩
  rcases h3 b hb with ⟨o,he⟩|h
  ·cases he;omega
  ·omega
theorem adz (m:Nat):V4.tJ 8 m=V4.tJ 4 (m / 4294967296)++V4.tJ 4 (m % 4294967296):=by
 simp only [V4.tJ,List.cons_append,List.nil_append,List.cons.injEq,and_true]
 refine⟨?_,?_,?_,?_,?_,?_,?_,?_⟩<;>apply UInt8.toNat_inj.1<;>simp<;>omega
theorem ZH {x:Int} (h:Bind.In64 x):wG .i64 (jU .i64 x 32) 4294967295=(((x % 18446744073709551616).toNat / 4294967296:Nat):Int)/\wG .i64 x 4294967295=(((x % 18446744073709551616).toNat % 4294967296:Nat):Int):=by
 obtain⟨h1,h2⟩:=h
 have low:∀y:Int,wG .i64 y 4294967295=(((y % 18446744073709551616).toNat % 4294967296:Nat):Int):=by
  intro y
  unfold wG
  have e1:(BitVec.ofInt (IntKind.bits .i64) y).toNat=(y % 18446744073709551616).toNat:=by rw [Ci,BitVec.toNat_ofInt];rfl
  have e2:(BitVec.ofInt (IntKind.bits .i64) 4294967295).toNat=2^32 - 1:=by rw [Ci,BitVec.toNat_ofInt];rfl
  rw [BitVec.toNat_and,e1,e2,RF]
  rw [wrap_i64 (by omega) (by omega)]
 refine⟨?_,low x⟩
 rw [low]
 unfold jU
 have e:(2:Int)^(min (32:Int).toNat (IntKind.bits .i64))=4294967296:=by decide
 rw [e,Int.fdiv_eq_ediv_of_nonneg _ (by omega)]
 omega
theorem wF (l:List Int) (h:l.length<=10):(Bind.keyS l).size<=2^63 - 1:=by
 have:(Bind.keyS l).size=(Bind.keyB l).length:=rfl
 rw [this,Bind.Oq];omega
end Go.Proofs.SN
end
section
namespace Go.Proofs.SN
open Gp Gp.Hash
open Gp.Ses (Ses Slots live GoodS freeN getS ids)
open Gp.Bind (In64)
set_option maxRecDepth 100000
def iJ:Option Ses->List Value
 |none=>[.int .i64 0,.int .i64 0,.int .i64 0,.int .i64 0,.int .i64 0,.bool false]
 |some b=>[.int .i64 b.bd,.int .i64 b.st,.int .i64 b.un,.int .i64 b.ra,.int .i64 b.rp,.bool true]
theorem lH (o:Option Ses):(iJ o).length=6:=by cases o<;>rfl
theorem Le (o:Option Ses):(iJ o).all gY=true:=by cases o<;>rfl
theorem IG (o:Option Ses):(iJ o)[5]? =some (.bool o.isSome):=by cases o<;>rfl
def encI (k:Int):Value:= .int .i64 k
def slV (s:b_):Value:= .slice s.a s.len s.cap
abbrev OL:=List (Int×b_)
theorem eqI (a b:Int):A_ Tryz.prog 16 3 (encI a) (encI b)=some (decide (a=b)):=by
 have h:A_ Tryz.prog 16 3 (.int .i64 a) (.int .i64 b)=some (a==b):=by kernel_rfl
 rw [encI,encI,h]
 congr 1
theorem Yh (a:Int):kZ Tryz.prog 3 (encI a)=true:=by
 have h:kZ Tryz.prog 3 (.int .i64 a)=true:=by kernel_rfl
 exact h
def ownB (l:OL) (b:Nat):Prop:=∃k s,jl l k=some s/\b_.at s b
structure KN (w:World) (m:Nat) (l:OL) (S:Slots):Prop where
 mp:oz encI slV w m l
 nd:(l.map (·.1)).Nodup
 has:∀k s,jl l k=some s->iI 1 eI w s (ids S k)
 non:∀k,jl l k=none->ids S k=[]
 ap:∀k k' s s' b,k≠k'->jl l k=some s->jl l k'=some s'->b_.at s b->¬b_.at s' b
 ne:∀b,ownB l b->b≠m
section
variable {w w':World} {m:Nat} {l:OL} {S S':Slots}
theorem KN.fr {F:Nat->Prop} (h:KN w m l S) (hf:fD w w' F) (hm:¬F m) (ho:∀b,ownB l b->¬F b):KN w' m l S:=
 ⟨h.mp.fr hf hm,h.nd,fun k s hk=>(h.has k s hk).fr hf fun b hb=>ho b ⟨k,s,hk,hb⟩,h.non,h.ap,h.ne⟩
theorem KN.lt (h:KN w m l S) {b:Nat} (hb:ownB l b):b<w.heap.size:=by
 obtain⟨k,s,hk,hs⟩:=hb
 exact(h.has k s hk).lt hs
def lkS (l:OL) (k:Int):b_:=(jl l k).getD ⟨none,0,0⟩
theorem Wj {k:Int} {b:Nat} (h:b_.at (lkS l k) b):∃s,jl l k=some s/\lkS l k=s/\b_.at s b:=by
 unfold lkS at h ⊢
 cases hl:jl l k with
 |none=>rw [hl] at h;obtain⟨o,ho⟩:=h;cases ho
 |some s=>rw [hl] at h;exact⟨s,rfl,rfl,h⟩
theorem KN.buf (h:KN w m l S) (k:Int):iI 1 eI w (lkS l k) (ids S k):=by
 unfold lkS
 cases hl:jl l k with
 |none=>rw [h.non k hl];exact iI.nil
 |some s=>exact h.has k s hl
theorem KN.get (h:KN w m l S) (k:Int) {K:b_->Prop} (hK:K (lkS l k)):sH Tryz.prog 3 .slice (some m) (.int .i64 k) (.slice none 0 0) w K:=by
 refine BP (enc:=encI) h.mp eqI k (Yh k) ?_ ?_
 ·intro hl
  rw [lkS,hl] at hK
  rw [fG];exact hK
 ·intro s hl
  rw [lkS,hl] at hK
  rw [slV,fG];exact hK
theorem KN.set (h:KN w m l S) {bd:Int} {s':b_} {F:Nat->Prop} (hf:fD w w' F) (hm:¬F m) (ho:∀b,ownB l b->F b->b_.at (lkS l bd) b) (hb:iI 1 eI w' s' (ids S' bd)) (hn:∀b,b_.at s' b->b_.at (lkS l bd) b\/w.heap.size<=b)
  (hS:∀k,k≠bd->ids S' k=ids S k) {K:World->Prop} (hK:∀w2,KN w2 m (Ej l bd s') S'->fD w' w2 (·=m)->w2.heap.size=w'.heap.size->K w2):wJ Tryz.prog 3 (some m) (.int .i64 bd) (.slice s'.a s'.len s'.cap) w' K:=by
 have mlt:=h.mp.lt
 have old:∀b,b_.at (lkS l bd) b->ownB l b:=fun b hb=>by
  obtain⟨s,h1,_,h2⟩:=Wj hb
  exact⟨bd,s,h1,h2⟩
 have nm:∀b,b_.at s' b->b≠m:=fun b hb e=>by
  rcases hn b hb with h1|h1
  ·exact h.ne b (old b h1) e
  ·omega
 have ap:∀k s b,k≠bd->jl l k=some s->b_.at s b->¬b_.at s' b:=fun k s b hk hl hs hb=>by
  rcases hn b hb with h1|h1
  ·obtain⟨s2,g1,_,g2⟩:=Wj h1
   exact h.ap k bd s s2 b hk hl g1 hs g2
  ·have:=h.lt ⟨k,s,hl,hs⟩;omega
 refine I9 (enc:=encI) (ev:=slV) (h.mp.fr hf hm) eqI bd s' (Yh bd) fun w2 g2 f2 z2=> ?_
 refine hK w2 ⟨g2,EY h.nd bd s',fun k s hk=> ?_,fun k hk=> ?_,fun k k' s s2 b hkk h1 h2 h3=> ?_,fun b hb=> ?_⟩ f2 z2
 ·rw [Du] at hk
  split at hk
  ·rename_i e;subst e;cases hk
   exact hb.fr f2 nm
  ·rename_i e
   rw [hS k e]
   refine((h.has k s hk).fr hf fun b hb hF=> ?_).fr f2 fun b hb=>h.ne b ⟨k,s,hk,hb⟩
   obtain⟨s2,g1,_,g2⟩:=Wj (ho b ⟨k,s,hk,hb⟩ hF)
   exact h.ap k bd s s2 b e hk g1 hb g2
 ·rw [Du] at hk
  split at hk
  ·cases hk
  ·rename_i e
   rw [hS k e];exact h.non k hk
 ·rw [Du] at h1 h2
  split at h1
  ·rename_i e1
   split at h2
   ·rename_i e2;exact absurd (e1.trans e2.symm) hkk
   ·rename_i e2;cases h1
    exact fun h4=>ap k' s2 b e2 h2 h4 h3
  ·rename_i e1
   split at h2
   ·cases h2;exact ap k s b e1 h1 h3
   ·exact h.ap k k' s s2 b hkk h1 h2 h3
 ·obtain⟨k,s,hk,hs⟩:=hb
  rw [Du] at hk
  split at hk
  ·cases hk;exact nm b hs
  ·exact h.ne b ⟨k,s,hk,hs⟩
end
structure Tn where
 d:Nat
 sl:Nat
 ti:Nat
 si:Nat
 m:Nat
 l:OL
def fp (A:Tn) (b:Nat):Prop:=b=A.d\/b=A.sl\/b=A.ti\/b=A.si\/b=A.m\/ownB A.l b
structure Tn.ne (A:Tn):Prop where
 p:A.d≠A.sl/\A.d≠A.ti/\A.d≠A.si/\A.d≠A.m/\A.sl≠A.ti/\A.sl≠A.si/\A.sl≠A.m/\A.ti≠A.m/\A.si≠A.m
 o:∀b,ownB A.l b->b≠A.d/\b≠A.sl/\b≠A.ti/\b≠A.si
structure TA (w:World) (A:Tn) (most:Nat) (S:Slots) (M:ByteArray->Option Int):Prop where
 hd:Row w A.d [.slice (some ⟨A.sl,0,none⟩) most most,.pointer (some ⟨A.ti,0,none⟩),.map (some A.m),.int .i64 ((live 0 S).length:Int)]
 row:Row w A.sl (S.flatMap iJ)
 len:S.length=most
 mx:most<=4096
 tb:∃L,TB w A.ti A.si L most M/\cnt L=(live 0 S).length
 own:KN w A.m A.l S
 good:GoodS S M
 ne:A.ne
section
variable {w w':World} {A:Tn} {most:Nat} {S:Slots} {M:ByteArray->Option Int}
theorem TA.fr {F:Nat->Prop} (h:TA w A most S M) (hf:fD w w' F) (hs:∀b,fp A b->¬F b):TA w' A most S M:=by
 obtain⟨L,h1,h2⟩:=h.tb
 exact⟨h.hd.fr hf (hs _ (.inl rfl)),h.row.fr hf (hs _ (.inr (.inl rfl))),h.len,h.mx,⟨L,h1.fr hf (hs _ (.inr (.inr (.inl rfl)))) (hs _ (.inr (.inr (.inr (.inl rfl))))),h2⟩,
  h.own.fr hf (hs _ (.inr (.inr (.inr (.inr (.inl rfl)))))) (fun b hb=>hs _ (.inr (.inr (.inr (.inr (.inr hb)))))),h.good,h.ne⟩
theorem TA.ext (h:TA w A most S M) (hf:Ext w w'):TA w' A most S M:=h.fr (hf fun _=>False) (fun _ _=>by simp)
theorem adR {b s:Nat} {L:List uY} {mo:Int} (t:TB w b s L mo M):s<w.heap.size:=by
 by_cases hL:L=[]
 ·rw [t.nils hL];exact t.ht.hd.lt
 ·exact(t.ht.row hL).lt
theorem TA.lt (h:TA w A most S M) {x:Nat} (hx:fp A x):x<w.heap.size:=by
 obtain⟨L,h1,h2⟩:=h.tb
 rcases hx with rfl|rfl|rfl|rfl|rfl|hx
 ·exact h.hd.lt
 ·exact h.row.lt
 ·exact h1.ht.hd.lt
 ·exact adR h1
 ·exact h.own.mp.lt
 ·exact h.own.lt hx
theorem TA.slot (h:TA w A most S M) {i:Nat} {o:Option Ses} (hi:S[i]? =some o) (j:Nat) (hj:j<6):w.cell? ⟨A.sl,i * 6+j,none⟩=(iJ o)[j]? :=by
 rw [h.row.cell,flat_get iJ 6 lH _ _ j hj,hi];rfl
theorem QL (h:TA w A most S M):jk (some ⟨A.d,0,none⟩) w fun r w'=>r=true/\w'=w:=by
 apply Dn
 simp only [sx,h.hd.cell,Bool.not_false]
 exact⟨by trivial,by trivial⟩
theorem wQ:∀{S:Slots} {i:Nat},freeN S=some i↔S[i]? =some none/\∀j,j<i->∃b,S[j]? =some (some b)
 |[],i=>by simp [freeN]
 |none::r,i=>by
  simp only [freeN,Option.some.injEq]
  constructor
  ·rintro rfl;exact⟨rfl,by omega⟩
  ·rintro⟨_,h2⟩
   cases i with
   |zero=>rfl
   |succ i=>obtain⟨b,hb⟩:=h2 0 (by omega);simp at hb
 |some c::r,i=>by
  simp only [freeN,Option.map_eq_some_iff]
  constructor
  ·rintro⟨k,hk,rfl⟩
   obtain⟨h1,h2⟩:=wQ.1 hk
   refine⟨by simpa using h1,fun j hj=> ?_⟩
   cases j with
   |zero=>exact⟨c,rfl⟩
   |succ j=>simpa using h2 j (by omega)
  ·rintro⟨h1,h2⟩
   cases i with
   |zero=>simp at h1
   |succ i=>exact⟨i,wQ.2 ⟨by simpa using h1,fun j hj=>by simpa using h2 (j+1) (by omega)⟩,rfl⟩
theorem FK:∀{S:Slots},(∀j,j<S.length->∃b,S[j]? =some (some b))->freeN S=none
 |[],_=>rfl
 |none::r,h=>by obtain⟨b,hb⟩:=h 0 (by simp);simp at hb
 |some c::r,h=>by
  simp only [freeN,Option.map_eq_none_iff]
  exact FK fun j hj=>by simpa using h (j+1) (by simp;omega)
theorem Oj {S:Slots} {id:Int} (h:id<0\/(S.length:Int)<=id):getS S id=none:=by
 unfold Gp.Ses.getS
 split
 ·rw [List.getElem?_eq_none (by omega)];rfl
 ·rfl
theorem XR {S:Slots} {id:Int} (h0:0<=id) {o:Option Ses} (h:S[id.toNat]? =some o):getS S id=o:=by
 unfold Gp.Ses.getS
 rw [if_pos h0,h];rfl
theorem Y2 {S:Slots} {i:Nat} (hi:i<S.length) (o:Option Ses):(S.flatMap iJ).take (i * 6)++iJ o++(S.flatMap iJ).drop (i * 6+6)=(S.set i o).flatMap iJ:=by
 have e1:(S.flatMap iJ).take (i * 6)=(S.take i).flatMap iJ:=by
  have h:S=S.take i++S.drop i:=(List.take_append_drop i S).symm
  have hl:((S.take i).flatMap iJ).length=i * 6:=by rw [iH iJ 6 lH];simp;omega
  conv=>lhs;rw [h,List.flatMap_append]
  rw [<- hl];simp
 have e2:(S.flatMap iJ).drop (i * 6+6)=(S.drop (i+1)).flatMap iJ:=by
  have h:S=S.take (i+1)++S.drop (i+1):=(List.take_append_drop (i+1) S).symm
  have hl:((S.take (i+1)).flatMap iJ).length=i * 6+6:=by rw [iH iJ 6 lH];simp;omega
  conv=>lhs;rw [h,List.flatMap_append]
  rw [<- hl];simp
 rw [e1,e2,List.set_eq_take_append_cons_drop,if_pos hi,List.flatMap_append,List.flatMap_cons,List.append_assoc]
theorem RY (h:Row w A.sl (S.flatMap iJ)) {i:Nat} (hi:i<S.length) (o:Option Ses) {K:World->Prop} (hK:∀w',Row w' A.sl ((S.set i o).flatMap iJ)->fD w w' (·=A.sl)->w'.heap.size=w.heap.size->K w'):lS (iJ o) w ⟨A.sl,i * 6,none⟩ 0 K:=by
 refine Ja (iJ o) w _ (i * 6) 0 h (fun v hv=>List.all_eq_true.1 (Le o) v hv) ?_ fun w1 r1 f1 z1=> ?_
 ·rw [lH,iH iJ 6 lH];omega
 ·rw [Nat.add_zero,lH,Y2 hi] at r1
  exact hK w1 r1 (f1 _ rfl) z1
end
end Go.Proofs.SN
end
section
namespace Go.Proofs.SN
open Gp Gp.Hash
open Gp.Ses (Ses Slots live GoodS freeN getS ids)
open Gp.Bind (In64)
set_option maxRecDepth 100000
section
variable {w w':World} {A:Tn} {most:Nat} {S:Slots} {M:ByteArray->Option Int}
abbrev yK:List Shape:=[.one (.int .i64),.agg [(.int .i64),(.int .i64),(.int .i64),(.int .i64),(.int .i64)]]
def yS (L:List (Int×Ses)):List (DC yK):=L.map fun x=>(x.1,(x.2.bd,x.2.st,x.2.un,x.2.ra,x.2.rp,()),())
theorem kG:∀(S T:Slots) (k:Nat),live k (S++T)=live k S++live (k+S.length) T
 |[],T,k=>by simp [live]
 |none::r,T,k=>by rw [List.cons_append,live,live,kG r T (k+1)];simp;congr 1;omega
 |some b::r,T,k=>by rw [List.cons_append,live,live,kG r T (k+1)];simp;congr 1;omega
theorem TD {S:Slots} {i:Nat} {b:Ses} (h:S[i]? =some (some b)):(live 0 S)[(live 0 (S.take i)).length]? =some ((i:Int),b)/\(live 0 (S.take (i+1))).length=(live 0 (S.take i)).length+1:=by
 have hlt:=(List.getElem?_eq_some_iff.1 h).1
 have hS:S[i]=some b:=by rw [List.getElem?_eq_getElem hlt] at h;simpa using h
 have e1:S=S.take i++some b::S.drop (i+1):=by
  conv=>lhs;rw [<- List.take_append_drop i S,List.drop_eq_getElem_cons hlt,hS]
 have hl:(S.take i).length=i:=by simp;omega
 constructor
 ·conv=>lhs;rw [e1]
  rw [kG,List.getElem?_append_right (by simp [hl])]
  simp [live,hl]
 ·rw [List.take_succ_eq_append_getElem hlt,hS,kG]
  simp [live]
theorem KJ {S:Slots} {i:Nat} (h:S[i]? =some none):(live 0 (S.take (i+1))).length=(live 0 (S.take i)).length:=by
 have hlt:=(List.getElem?_eq_some_iff.1 h).1
 have hS:S[i]=none:=by rw [List.getElem?_eq_getElem hlt] at h;simpa using h
 rw [List.take_succ_eq_append_getElem hlt,hS,kG]
 simp [live]
theorem N_ (most:Nat) (S:Slots) (M:ByteArray->Option Int) (A:Tn) (f0:Nat):
  n_ Tryz.prog yK (Value.func (.func wo) #[] #[(Value.pointer (some ⟨f0,0,none⟩))])
   (fun W=>Row W f0 [.pointer (some ⟨A.d,0,none⟩)]/\TA W A most S M) (yS (live 0 S)):=by
 refine⟨by kernel_rfl,fun n Q D hC hQ hD hy w h0=> ?_⟩
 refine Calls.mono (CV (a0:= .func (.yield n) #[] #[]) (f0:=⟨f0,0,none⟩) (K:=fun w'=>Q (yS (live 0 S)).length w'\/D w') ?_) (fun e w' h=>h)
 obtain⟨r0,h⟩:=hC _ _ h0
 have hl:=h.len
 have hm:=h.mx
 simp only [sx,r0.cell]
 refine vJ (QL h) ?_
 rintro _ w2 ⟨rfl,hw⟩
 subst hw
 simp only [sx,Bool.not_true,r0.cell,h.hd.cell]
 have hyl:(yS (live 0 S)).length=(live 0 S).length:=by simp [yS]
 rw [hyl]
 refine fE (fun st W=>∃i:Nat,i<=most/\st.1=(i:Int)/\Q (live 0 (S.take i)).length W) (fun st _=>most - st.1.toNat) ⟨0,by omega,rfl,by simpa [live] using h0⟩ ?_
 rintro⟨x,⟨⟩⟩ W ⟨i,hi,rfl,hq⟩ next hnext
 obtain⟨r0,h⟩:=hC _ _ hq
 by_cases hlt:i<most
 ·have hlt':((i:Int)<(most:Int)):=by omega
  have hS:S[i]? =some S[i]:=List.getElem?_eq_getElem (by omega)
  generalize S[i]=o at hS
  have c:∀j,j<6->_:=h.slot hS
  have c0:=c 0 (by omega)
  have c1:=c 1 (by omega)
  have c2:=c 2 (by omega)
  have c3:=c 3 (by omega)
  have c4:=c 4 (by omega)
  have c5:=c 5 (by omega)
  simp only [Nat.add_zero] at c0
  cases o with
  |none=>
   simp only [hlt',decide_true,cond_true,List.getElem?_cons_zero,List.getElem?_cons_succ,fA,fC,uf,Int.toNat_natCast,c0,c1,c2,c3,c4,c5,iJ]
   refine⟨by omega,by trivial,Cc rfl rfl fun p w3 r3 e3 z3 f3=> ?_⟩
   simp only [sx,r3.cell]
   rw [wrap_i64 (by omega) (by omega)]
   refine hnext _ _ ⟨i+1,by omega,by simp,?_⟩ (by simp only;omega)
   rw [KJ hS]
   exact hQ _ _ _ hq f3
  |some b=>
   simp only [hlt',decide_true,cond_true,List.getElem?_cons_zero,List.getElem?_cons_succ,fA,fC,uf,Int.toNat_natCast,c0,c1,c2,c3,c4,c5,iJ]
   refine⟨by omega,by trivial,Cc rfl rfl fun p w3 r3 e3 z3 f3=> ?_⟩
   simp only [sx,r3.cell]
   obtain⟨g1,g2⟩:=TD hS
   refine oK (hy (live 0 (S.take i)).length ((i:Int),(b.bd,b.st,b.un,b.ra,b.rp,()),()) w3 _ ?_ (hQ _ _ _ hq f3) ?_ ?_)
   ·simp only [yS,List.getElem?_map,g1,Option.map_some]
   ·intro W' hq'
    refine⟨true,rfl,?_⟩
    simp only [Bool.not_true,cond_false]
    rw [wrap_i64 (by omega) (by omega)]
    exact hnext _ _ ⟨i+1,by omega,by simp,by rw [g2];exact hq'⟩ (by simp only;omega)
   ·intro W' hd
    refine⟨false,rfl,?_⟩
    simp only [Bool.not_false,cond_true]
    exact .inr hd
 ·have hlt':¬((i:Int)<(most:Int)):=by omega
  simp only [hlt',decide_false,cond_false]
  rw [List.take_of_length_le (by omega)] at hq
  exact .inl hq
def VE (S:Slots) (k:Int):List (Int×Ses):=(live 0 S).filter fun x=>x.2.bd==k
theorem Xx (S:Slots) (k:Int):(VE S k).map (·.1)=ids S k:=rfl
theorem aa6 (most:Nat) (S:Slots) (M:ByteArray->Option Int) (A:Tn) (f0 f1:Nat) (k:Int):
  TN Tryz.prog yK (Value.func (.func xJ) #[] #[(Value.pointer (some ⟨f0,0,none⟩)),(Value.pointer (some ⟨f1,0,none⟩))])
   (fun W=>Row W f0 [.pointer (some ⟨A.d,0,none⟩)]/\Row W f1 [.int .i64 k]/\TA W A most S M) (yS (VE S k)):=by
 refine⟨by kernel_rfl,fun n w Q D hC hQ hD hy h0=> ?_⟩
 refine Calls.mono (DL (a0:= .func (.yield n) #[] #[]) (f0:=⟨f0,0,none⟩) (f1:=⟨f1,0,none⟩) (K:=fun w'=>Q (yS (VE S k)).length w'\/D w') ?_) (fun e w' h=>h)
 have up:∀{i W W'},Q i W->Ext W W'->Q i W':=fun hq hx=>hQ _ _ _ hq (hx _)
 obtain⟨r0,r1,h⟩:=hC _ _ h0
 have hl:=h.len
 have hm:=h.mx
 simp only [sx,r0.cell]
 refine vJ (QL h) ?_
 rintro _ w2 ⟨rfl,hw⟩
 subst hw
 have q2:=up h0 (Ext.drew _)
 obtain⟨r0,r1,h⟩:=hC _ _ q2
 simp only [sx,Bool.not_true,r0.cell,r1.cell,h.hd.cell]
 refine h.own.get k ?_
 have hil:=Gp.Ses.ab6 S k
 refine uV (QD ((h.own.buf k).sl jB (by omega)) (by omega)) ?_
 rintro s3 w3 ⟨f3,b3,n3⟩
 have q3:=up q2 f3
 have hyl:(yS (VE S k)).length=(VE S k).length:=by simp [yS]
 have hol:(VE S k).length=(ids S k).length:=by rw [<- Xx,List.length_map]
 rw [hyl]
 have l3:=b3.len
 refine fE (fun st W=>∃i:Nat,i<=(VE S k).length/\st.1=(i:Int)/\Q i W/\iI 1 eI W s3 (ids S k)) (fun st _=>(VE S k).length - st.1.toNat) ⟨0,by omega,rfl,q3,b3⟩ ?_
 rintro⟨x,⟨⟩⟩ W ⟨i,hi,rfl,hq,hb⟩ next hnext
 obtain⟨r0,r1,h⟩:=hC _ _ hq
 by_cases hlt:i<(VE S k).length
 ·have hlt':((i:Int)<(s3.len:Int)):=by omega
  have hS:(VE S k)[i]? =some (VE S k)[i]:=List.getElem?_eq_getElem hlt
  generalize (VE S k)[i]=y at hS
  obtain⟨v,b⟩:=y
  have hv:(ids S k)[i]? =some v:=by rw [<- Xx,List.getElem?_map,hS];rfl
  obtain⟨hmem,_⟩:=List.mem_filter.1 (List.mem_of_getElem? hS)
  obtain⟨j,hj,hvj⟩:=Gp.Ses.nX.1 hmem
  have hvj:v=(j:Int):=by omega
  subst hvj
  have gl:=(List.getElem?_eq_some_iff.1 hj).1
  have c:∀m,m<6->_:=h.slot hj
  have c0:=c 0 (by omega)
  have c1:=c 1 (by omega)
  have c2:=c 2 (by omega)
  have c3:=c 3 (by omega)
  have c4:=c 4 (by omega)
  simp only [Nat.add_zero,iJ,List.getElem?_cons_zero,List.getElem?_cons_succ] at c0 c1 c2 c3 c4
  rw [decide_eq_true hlt',cond_true]
  refine RV (hb.sl jB (by omega)) hv fun a hc=> ?_
  simp only [sx,hc,r0.cell,h.hd.cell,Int.toNat_natCast,c0,c1,c2,c3,c4]
  refine⟨by omega,by omega,?_⟩
  refine oK (hy i ((j:Int),(b.bd,b.st,b.un,b.ra,b.rp,()),()) W _ ?_ hq ?_ ?_)
  ·simp only [yS,List.getElem?_map,hS,Option.map_some]
  ·intro W' hq' hf
   refine⟨true,rfl,?_⟩
   simp only [Bool.not_true,cond_false]
   rw [wrap_i64 (by omega) (by omega)]
   refine hnext _ _ ⟨i+1,by omega,by simp,hq',hb.fr hf fun c hc=> ?_⟩ (by simp only;omega)
   have:=n3 c hc
   have hz:w2.drew.heap.size=w2.heap.size:=rfl
   omega
  ·intro W' hd hf
   refine⟨false,rfl,?_⟩
   simp only [Bool.not_false,cond_true]
   exact .inr hd
 ·have hlt':¬((i:Int)<(s3.len:Int)):=by omega
  rw [decide_eq_false hlt',cond_false]
  have:i=(VE S k).length:=by omega
  subst this
  exact .inl hq
theorem CW {α β:Type} {enc:α->Value} {ev:β->Value} {w:World} {K:Addr->World->Prop} (h:∀w1,oz enc ev w1 w.heap.size []->w1.heap.size=w.heap.size+1->Ext w w1->K ⟨w.heap.size,0,none⟩ w1):Al w (.map #[] 0) K:=
 h _ (oz.new w enc ev) (by simp) (fun S=>fD.alloc w _ S)
theorem ab4 (n:Int) (w:World):tY n w fun p e w'=>Ext w w'/\((¬(0<=n/\n<=4096)/\p=none/\e=1)\/(0<=n/\n<=4096/\e=0/\∃A,p=some ⟨A.d,0,none⟩/\(∀x,fp A x->w.heap.size<=x)/\TA w' A n.toNat (List.replicate n.toNat none) (fun _=>none))):=by
 apply PK
 by_cases c1:n<0
 ·simp only [c1,decide_true,cond_true]
  exact⟨Ext.refl _,.inl ⟨by omega,by trivial,by trivial⟩⟩
 by_cases c2:n>4096
 ·simp only [c1,c2,decide_true,decide_false,cond_true,cond_false]
  exact⟨Ext.refl _,.inl ⟨by omega,by trivial,by trivial⟩⟩
 simp only [c1,c2,decide_false,cond_false]
 refine E_ (Ro n w) ?_
 rintro p1 e1 w1 ⟨f1,(⟨_,_,rfl,ti,rfl,l1,t1⟩|⟨hbad,_,_⟩)⟩
 rotate_left
 ·omega
 simp only [show ((0:Int) !=0)=false from rfl,cond_false]
 refine E5 (by omega) (by omega) (by omega) (by omega) fun sl w3 r3 e3 z3 f3=> ?_
 refine CW (enc:=encI) (ev:=slV) fun w4 m4 z4 f4=> ?_
 refine fK fun d w5 r5 e5 z5 f5=> ?_
 obtain⟨m,rfl⟩:∃m:Nat,n=(m:Int):=⟨n.toNat,by omega⟩
 simp only [Int.toNat_natCast] at r3 r5 ⊢
 have f1:Ext w w1:=f1
 have f3:Ext w1 w3:=f3
 have x5:Ext w w5:=(f1.trans f3).trans (f4.trans f5)
 have i1:=t1.ht.hd.lt
 have s1:=f1.size
 have qJ:∀(k j:Nat),live j (List.replicate k none)=[]:=by
  intro k
  induction k with
  |zero=>intro j;rfl
  |succ k ih=>intro j;rw [List.replicate_succ,live];exact ih _
 have ids_rep:∀k j,ids (List.replicate k none) j=[]:=fun k j=>by unfold ids;rw [qJ];rfl
 have rep:∀k,fH [Value.int .i64 0,Value.int .i64 0,Value.int .i64 0,Value.int .i64 0,Value.int .i64 0,Value.bool false] k=(List.replicate k (none:Option Ses)).flatMap iJ:=by
  intro k
  induction k with
  |zero=>rfl
  |succ k ih=>rw [fH,ih,List.replicate_succ,List.flatMap_cons];rfl
 have noB:∀x,¬ownB [] x:=fun x ⟨k,s,hk,_⟩=>by cases hk
 refine⟨x5,.inr ⟨by omega,by omega,by trivial,⟨d,sl,ti,ti,w3.heap.size,[]⟩,rfl,?_,?_⟩⟩
 ·intro x hx
  rcases hx with hx|hx|hx|hx|hx|hx
  ·simp only at hx;omega
  ·simp only at hx;omega
  ·simp only at hx;omega
  ·simp only at hx;omega
  ·simp only at hx;omega
  ·exact absurd hx (noB x)
 ·refine⟨?_,?_,by simp,by omega,⟨[],?_,?_⟩,⟨?_,?_,?_,?_,?_,?_⟩,⟨fun k v=> ?_,fun j b hb=> ?_⟩,⟨?_,fun x hx=>absurd hx (noB x)⟩⟩
  ·rw [qJ];exact r5
  ·rw [<- rep];exact(r3.ext f4).ext f5
  ·exact t1.JE (f3.trans (f4.trans f5))
  ·rw [qJ];rfl
  ·exact oz.ext (m4) f5
  ·simp
  ·intro k s hk;cases hk
  ·intro k _;exact ids_rep _ _
  ·intro k k' s s' b _ hk;cases hk
  ·intro b hb;exact absurd hb (noB b)
  ·constructor
   ·intro h;cases h
   ·rintro⟨j,b,hj,_⟩
    rw [List.getElem?_replicate] at hj
    split at hj<;>simp at hj
  ·rw [List.getElem?_replicate] at hb
   split at hb<;>simp at hb
  ·refine⟨?_,?_,?_,?_,?_,?_,?_,?_,?_⟩<;>simp only<;>omega
end
end Go.Proofs.SN
end
section
namespace Go.Proofs.QN
open Gp
def Df (m:Int) (x:Int):List Value:=[.int .i64 x,.int .i64 m]
def adf (x:Int):List Value:=[.int .i64 x]
structure Y8 (l:List Int) (m:Int):Prop where
 lo:∀x∈l,0<=x/\x<=m
 m0:0<=m
 m1:m<=4096
 len:l.length<=64
structure QR (w:World) (b s:Nat) (l:List Int) (m:Int):Prop where
 hd:Row w b [.slice (some ⟨s,0,none⟩) l.length l.length]
 row:Row w s (l.flatMap (Df m))
 ne:b≠s
structure QX (w:World) (b s:Nat) (l:List Int) (m:Int):Prop where
 hd:Row w b [.slice (some ⟨s,0,none⟩) l.length l.length,.int .i64 m]
 row:Row w s (l.flatMap adf)
 ne:b≠s
theorem QR.fr {w w':World} {b s:Nat} {l:List Int} {m:Int} {S:Nat->Prop} (h:QR w b s l m) (hf:fD w w' S) (h1:¬S b) (h2:¬S s):QR w' b s l m:=⟨h.hd.fr hf h1,h.row.fr hf h2,h.ne⟩
theorem QX.fr {w w':World} {b s:Nat} {l:List Int} {m:Int} {S:Nat->Prop} (h:QX w b s l m) (hf:fD w w' S) (h1:¬S b) (h2:¬S s):QX w' b s l m:=⟨h.hd.fr hf h1,h.row.fr hf h2,h.ne⟩
def TS (l:List Int) (i:Int):Prop:=0<=i/\i<(l.length:Int)
instance (l:List Int) (i:Int):Decidable (TS l i):=inferInstanceAs (Decidable (_/\_))
def at_ (l:List Int) (i:Int):Int:=l.getD i.toNat 0
def Jq (l:List Int) (m i:Int):Int×List Int:=
 if TS l i then (if at_ l i>=m then (10,l) else (0,l.set i.toNat (at_ l i+1))) else (1,l)
def G9 (l:List Int) (i:Int):Int×List Int:=
 if TS l i then (if at_ l i=0 then (8,l) else (0,l.set i.toNat (at_ l i - 1))) else (1,l)
def AZ (l:List Int) (i:Int):Int:=if TS l i then at_ l i else 0
theorem KU {l:List Int} {i:Int} (h:TS l i):l[i.toNat]? =some (at_ l i):=by
 obtain⟨h0,h1⟩:=h
 have:i.toNat<l.length:=by omega
 simp [at_,this]
theorem at_mem {l:List Int} {i:Int} (h:TS l i):at_ l i∈l:=List.mem_of_getElem? (KU h)
theorem qI (m x:Int):(Df m x).length=2:=rfl
theorem UA (x:Int):(adf x).length=1:=rfl
theorem QR.cell0 {w:World} {b s:Nat} {l:List Int} {m i:Int} (h:QR w b s l m) (hi:TS l i):w.cell? ⟨s,i.toNat * 2,none⟩=some (.int .i64 (at_ l i)):=by
 rw [h.row.cell,<- Nat.add_zero (i.toNat * 2),flat_get _ 2 (qI m) _ _ 0 (by omega),KU hi];rfl
theorem QR.cell1 {w:World} {b s:Nat} {l:List Int} {m i:Int} (h:QR w b s l m) (hi:TS l i):w.cell? ⟨s,i.toNat * 2+1,none⟩=some (.int .i64 m):=by
 rw [h.row.cell,flat_get _ 2 (qI m) _ _ 1 (by omega),KU hi];rfl
theorem QX.cell0 {w:World} {b s:Nat} {l:List Int} {m i:Int} (h:QX w b s l m) (hi:TS l i):w.cell? ⟨s,i.toNat * 1,none⟩=some (.int .i64 (at_ l i)):=by
 rw [h.row.cell,<- Nat.add_zero (i.toNat * 1),flat_get _ 1 UA _ _ 0 (by omega),KU hi];rfl
theorem QR.set {w w1:World} {b s:Nat} {l:List Int} {m i y:Int} (h:QR w b s l m) (hi:TS l i) (hr:Row w1 s ((l.flatMap (Df m)).set (i.toNat * 2) (.int .i64 y))) (hf:fD w w1 (·=s)):
  QR w1 b s (l.set i.toNat y) m:=by
 refine⟨by simpa using h.hd.fr hf h.ne,?_,h.ne⟩
 rw [<- Nat.add_zero (i.toNat * 2),Bq _ 2 (qI m) _ _ 0 (at_ l i) y _ (by omega) (KU hi) rfl] at hr
 exact hr
theorem QX.set {w w1:World} {b s:Nat} {l:List Int} {m i y:Int} (h:QX w b s l m) (hi:TS l i) (hr:Row w1 s ((l.flatMap adf).set (i.toNat * 1) (.int .i64 y))) (hf:fD w w1 (·=s)):
  QX w1 b s (l.set i.toNat y) m:=by
 refine⟨by simpa using h.hd.fr hf h.ne,?_,h.ne⟩
 rw [<- Nat.add_zero (i.toNat * 1),Bq _ 1 UA _ _ 0 (at_ l i) y _ (by omega) (KU hi) rfl] at hr
 exact hr
theorem aae {w:World} {b s:Nat} {l:List Int} {m:Int} (h:QR w b s l m) (i:Int):
  jY (some ⟨b,0,none⟩) i w fun p e w'=>w'=w/\((TS l i/\e=0/\p=some ⟨s,i.toNat * 2,none⟩)\/(¬TS l i/\e=1/\p=none)):=by
 apply Jh
 simp only [sx,h.hd.cell]
 by_cases h1:i<0
 ·have:¬TS l i:=fun x=>by have:=x.1;omega
  simp [h1,this]
 ·by_cases h2:i>=(l.length:Int)
  ·have:¬TS l i:=fun x=>by have:=x.2;omega
   simp [h1,h2,this]
  ·have:TS l i:=⟨by omega,by omega⟩
   simp [h1,h2,this,this.1,this.2]
theorem Sj (x m:Int) (w:World):lX x m w fun r w'=>r=decide (x>=m)/\∀S,fD w w' S:=by
 apply Gw
 refine tH fun a w1 hr _ _ hf=> ?_
 simp only [sx,hr.cell]
 exact⟨trivial,hf⟩
theorem abV {w:World} {b s:Nat} {l:List Int} {m:Int} (h:QR w b s l m) (hq:Y8 l m) (i:Int):
  lJ (some ⟨b,0,none⟩) i w fun e w'=>e=(Jq l m i).1/\QR w' b s (Jq l m i).2 m/\fD w w' (·=s):=by
 apply Gl
 refine vN (aae h i) ?_
 rintro p e w' ⟨rfl,⟨hi,rfl,rfl⟩|⟨hi,rfl,rfl⟩⟩
 ·have hx:=hq.lo _ (at_mem hi)
  have hm:=hq.m1
  simp only [sx,bne_self_eq_false,h.cell0 hi,h.cell1 hi]
  refine Gq (Sj _ _ _) ?_
  rintro r w1 ⟨rfl,hf⟩
  have h1:=h.fr (hf fun _=>False) (by simp) (by simp)
  by_cases hge:at_ l i>=m
  ·simp only [hge,decide_true,cond_true]
   simp only [Jq,hi,hge,if_true]
   exact⟨by trivial,h1,hf _⟩
  ·simp only [hge,decide_false,cond_false,fA,fC,h1.cell0 hi]
   have hw:IntKind.i64.wrap (at_ l i+1)=at_ l i+1:=wrap_i64 (by omega) (by omega)
   rw [hw]
   refine gu h1.row rfl ?_ fun w2 hr2 hf2 _=> ?_
   ·rw [iH _ 2 (qI m)];have:=hi.1;have:=hi.2;omega
   ·simp only [Jq,hi,hge,if_true,if_false]
    exact⟨by trivial,h1.set hi hr2 (hf2 (·=s) rfl),(hf _).trans (hf2 (·=s) rfl) fun _ _ e=>e⟩
 ·simp only [Jq,hi,if_false]
  exact⟨by trivial,h,fD.refl _ _⟩
theorem abC {w:World} {b s:Nat} {l:List Int} {m:Int} (h:QR w b s l m) (hq:Y8 l m) (i:Int):
  lY (some ⟨b,0,none⟩) i w fun e w'=>e=(G9 l i).1/\QR w' b s (G9 l i).2 m/\fD w w' (·=s):=by
 apply Gv
 refine vN (aae h i) ?_
 rintro p e w' ⟨rfl,⟨hi,rfl,rfl⟩|⟨hi,rfl,rfl⟩⟩
 ·have hx:=hq.lo _ (at_mem hi)
  have hm:=hq.m1
  simp only [sx,bne_self_eq_false,h.cell0 hi]
  by_cases h0:at_ l i=0
  ·simp only [h0,beq_self_eq_true,cond_true]
   simp only [G9,hi,h0,if_true]
   exact⟨by trivial,h,fD.refl _ _⟩
  ·have h0':(at_ l i==0)=false:=by simpa using h0
   have hw:IntKind.i64.wrap (at_ l i - 1)=at_ l i - 1:=wrap_i64 (by omega) (by omega)
   simp only [h0',cond_false,hw]
   refine gu h.row rfl ?_ fun w2 hr2 hf2 _=> ?_
   ·rw [iH _ 2 (qI m)];have:=hi.1;have:=hi.2;omega
   ·simp only [G9,hi,h0,if_true,if_false]
    exact⟨by trivial,h.set hi hr2 (hf2 (·=s) rfl),hf2 (·=s) rfl⟩
 ·simp only [G9,hi,if_false]
  exact⟨by trivial,h,fD.refl _ _⟩
theorem ZL {w:World} {b s:Nat} {l:List Int} {m:Int} (h:QR w b s l m) (i:Int):
  kV (some ⟨b,0,none⟩) i w fun n w'=>n=AZ l i/\w'=w:=by
 apply E8
 refine vN (aae h i) ?_
 rintro p e w' ⟨rfl,⟨hi,rfl,rfl⟩|⟨hi,rfl,rfl⟩⟩
 ·simp only [sx,bne_self_eq_false,h.cell0 hi,AZ,hi,if_true,and_self]
 ·simp only [AZ,hi,if_false]
  exact⟨by trivial,by trivial⟩
theorem ZB (m x:Int) (n:Nat):(List.replicate n x).flatMap (Df m)=fH (Df m x) n:=by
 induction n with
 |zero=>rfl
 |succ n ih=>simp [List.replicate_succ,fH,ih]
def O1 (n m:Int):Prop:=1<=n/\n<=64/\0<=m/\m<=4096
instance (n m:Int):Decidable (O1 n m):=inferInstanceAs (Decidable (_/\_))
theorem abn {n m:Int} (h:O1 n m):Y8 (List.replicate n.toNat 0) m:=by
 obtain⟨h1,h2,h3,h4⟩:=h
 refine⟨fun x hx=> ?_,h3,h4,by simp;omega⟩
 have:=(List.mem_replicate.1 hx).2
 omega
def JQ (m:Int) (n k:Nat):List Value:=(List.replicate k (0:Int)).flatMap (Df m)++(List.replicate (n - k) (0:Int)).flatMap (Df 0)
theorem Yo (m:Int) (n k:Nat) (hk:k<n):(JQ m n k).set (k * 2+1) (.int .i64 m)=JQ m n (k+1):=by
 unfold JQ
 have hl:((List.replicate k (0:Int)).flatMap (Df m)).length=k * 2:=by rw [iH _ 2 (qI m)];simp
 rw [List.set_append_right _ _ (by omega),hl]
 obtain⟨j,hj⟩:∃j,n - k=j+1:=⟨n - k - 1,by omega⟩
 have hj2:n - (k+1)=j:=by omega
 rw [hj,hj2,List.replicate_succ' (n:=k),List.flatMap_append]
 simp [List.replicate_succ,Df]
theorem YC (m:Int) (n k:Nat) (hk:k<=n):(JQ m n k).length=n * 2:=by
 unfold JQ
 rw [List.length_append,iH _ 2 (qI m),iH _ 2 (qI 0)]
 simp;omega
theorem KY (n m:Int) (w:World):xE n m w fun p e w'=>
  (∀S,fD w w' S)/\((O1 n m/\e=0/\∃b s,p=some ⟨b,0,none⟩/\w.heap.size<=b/\w.heap.size<=s/\QR w' b s (List.replicate n.toNat 0) m)\/(¬O1 n m/\e=1/\p=none)):=by
 apply Rf
 by_cases hn:O1 n m
 ·obtain⟨h1,h2,h3,h4⟩:=hn
  have c1:¬(n<1):=by omega
  have c2:¬(n>64):=by omega
  have c3:¬(m<0):=by omega
  have c4:¬(m>4096):=by omega
  simp only [sx,c1,c2,c3,c4,decide_false]
  refine E5 (by omega) (by omega) (by omega) (by omega) fun s w1 hr0 hs _ hf1=> ?_
  have hq0:fH [Value.int .i64 0,Value.int .i64 0] n.toNat=JQ m n.toNat 0:=by
   unfold JQ
   simp only [List.replicate_zero,List.flatMap_nil,List.nil_append,Nat.sub_zero]
   exact(ZB 0 0 _).symm
  rw [hq0] at hr0
  subst hs
  refine tH fun b w2 hr2 hb hsz hf2=> ?_
  simp only [List.getElem?_cons_zero,fA,fG,hr2.cell]
  have hb1:=(hf1 fun _=>False).size
  have hs0:w.heap.size<w1.heap.size:=hr0.lt
  refine fE (fun st w'=>∃k:Nat,k<=n.toNat/\st.1=k/\Row w' b [.slice (some ⟨w.heap.size,0,none⟩) n.toNat n.toNat]/\Row w' w.heap.size (JQ m n.toNat k)/\∀S,fD w w' S)
   (fun st _=>n.toNat - st.1.toNat) ⟨0,by omega,rfl,hr2,hr0.fr (hf2 fun _=>False) (by simp),fun S=>(hf1 S).trans (hf2 S) fun _ _ e=>e⟩ ?_
  rintro⟨i,⟨⟩⟩ w3 ⟨k,hk,rfl,hb3,hr3,hf3⟩ next hnext
  simp only [sx,hb3.cell]
  by_cases hlt:k<n.toNat
  ·simp only [hlt,Int.ofNat_lt,decide_true,cond_true,Int.toNat_natCast]
   refine⟨by omega,by first|trivial|omega,?_⟩
   refine gu hr3 rfl (by rw [YC _ _ _ hk];omega) fun w4 hr4 hf4 _=> ?_
   rw [Yo _ _ _ hlt] at hr4
   have e2:IntKind.i64.wrap ((k:Int)+1)=((k+1:Nat):Int):=by rw [wrap_i64 (by omega) (by omega)];omega
   rw [e2]
   refine hnext _ _ ⟨k+1,by omega,rfl,hb3.fr (hf4 (·=w.heap.size) rfl) (by omega),hr4,fun S=>(hf3 S).trans (hf4 (·=w.heap.size) rfl) fun x hx e=>by omega⟩ (by simp only;omega)
  ·have hk2:k=n.toNat:=by omega
   subst hk2
   simp only [Int.lt_irrefl,decide_false,cond_false]
   refine⟨hf3,.inl ⟨⟨h1,h2,h3,h4⟩,by trivial,b,w.heap.size,rfl,by omega,by omega,⟨by simpa using hb3,?_,by omega⟩⟩⟩
   unfold JQ at hr3
   simpa using hr3
 ·have key:(bif decide (n<1) then true else bif decide (n>64) then true else bif decide (m<0) then true else decide (m>4096))=true:=by
   simp only [O1] at hn
   by_cases c1:n<1
   ·simp [c1]
   ·by_cases c2:n>64
    ·simp [c2]
    ·by_cases c3:m<0
     ·simp [c3]
     ·simp [c1,c2,c3];omega
  by_cases c1:n<1
  ·simp only [sx,c1,decide_true];exact⟨fun S=>fD.refl _ _,.inr ⟨hn,by trivial,by trivial⟩⟩
  ·by_cases c2:n>64
   ·simp only [sx,c1,c2,decide_true,decide_false];exact⟨fun S=>fD.refl _ _,.inr ⟨hn,by trivial,by trivial⟩⟩
   ·by_cases c3:m<0
    ·simp only [sx,c1,c2,c3,decide_true,decide_false];exact⟨fun S=>fD.refl _ _,.inr ⟨hn,by trivial,by trivial⟩⟩
    ·have c4:m>4096:=by simp only [O1] at hn;omega
     simp only [sx,c1,c2,c3,c4,decide_true,decide_false];exact⟨fun S=>fD.refl _ _,.inr ⟨hn,by trivial,by trivial⟩⟩
theorem aaH {l:List Int} {m:Int} (h:Y8 l m) (i:Int):Y8 (Jq l m i).2 m:=by
 unfold Jq
 split
 ·split
  ·exact h
  ·rename_i hi hge
   refine⟨fun x hx=> ?_,h.m0,h.m1,by simpa using h.len⟩
   rcases List.mem_or_eq_of_mem_set hx with hx|rfl
   ·exact h.lo x hx
   ·have:=h.lo _ (at_mem hi);omega
 ·exact h
theorem Zr {l:List Int} {m:Int} (h:Y8 l m) (i:Int):Y8 (G9 l i).2 m:=by
 unfold G9
 split
 ·split
  ·exact h
  ·rename_i hi hge
   refine⟨fun x hx=> ?_,h.m0,h.m1,by simpa using h.len⟩
   rcases List.mem_or_eq_of_mem_set hx with hx|rfl
   ·exact h.lo x hx
   ·have:=h.lo _ (at_mem hi);omega
 ·exact h
structure acD (w:World) (s:b_):Prop where
 at_:∀k,k<s.len->∃b o g i,s.a=some ⟨b,o,none⟩/\b<w.heap.size/\w.cell? ⟨b,o+k * 2,none⟩=some (.bool g)/\w.cell? ⟨b,o+k * 2+1,none⟩=some (.int .i64 i)
 len:s.len<=2^63 - 1
theorem Az {w w':World} {b i:Nat} (hf:∀S,fD w w' S) (hb:b<w.heap.size):w'.cell? ⟨b,i,none⟩=w.cell? ⟨b,i,none⟩:=by
 have:=(hf fun _=>False).same b hb (by simp)
 simp [World.cell?,this]
theorem acD.fr {w w':World} {s:b_} (h:acD w s) (hf:∀S,fD w w' S):acD w' s:=by
 refine⟨fun k hk=> ?_,h.len⟩
 obtain⟨b,o,g,i,h1,h2,h3,h4⟩:=h.at_ k hk
 exact⟨b,o,g,i,h1,Nat.lt_of_lt_of_le h2 (hf fun _=>False).size,by rw [Az hf h2];exact h3,by rw [Az hf h2];exact h4⟩
structure Both (w0 w:World) (b1 s1 b2 s2:Nat) (l:List Int) (m:Int):Prop where
 r:QR w b1 s1 l m
 x:QX w b2 s2 l m
 q:Y8 l m
 n1:w0.heap.size<=b1
 n2:w0.heap.size<=s1
 n3:w0.heap.size<=b2
 n4:w0.heap.size<=s2
 d1:s1≠b2
 d2:s1≠s2
 d3:s2≠b1
theorem Both.fr {w0 w w':World} {b1 s1 b2 s2:Nat} {l:List Int} {m:Int} (h:Both w0 w b1 s1 b2 s2 l m) (hf:∀S,fD w w' S):Both w0 w' b1 s1 b2 s2 l m:=
 ⟨h.r.fr (hf fun _=>False) (by simp) (by simp),h.x.fr (hf fun _=>False) (by simp) (by simp),h.q,h.n1,h.n2,h.n3,h.n4,h.d1,h.d2,h.d3⟩
structure One (w0 w:World) (b1 s1:Nat) (l:List Int) (n m:Int):Prop where
 r:QR w b1 s1 l m
 q:Y8 l m
 n1:w0.heap.size<=b1
 n2:w0.heap.size<=s1
 ln:l.length=n.toNat
theorem One.fr {w0 w w':World} {b1 s1:Nat} {l:List Int} {n m:Int} (h:One w0 w b1 s1 l n m) (hf:∀S,fD w w' S):One w0 w' b1 s1 l n m:=
 ⟨h.r.fr (hf fun _=>False) (by simp) (by simp),h.q,h.n1,h.n2,h.ln⟩
end Go.Proofs.QN
end
