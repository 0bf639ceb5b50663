import Derived.Test.YtfndjkoiappemaaGreatW10
import Derived.Test.YtfndjkoiappemaaGreatW3
import Derived.Test.YtfndjkoiappemaaGreatW6
section
namespace Go.Proofs.EN
open Gp Go.Proofs
open Gp.Bind (Bnd Slots live GoodB freeN getS In64)
set_option maxRecDepth 100000
set_option maxHeartbeats 1000000
structure EA where
 x:Nat
 p:Nat
 g:Nat
 ps:b_
 qb:Nat
 qs:Nat
 B:Tn
 T:SN.Tn
 d:Nat
 m:Nat
 ss:List b_
def own (a:EA):Nat->Nat->Prop
 |0,b=>b=a.x
 |1,b=>PN.fp a.p a.g a.ps b
 |2,b=>b=a.qb\/b=a.qs
 |3,b=>fp a.B b
 |4,b=>SN.fp a.T b
 |5,b=>WN.mF a.d a.m a.ss b
 |_,_=>False
structure Cf where
 C:List Value
 sw:b_
 pl:List Int
 lo:Int
 hi:Int
 q:Int
 nb:Int
 ns:Int
structure adY (c:Cf):Prop where
 len:c.C.length=36
 c16:c.C[16]? =some (.slice c.sw.a c.sw.len c.sw.cap)
 c20:c.C[20]? =some (.int .i64 c.q)
 c21:c.C[21]? =some (.int .i64 c.nb)
 c22:c.C[22]? =some (.int .i64 c.ns)
 sw:c.sw.len<=64
 b1:1<=c.nb/\c.nb<=4096
 q1:1<=c.q/\c.q<=4096
 s1:1<=c.ns/\c.ns<=4096
 hp:∀x∈c.pl,CN.kX x
structure ES where
 now:Nat
 S:Slots
 Mi:ByteArray->Option Int
 Mo:ByteArray->Option Int
 Q:List Int
 G:List (PN.O3×Unit)
 SS:Gp.Ses.Slots
 M:ByteArray->Option Int
 l:WN.PL
 wn:Nat
 tn:Int
 F:Gp.Wh.Fs
structure uM (w:World) (a:EA) (c:Cf) (e:ES):Prop where
 cf:adY c
 hd:Row w a.x ([.pointer (some ⟨a.p,0,none⟩),.pointer (some ⟨a.qb,0,none⟩),.pointer (some ⟨a.B.d,0,none⟩),.pointer (some ⟨a.T.d,0,none⟩),.pointer (some ⟨a.d,0,none⟩)]++c.C++[.int .i64 (e.now:Int)])
 pl:PN.PL w a.p a.g a.ps c.lo c.hi c.pl e.G
 qr:QN.QR w a.qb a.qs e.Q c.q
 qo:QN.Y8 e.Q c.q
 db:DB w a.B c.nb.toNat e.S e.Mi e.Mo
 se:SN.TA w a.T c.ns.toNat e.SS e.M
 wh:WN.WS w a.d a.m a.ss e.l e.wn e.tn c.ns e.F
 ap:∀k k' b,own a k b->own a k' b->k=k'
 lt:∀k b,own a k b->b<w.heap.size
variable {w w':World} {a:EA} {c:Cf} {e:ES}
theorem uM.fr {S:Nat->Prop} (h:uM w a c e) (hf:fD w w' S) (hs:∀k b,own a k b->¬S b):uM w' a c e:=
 ⟨h.cf,h.hd.fr hf (hs 0 _ rfl),h.pl.fr hf (hs 1),h.qr.fr hf (hs 2 _ (.inl rfl)) (hs 2 _ (.inr rfl)),h.qo,h.db.fr hf (hs 3),h.se.fr hf (hs 4),h.wh.fr hf (hs 5),h.ap,
  fun k b hb=>Nat.lt_of_lt_of_le (h.lt k b hb) hf.size⟩
theorem uM.ext (h:uM w a c e) (hf:Ext w w'):uM w' a c e:=h.fr (hf fun _=>False) (fun _ _ _=>by simp)
theorem uM.c0 (h:uM w a c e):w.cell? ⟨a.x,0,none⟩=some (.pointer (some ⟨a.p,0,none⟩)):=by rw [h.hd.cell];rfl
theorem uM.c1 (h:uM w a c e):w.cell? ⟨a.x,1,none⟩=some (.pointer (some ⟨a.qb,0,none⟩)):=by rw [h.hd.cell];rfl
theorem uM.c2 (h:uM w a c e):w.cell? ⟨a.x,2,none⟩=some (.pointer (some ⟨a.B.d,0,none⟩)):=by rw [h.hd.cell];rfl
theorem uM.c3 (h:uM w a c e):w.cell? ⟨a.x,3,none⟩=some (.pointer (some ⟨a.T.d,0,none⟩)):=by rw [h.hd.cell];rfl
theorem uM.c4 (h:uM w a c e):w.cell? ⟨a.x,4,none⟩=some (.pointer (some ⟨a.d,0,none⟩)):=by rw [h.hd.cell];rfl
theorem uM.cC (h:uM w a c e) {j:Nat} (hj:j<36):w.cell? ⟨a.x,5+j,none⟩=c.C[j]? :=by
 rw [h.hd.cell,List.append_assoc,List.getElem?_append_right (by simp)]
 rw [List.getElem?_append_left (by have:=h.cf.len;simp;omega)]
 congr 1;simp
theorem uM.c21 (h:uM w a c e):w.cell? ⟨a.x,21,none⟩=some (.slice c.sw.a c.sw.len c.sw.cap):=(h.cC (j:=16) (by omega)).trans h.cf.c16
theorem uM.c25 (h:uM w a c e):w.cell? ⟨a.x,25,none⟩=some (.int .i64 c.q):=(h.cC (j:=20) (by omega)).trans h.cf.c20
theorem uM.c26 (h:uM w a c e):w.cell? ⟨a.x,26,none⟩=some (.int .i64 c.nb):=(h.cC (j:=21) (by omega)).trans h.cf.c21
theorem uM.c41 (h:uM w a c e):w.cell? ⟨a.x,41,none⟩=some (.int .i64 (e.now:Int)):=by
 rw [h.hd.cell,List.append_assoc,List.getElem?_append_right (by simp),List.getElem?_append_right (by have:=h.cf.len;simp;omega)]
 have:41 - [Value.pointer (some ⟨a.p,0,none⟩),.pointer (some ⟨a.qb,0,none⟩),.pointer (some ⟨a.B.d,0,none⟩),.pointer (some ⟨a.T.d,0,none⟩),.pointer (some ⟨a.d,0,none⟩)].length - c.C.length=0:=by rw [h.cf.len];rfl
 rw [this];rfl
theorem FN (h:uM w a c e):iV (some ⟨a.x,0,none⟩) w fun r w'=>r=true/\w'=w:=by
 apply DT
 simp only [sx,h.c0,Bool.not_false]
 exact⟨by trivial,by trivial⟩
def YD (c:Cf) (i:Int):Prop:=0<=i/\i<(c.sw.len:Int)
instance (c:Cf) (i:Int):Decidable (YD c i):=inferInstanceAs (Decidable (_/\_))
theorem U8 (h:uM w a c e) (i:Int):jJ (some ⟨a.x,0,none⟩) i w fun r w'=>r=decide (YD c i)/\w'=w:=by
 apply BN
 unfold YD
 by_cases h0:i>=0
 ·have h0':0<=i:=h0
  simp only [h0,h0',decide_true,sx,h.c21,true_and]
 ·have h0':¬0<=i:=h0
  simp only [h0,h0',decide_false,cond_false,false_and,and_self]
theorem XA (n:Int) (w:World):uS n w fun r w'=>r=decide (0<=n/\n<=65535)/\w'=w:=by
 apply Ti
 by_cases h0:n>=0
 ·have h0':0<=n:=h0
  simp only [h0,h0',decide_true,cond_true,true_and]
 ·have h0':¬0<=n:=h0
  simp only [h0,h0',decide_false,cond_false,false_and,and_self]
theorem Sj (h:uM w a c e):lN (some ⟨a.x,0,none⟩) w fun r w'=>r=decide (((live 0 e.S).length:Int)>=c.nb)/\Ext w w':=by
 apply Gx
 have hd:=h.ext (Ext.drew w)
 simp only [sx,hd.c2,hd.c26]
 refine Pq (abk hd.db) ?_
 rintro n w1 ⟨rfl,hw⟩
 subst hw
 exact⟨hd.c26,rfl,Ext.drew w⟩
def PY (c:Cf) (b:Bnd):Prop:=
 (b.pr=1\/b.pr=6\/b.pr=17)/\CN.kX b.ad/\b.oad∈c.pl/\(0<=b.po/\b.po<=65535)/\(0<=b.opo/\b.opo<=65535)/\b.pr=b.opr/\YD c b.sw
instance (c:Cf) (b:Bnd):Decidable (PY c b):=inferInstanceAs (Decidable (_/\_))
theorem ac4 (h:uM w a c e) (b:Bnd):nG (some ⟨a.x,0,none⟩) b.sw b.pr b.ad b.po b.opr b.oad b.opo w fun r w'=>r=decide (PY c b)/\Ext w w':=by
 apply Hq
 refine fK fun t w1 r1 e1 z1 f1=> ?_
 have h1:=h.ext f1
 simp -zeta only [sx,r1.cell]
 intro J6
 have key:J6 (decide (b.pr=1\/b.pr=6\/b.pr=17)):=by
  by_cases hp:b.pr=1\/b.pr=6\/b.pr=17
  rotate_left
  ·simp only [J6,hp,decide_false,cond_false]
   exact⟨(decide_eq_false fun hm=>hp hm.1).symm,f1⟩
  simp only [J6,hp,decide_true,cond_true,sx,r1.drew.cell]
  refine vV (CN.yL _ _) ?_
  rintro r w2 ⟨rfl,f2⟩
  have x2:=(Ext.drew w1).trans f2
  have h2:=h1.ext x2
  have r2:=r1.ext x2
  by_cases c1:CN.kX b.ad
  rotate_left
  ·simp only [c1,decide_false,cond_false]
   exact⟨(decide_eq_false fun hm=>c1 hm.2.1).symm,f1.trans x2⟩
  simp only [c1,decide_true,cond_true,sx,h2.c0,r2.cell]
  refine BK (PN.Zi h2.pl _) ?_
  rintro r w2 ⟨rfl,hw⟩
  subst hw
  by_cases c2:b.oad∈c.pl
  rotate_left
  ·simp only [c2,decide_false,cond_false]
   exact⟨(decide_eq_false fun hm=>c2 hm.2.2.1).symm,f1.trans x2⟩
  simp only [c2,decide_true,cond_true,sx,r2.cell]
  refine IW (XA _ _) ?_
  rintro r w2 ⟨rfl,hw⟩
  subst hw
  by_cases c3:0<=b.po/\b.po<=65535
  rotate_left
  ·simp only [c3,decide_false,cond_false]
   exact⟨(decide_eq_false fun hm=>c3 hm.2.2.2.1).symm,f1.trans x2⟩
  simp only [c3,and_self,decide_true,cond_true,sx,r2.cell]
  refine IW (XA _ _) ?_
  rintro r w2 ⟨rfl,hw⟩
  subst hw
  by_cases c4:0<=b.opo/\b.opo<=65535
  rotate_left
  ·simp only [c4,decide_false,cond_false]
   exact⟨(decide_eq_false fun hm=>c4 hm.2.2.2.2.1).symm,f1.trans x2⟩
  simp only [c4,and_self,decide_true,cond_true,sx,r2.cell]
  by_cases c5:b.pr=b.opr
  rotate_left
  ·have c5':(b.pr==b.opr)=false:=by simpa using c5
   simp only [c5',cond_false]
   exact⟨(decide_eq_false fun hm=>c5 hm.2.2.2.2.2.1).symm,f1.trans x2⟩
  have c5':(b.pr==b.opr)=true:=by simpa using c5
  simp only [c5',cond_true]
  refine Bh (U8 h2 _) ?_
  rintro r w2 ⟨rfl,hw⟩
  subst hw
  refine⟨?_,f1.trans x2⟩
  simp only [decide_eq_decide]
  exact⟨fun hs=>⟨hp,c1,c2,c3,c4,c5,hs⟩,fun hm=>hm.2.2.2.2.2.2⟩
 by_cases p1:b.pr=1
 ·have p1':(b.pr==1)=true:=by simpa using p1
  simp -zeta only [p1',cond_true]
  have q:decide (b.pr=1\/b.pr=6\/b.pr=17)=true:=by simp [p1]
  rw [q] at key;exact key
 have p1':(b.pr==1)=false:=by simpa using p1
 by_cases p6:b.pr=6
 ·have p6':(b.pr==6)=true:=by simpa using p6
  simp -zeta only [p1',p6',cond_true,cond_false]
  have q:decide (b.pr=1\/b.pr=6\/b.pr=17)=true:=by simp [p6]
  rw [q] at key;exact key
 have p6':(b.pr==6)=false:=by simpa using p6
 simp -zeta only [p1',p6',cond_false]
 have q:decide (b.pr=1\/b.pr=6\/b.pr=17)=(b.pr==17):=by
  have:(b.pr==17)=decide (b.pr=17):=rfl
  rw [this];simp [p1,p6]
 rw [q] at key;exact key
end Go.Proofs.EN
end
section
namespace Go.Proofs.EN
open Gp Go.Proofs
open Gp.Bind (Bnd Slots live GoodB freeN getS In64)
set_option maxRecDepth 100000
set_option maxHeartbeats 1000000
theorem QW {o1 o2:Nat->Nat->Prop} {j n:Nat} (ap:∀k k' b,o1 k b->o1 k' b->k=k') (lt:∀k b,o1 k b->b<n) (same:∀k b,k≠j->o2 k b->o1 k b) (new:∀b,o2 j b->o1 j b\/n<=b):
  ∀k k' b,o2 k b->o2 k' b->k=k':=by
 intro k k' b h h'
 by_cases hk:k=j<;>by_cases hk':k'=j
 ·omega
 ·subst hk
  have g':=same k' b hk' h'
  rcases new b h with g|g
  ·exact ap _ _ b g g'
  ·have:=lt _ b g';omega
 ·subst hk'
  have g:=same k b hk h
  rcases new b h' with g'|g'
  ·exact ap _ _ b g g'
  ·have:=lt _ b g;omega
 ·exact ap _ _ b (same k b hk h) (same k' b hk' h')
variable {w w':World} {a:EA} {c:Cf} {e:ES}
theorem uM.off (h:uM w a c e) {j k b:Nat} (hk:own a k b) (hn:k≠j):¬own a j b:=fun hj=>hn (h.ap k j b hk hj)
theorem uM.setB (h:uM w a c e) {A:Tn} {S:Slots} {Mi Mo:ByteArray->Option Int} (hf:fD w w' (own a 3)) (hdb:DB w' A c.nb.toNat S Mi Mo) (hd:A.d=a.B.d) (hfp:∀x,fp A x->fp a.B x\/w.heap.size<=x) (hlt:∀x,fp A x->x<w'.heap.size):
  uM w' {a with B:=A} c {e with S:=S,Mi:=Mi,Mo:=Mo}:=by
 have same:∀k b,k≠3->own {a with B:=A} k b->own a k b:=by
  intro k b hk ho
  match k,ho with
  |0,ho=>exact ho
  |1,ho=>exact ho
  |2,ho=>exact ho
  |3,_=>exact absurd rfl hk
  |4,ho=>exact ho
  |5,ho=>exact ho
  |(n+6),ho=>exact ho
 have o:∀k b,own a k b->k≠3->¬own a 3 b:=fun k b hk hn=>h.off hk hn
 refine⟨h.cf,?_,h.pl.fr hf (fun b hb=>o 1 b hb (by decide)),h.qr.fr hf (o 2 _ (.inl rfl) (by decide)) (o 2 _ (.inr rfl) (by decide)),h.qo,hdb,h.se.fr hf (fun b hb=>o 4 b hb (by decide)),h.wh.fr hf (fun b hb=>o 5 b hb (by decide)),QW (j:=3) h.ap h.lt same (fun b hb=>hfp b hb),?_⟩
 ·have:=h.hd.fr hf (o 0 _ rfl (by decide))
  simp only [hd];exact this
 ·intro k b hb
  by_cases hk:k=3
  ·subst hk;exact hlt b hb
  ·exact Nat.lt_of_lt_of_le (h.lt k b (same k b hk hb)) hf.size
theorem uM.adn (h:uM w a c e) {G:List (PN.O3×Unit)} (hf:fD w w' (·=a.g)) (hp:PN.PL w' a.p a.g a.ps c.lo c.hi c.pl G):uM w' a c {e with G:=G}:=by
 have o:∀k b,own a k b->k≠1->¬b=a.g:=fun k b hk hn he=>h.off hk hn (he ▸ .inr (.inl rfl))
 exact⟨h.cf,h.hd.fr hf (o 0 _ rfl (by decide)),hp,h.qr.fr hf (o 2 _ (.inl rfl) (by decide)) (o 2 _ (.inr rfl) (by decide)),h.qo,h.db.fr hf (fun b hb=>o 3 b hb (by decide)),h.se.fr hf (fun b hb=>o 4 b hb (by decide)),h.wh.fr hf (fun b hb=>o 5 b hb (by decide)),h.ap,
  fun k b hb=>Nat.lt_of_lt_of_le (h.lt k b hb) hf.size⟩
theorem uM.adr (h:uM w a c e) {Q:List Int} (hf:fD w w' (·=a.qs)) (hq:QN.QR w' a.qb a.qs Q c.q) (ho:QN.Y8 Q c.q):uM w' a c {e with Q:=Q}:=by
 have o:∀k b,own a k b->k≠2->¬b=a.qs:=fun k b hk hn he=>h.off hk hn (he ▸ .inr rfl)
 exact⟨h.cf,h.hd.fr hf (o 0 _ rfl (by decide)),h.pl.fr hf (fun b hb=>o 1 b hb (by decide)),hq,ho,h.db.fr hf (fun b hb=>o 3 b hb (by decide)),h.se.fr hf (fun b hb=>o 4 b hb (by decide)),h.wh.fr hf (fun b hb=>o 5 b hb (by decide)),h.ap,
  fun k b hb=>Nat.lt_of_lt_of_le (h.lt k b hb) hf.size⟩
theorem uM.adE (h:uM w a c e) {n:Nat} (hf:fD w w' (·=a.x)) (hd:Row w' a.x ([.pointer (some ⟨a.p,0,none⟩),.pointer (some ⟨a.qb,0,none⟩),.pointer (some ⟨a.B.d,0,none⟩),.pointer (some ⟨a.T.d,0,none⟩),.pointer (some ⟨a.d,0,none⟩)]++c.C++[.int .i64 (n:Int)])):uM w' a c {e with now:=n}:=by
 have o:∀k b,own a k b->k≠0->¬b=a.x:=fun k b hk hn he=>h.off hk hn he
 exact⟨h.cf,hd,h.pl.fr hf (fun b hb=>o 1 b hb (by decide)),h.qr.fr hf (o 2 _ (.inl rfl) (by decide)) (o 2 _ (.inr rfl) (by decide)),h.qo,h.db.fr hf (fun b hb=>o 3 b hb (by decide)),h.se.fr hf (fun b hb=>o 4 b hb (by decide)),h.wh.fr hf (fun b hb=>o 5 b hb (by decide)),h.ap,
  fun k b hb=>Nat.lt_of_lt_of_le (h.lt k b hb) hf.size⟩
theorem uM.setW (h:uM w a c e) {ss:List b_} {l:WN.PL} {wn:Nat} {tn:Int} {F:Gp.Wh.Fs} (hf:fD w w' (own a 5)) (hw:WN.WS w' a.d a.m ss l wn tn c.ns F) (hfp:∀x,WN.mF a.d a.m ss x->WN.mF a.d a.m a.ss x\/w.heap.size<=x):
  uM w' {a with ss:=ss} c {e with l:=l,wn:=wn,tn:=tn,F:=F}:=by
 have same:∀k b,k≠5->own {a with ss:=ss} k b->own a k b:=by
  intro k b hk ho
  match k,ho with
  |0,ho=>exact ho
  |1,ho=>exact ho
  |2,ho=>exact ho
  |3,ho=>exact ho
  |4,ho=>exact ho
  |5,_=>exact absurd rfl hk
  |(n+6),ho=>exact ho
 have o:∀k b,own a k b->k≠5->¬own a 5 b:=fun k b hk hn=>h.off hk hn
 refine⟨h.cf,h.hd.fr hf (o 0 _ rfl (by decide)),h.pl.fr hf (fun b hb=>o 1 b hb (by decide)),h.qr.fr hf (o 2 _ (.inl rfl) (by decide)) (o 2 _ (.inr rfl) (by decide)),h.qo,h.db.fr hf (fun b hb=>o 3 b hb (by decide)),h.se.fr hf (fun b hb=>o 4 b hb (by decide)),hw,QW (j:=5) h.ap h.lt same (fun b hb=>hfp b hb),?_⟩
 intro k b hb
 by_cases hk:k=5
 ·subst hk;exact hw.wm.lt hb
 ·exact Nat.lt_of_lt_of_le (h.lt k b (same k b hk hb)) hf.size
def Gf (a:EA) (b:Nat):Prop:=∃k,own a k b
def R_ (S:Slots) (i:Int):Nat:=((live 0 S).filter fun x=>x.2.sw==i).length
structure Inv (c:Cf) (e:ES):Prop where
 ql:e.Q.length=c.sw.len
 cn:∀i,YD c i->QN.at_ e.Q i=(R_ e.S i:Int)
 gv:∀o:PN.O3,o∈e.G.map (·.1)↔∃(j:Nat) (b:Bnd),e.S[j]? =some (some b)/\(b.opr,b.oad,b.opo)=o
 mp:∀(j:Nat) (b:Bnd),e.S[j]? =some (some b)->PY c b
end Go.Proofs.EN
end
section
namespace Go.Proofs.EN
open Gp Go.Proofs
open Gp.Bind (Bnd Slots live GoodB freeN getS In64)
set_option maxRecDepth 100000
set_option maxHeartbeats 1000000
theorem abA {S:Slots} {i:Nat} {b:Bnd} (h:freeN S=some i) (k:Int):R_ (S.set i (some b)) k=R_ S k+if b.sw=k then 1 else 0:=by
 obtain⟨_,_,_,_,_,_,h7⟩:=Gp.Bind.uO 0 h
 have e:(live 0 S).filter (fun x=>x.2.sw==k)=((live 0 S).take i).filter (fun x=>x.2.sw==k)++((live 0 S).drop i).filter (fun x=>x.2.sw==k):=by
  rw [<- List.filter_append,List.take_append_drop]
 unfold R_
 rw [h7 b,e,List.filter_append,List.length_append,List.length_append,List.filter_cons]
 by_cases hb:b.sw=k
 ·subst hb
  simp only [beq_self_eq_true,if_true,List.length_cons];omega
 ·have:(b.sw==k)=false:=by simpa using hb
  simp [this,hb]
theorem at_set {l:List Int} {i j v:Int} (hi:0<=i) (hl:i<(l.length:Int)) (hj:0<=j):QN.at_ (l.set i.toNat v) j=if i=j then v else QN.at_ l j:=by
 unfold QN.at_
 rw [List.getD_eq_getElem?_getD,List.getD_eq_getElem?_getD,List.getElem?_set]
 by_cases h:i=j
 ·subst h
  simp only [if_true]
  rw [if_pos (by omega)];rfl
 ·have:¬i.toNat=j.toNat:=by omega
  simp [this,h]
variable {c:Cf} {e:ES}
theorem Inv.add (h:Inv c e) {i:Nat} {b:Bnd} (hf:freeN e.S=some i) (hm:PY c b) (Mi Mo:ByteArray->Option Int):
  Inv c {e with S:=e.S.set i (some b),Mi:=Mi,Mo:=Mo,Q:=e.Q.set b.sw.toNat (QN.at_ e.Q b.sw+1),G:=Ej e.G (b.opr,b.oad,b.opo) ()}:=by
 have hsw:=hm.2.2.2.2.2.2
 obtain⟨s0,s1⟩:=hsw
 obtain⟨hil,hin,_⟩:=Gp.Bind.uO 0 hf
 have hql:=h.ql
 have hg:∀(j:Nat) (x:Bnd),(e.S.set i (some b))[j]? =some (some x)↔(j=i/\x=b)\/(j≠i/\e.S[j]? =some (some x)):=by
  intro j x
  rw [List.getElem?_set]
  by_cases hj:i=j
  ·subst hj
   simp [hil,eq_comm]
  ·have:j≠i:=fun h=>hj h.symm
   simp [hj,this]
 refine⟨by simp [hql],fun k hk=> ?_,fun o=> ?_,fun j x hx=> ?_⟩
 ·rw [at_set s0 (by omega) hk.1,abA hf]
  by_cases hb:b.sw=k
  ·subst hb
   simp only [if_true]
   rw [h.cn _ ⟨s0,s1⟩];omega
  ·simp only [hb,if_false]
   rw [h.cn _ hk];omega
 ·have hold:o∈e.G.map (·.1)↔∃(j:Nat) (x:Bnd),j≠i/\e.S[j]? =some (some x)/\(x.opr,x.oad,x.opo)=o:=by
   rw [h.gv]
   constructor
   ·rintro⟨j,x,hx,ho⟩
    exact⟨j,x,(fun hj=>by rw [hj,hin] at hx;cases hx),hx,ho⟩
   ·rintro⟨j,x,_,hx,ho⟩;exact⟨j,x,hx,ho⟩
  have hm':o∈(Ej e.G (b.opr,b.oad,b.opo) ()).map (·.1)↔o∈e.G.map (·.1)\/(b.opr,b.oad,b.opo)=o:=by
   rw [SI]
   split
   ·rename_i hin'
    exact⟨.inl,fun h=>h.elim id fun h=>h ▸ hin'⟩
   ·rw [List.mem_append,List.mem_singleton,eq_comm (a:=o)]
  show o∈(Ej e.G (b.opr,b.oad,b.opo) ()).map (·.1)↔_
  rw [hm',hold]
  constructor
  ·rintro(⟨j,x,hj,hx,ho⟩|ho)
   ·exact⟨j,x,(hg j x).2 (.inr ⟨hj,hx⟩),ho⟩
   ·exact⟨i,b,(hg i b).2 (.inl ⟨rfl,rfl⟩),ho⟩
  ·rintro⟨j,x,hx,ho⟩
   rcases(hg j x).1 hx with ⟨rfl,rfl⟩|⟨hj,hx⟩
   ·exact .inr ho
   ·exact .inl ⟨j,x,hj,hx,ho⟩
 ·rcases(hg j x).1 hx with ⟨rfl,rfl⟩|⟨_,hx⟩
  ·exact hm
  ·exact h.mp j x hx
theorem Ho:∀{S:Slots} {i k:Nat} {b:Bnd},S[i]? =some (some b)->∃A B,live k S=A++(((k+i:Nat):Int),b)::B/\live k (S.set i none)=A++B
 |none::r,0,k,b,h=>by simp at h
 |some x::r,0,k,b,h=>by
  simp at h;subst h
  exact⟨[],live (k+1) r,by simp [live],by simp [live]⟩
 |none::r,i+1,k,b,h=>by
  obtain⟨A,B,h1,h2⟩:=Ho (S:=r) (k:=k+1) (i:=i) (by simpa using h)
  refine⟨A,B,?_,?_⟩
  ·show live (k+1) r=_
   rw [h1];congr 3;push_cast;omega
  ·show live (k+1) (r.set i none)=_
   exact h2
 |some x::r,i+1,k,b,h=>by
  obtain⟨A,B,h1,h2⟩:=Ho (S:=r) (k:=k+1) (i:=i) (by simpa using h)
  refine⟨((k:Int),x)::A,B,?_,?_⟩
  ·show ((k:Int),x)::live (k+1) r=_
   rw [h1,List.cons_append];congr 4;push_cast;omega
  ·show ((k:Int),x)::live (k+1) (r.set i none)=_
   rw [h2];rfl
theorem QC {S:Slots} {i:Nat} {b:Bnd} (h:S[i]? =some (some b)) (k:Int):R_ S k=R_ (S.set i none) k+if b.sw=k then 1 else 0:=by
 obtain⟨A,B,h1,h2⟩:=Ho (k:=0) h
 unfold R_
 rw [h1,h2,List.filter_append,List.filter_append,List.length_append,List.length_append,List.filter_cons]
 by_cases hb:b.sw=k
 ·subst hb
  simp only [beq_self_eq_true,if_true,List.length_cons];omega
 ·have:(b.sw==k)=false:=by simpa using hb
  simp [this,hb]
theorem Inv.del (h:Inv c e) (hg:GoodB e.S e.Mi e.Mo) {i:Nat} {b:Bnd} (hi:e.S[i]? =some (some b)) (hnd:(e.G.map (·.1)).Nodup)
  (one:∀(j:Nat) (x:Bnd),e.S[j]? =some (some x)->(x.opr,x.oad,x.opo)=(b.opr,b.oad,b.opo)->j=i) (Mi Mo:ByteArray->Option Int):
  Inv c {e with S:=e.S.set i none,Mi:=Mi,Mo:=Mo,Q:=e.Q.set b.sw.toNat (QN.at_ e.Q b.sw - 1),G:=uN e.G (b.opr,b.oad,b.opo)}:=by
 have hm:=h.mp i b hi
 obtain⟨s0,s1⟩:=hm.2.2.2.2.2.2
 have hql:=h.ql
 have hgs:∀(j:Nat) (x:Bnd),(e.S.set i none)[j]? =some (some x)↔j≠i/\e.S[j]? =some (some x):=by
  intro j x
  rw [List.getElem?_set]
  by_cases hj:i=j
  ·subst hj
   simp
  ·have:j≠i:=fun h=>hj h.symm
   simp [hj,this]
 have hdel:∀o,o∈(uN e.G (b.opr,b.oad,b.opo)).map (·.1)↔o≠(b.opr,b.oad,b.opo)/\o∈e.G.map (·.1):=by
  intro o
  have:=DV hnd (b.opr,b.oad,b.opo) o
  by_cases ho:o=(b.opr,b.oad,b.opo)
  ·rw [if_pos ho] at this
   have h2:=rM.1 this
   exact⟨fun h=>absurd h h2,fun h=>absurd ho h.1⟩
  ·rw [if_neg ho] at this
   constructor
   ·intro h2
    refine⟨ho,?_⟩
    refine Classical.byContradiction fun hn=> ?_
    rw [rM.2 hn] at this
    exact rM.1 this h2
   ·rintro⟨_,h2⟩
    refine Classical.byContradiction fun hn=> ?_
    rw [rM.2 hn] at this
    exact rM.1 this.symm h2
 refine⟨by simp [hql],fun k hk=> ?_,fun o=> ?_,fun j x hx=>h.mp j x ((hgs j x).1 hx).2⟩
 ·rw [at_set s0 (by omega) hk.1]
  have hc:=QC hi k
  by_cases hb:b.sw=k
  ·subst hb
   simp only [if_true] at hc ⊢
   rw [h.cn _ ⟨s0,s1⟩];omega
  ·simp only [hb,if_false] at hc ⊢
   rw [h.cn _ hk];omega
 ·rw [hdel,h.gv]
  constructor
  ·rintro⟨ho,j,x,hx,hxo⟩
   refine⟨j,x,(hgs j x).2 ⟨fun hj=> ?_,hx⟩,hxo⟩
   subst hj
   rw [hi] at hx
   cases hx
   exact ho hxo.symm
  ·rintro⟨j,x,hx,hxo⟩
   obtain⟨hj,hx⟩:=(hgs j x).1 hx
   exact⟨fun ho=>hj (one j x hx (hxo.trans ho)),j,x,hx,hxo⟩
end Go.Proofs.EN
end
section
namespace Go.Proofs.EN
open Gp Go.Proofs
open Gp.Bind (Bnd Slots live GoodB freeN getS In64)
set_option maxRecDepth 100000
set_option maxHeartbeats 1000000
theorem PY.ok {c:Cf} {b:Bnd} (h:PY c b) (hc:adY c):b.ok:=by
 obtain⟨h1,h2,h3,h4,h5,h6,h7,h8⟩:=h
 obtain⟨h2a,h2b,_⟩:=h2
 obtain⟨h3a,h3b,_⟩:=hc.hp _ h3
 have hl:=hc.sw
 constructor
 ·intro n hn
  simp only [Bnd.i,List.mem_cons,List.not_mem_nil,or_false] at hn
  unfold In64
  rcases hn with rfl|rfl|rfl|rfl<;>omega
 ·intro n hn
  simp only [Bnd.o,List.mem_cons,List.not_mem_nil,or_false] at hn
  unfold In64
  rcases hn with rfl|rfl|rfl<;>omega
theorem OV:∀{S:Slots} (k:Nat),freeN S=none->(live k S).length=S.length
 |[],_,_=>rfl
 |none::r,_,h=>by simp [freeN] at h
 |some c::r,k,h=>by
  simp only [freeN,Option.map_eq_none_iff] at h
  simp only [live,List.length_cons,OV (k+1) h]
def AX (c:Cf) (e:ES) (b:Bnd):Int:=
 if ¬PY c b then 1 else if (e.Mi (Bind.keyS b.i)).isSome||(e.Mo (Bind.keyS b.o)).isSome then 9 else if QN.AZ e.Q b.sw>=c.q then 10 else if ((live 0 e.S).length:Int)>=c.nb then 7 else 0
variable {w w':World} {a:EA} {c:Cf} {e:ES}
theorem map_ok (h:uM w a c e) (hi:Inv c e) (b:Bnd) (hst:b.st=true):
  kL (some ⟨a.x,0,none⟩) b.sw b.pr b.ad b.po b.opr b.oad b.opo w fun r w'=>r=AX c e b/\
   ((r≠0/\Ext w w')\/(r=0/\PY c b/\fD w w' (Gf a)/\∃A i Mi Mo Q G,freeN e.S=some i/\(∀x,fp A x->fp a.B x\/w.heap.size<=x)/\
    uM w' {a with B:=A} c {e with S:=e.S.set i (some b),Mi:=Mi,Mo:=Mo,Q:=Q,G:=G}/\Inv c {e with S:=e.S.set i (some b),Mi:=Mi,Mo:=Mo,Q:=Q,G:=G})):=by
 apply Iu
 refine fK fun t w1 r1 e1 z1 f1=> ?_
 have h1:=h.ext f1
 refine ni (FN h1) ?_
 rintro r w1 ⟨rfl,hw⟩
 subst hw
 simp -zeta only [Bool.not_true,cond_false,sx,r1.cell]
 refine Il (ac4 h1 b) ?_
 rintro r w2 ⟨rfl,f2⟩
 by_cases hm:PY c b
 rotate_left
 ·simp only [hm,decide_false,Bool.not_false,cond_true]
  refine⟨by unfold AX;rw [if_pos hm],.inl ⟨by decide,f1.trans f2⟩⟩
 have bok:=hm.ok h.cf
 have x2:=f2.trans (Ext.drew w2)
 have h2:=h1.ext x2
 have r2:=r1.ext x2
 simp -zeta only [hm,decide_true,Bool.not_true,cond_false,sx,h2.c2,r2.cell]
 refine yj (NT h2.db b.sw b.pr b.ad b.po bok.1) ?_
 rintro n1 t1 w3 ⟨rfl,rfl,f3⟩
 have x3:=f3.trans (Ext.drew w3)
 have h3:=h2.ext x3
 have r3:=r2.ext x3
 simp -zeta only [sx,h3.c2,r3.cell]
 refine Dt (UQ h3.db b.opr b.oad b.opo bok.2) ?_
 rintro n2 t2 w4 ⟨rfl,rfl,f4⟩
 have x4:=((f1.trans x2).trans x3).trans f4
 intro J
 have hJ:J ((e.Mi (Bind.keyS b.i)).isSome||(e.Mo (Bind.keyS b.o)).isSome):=by
  cases hd:((e.Mi (Bind.keyS b.i)).isSome||(e.Mo (Bind.keyS b.o)).isSome)
  rotate_left
  ·simp only [J,cond_true]
   exact⟨by unfold AX;rw [if_neg (not_not_intro hm),if_pos hd],.inl ⟨by decide,x4⟩⟩
  have x5:=f4.trans (Ext.drew w4)
  have h5:=h3.ext x5
  have r5:=r3.ext x5
  simp only [J,cond_false,sx,h5.c1,h5.c25,r5.cell]
  refine EK (QN.ZL h5.qr _) ?_
  rintro n w5 ⟨rfl,hw⟩
  subst hw
  refine⟨h5.c25,?_⟩
  by_cases hq:QN.AZ e.Q b.sw>=c.q
  ·simp only [hq,decide_true,cond_true]
   exact⟨by unfold AX;rw [if_neg (not_not_intro hm),if_neg (by rw [hd];decide),if_pos hq],.inl ⟨by decide,x4.trans (Ext.drew w4)⟩⟩
  simp only [hq,decide_false,cond_false]
  refine GR (Sj h5) ?_
  rintro n w6 ⟨rfl,f6⟩
  have x6:=(x4.trans (Ext.drew w4)).trans f6
  by_cases hfull:((live 0 e.S).length:Int)>=c.nb
  ·simp only [hfull,decide_true,cond_true]
   exact⟨by unfold AX;rw [if_neg (not_not_intro hm),if_neg (by rw [hd];decide),if_neg hq,if_pos hfull],.inl ⟨by decide,x6⟩⟩
  have y6:=f6.trans (Ext.drew w6)
  have h6:=h5.ext y6
  have r6:=r5.ext y6
  have xx:=x6.trans (Ext.drew w6)
  simp only [hfull,decide_false,cond_false,sx,h6.c1,r6.cell]
  obtain⟨s0,s1⟩:=hm.2.2.2.2.2.2
  have hin:QN.TS e.Q b.sw:=⟨s0,by rw [hi.ql];exact s1⟩
  have hat:QN.AZ e.Q b.sw=QN.at_ e.Q b.sw:=by unfold QN.AZ;rw [if_pos hin]
  have htk:QN.Jq e.Q c.q b.sw=(0,e.Q.set b.sw.toNat (QN.at_ e.Q b.sw+1)):=by
   unfold QN.Jq;rw [if_pos hin,if_neg (by rw [<- hat];exact hq)]
  have ht:t<w.drew.heap.size\/w.heap.size<=t:= .inr (by omega)
  refine Gs (QN.abV h6.qr h6.qo _) ?_
  rintro n w7 ⟨rfl,q7,f7⟩
  rw [htk] at q7
  have o7:QN.Y8 (e.Q.set b.sw.toNat (QN.at_ e.Q b.sw+1)) c.q:=by
   have:=QN.aaH h6.qo b.sw
   rw [htk] at this;exact this
  have h7:=(h6.adr f7 q7 o7).ext (Ext.drew w7)
  have r7:=(r6.fr f7 (fun he=>by have:=h.lt 2 a.qs (.inr rfl);omega)).drew
  simp only [sx,h7.c0,r7.cell]
  have hnG:(b.opr,b.oad,b.opo)∉e.G.map (·.1):=by
   intro hc
   obtain⟨j,x,hx,ho⟩:=(hi.gv _).1 hc
   have:e.Mo (Bind.keyS b.o)=some (j:Int):=(h.db.good.o _ _).2 ⟨j,x,hx,by simp only [Prod.mk.injEq] at ho;unfold Bnd.o;rw [ho.1,ho.2.1,ho.2.2],rfl⟩
   rw [this] at hd
   simp at hd
  have hpr:b.opr=1\/b.opr=6\/b.opr=17:=by rw [<- hm.2.2.2.2.2.1];exact hm.1
  refine I8 (PN.abB h7.pl hpr hm.2.2.1 hm.2.2.2.2.1.1 (by have:=hm.2.2.2.2.1.2;omega) hnG) ?_
  rintro n w8 ⟨rfl,p8,f8⟩
  have h8:=(h7.adn f8 p8).ext (Ext.drew w8)
  have r8:=(r7.fr f8 (fun he=>by have:=h.lt 1 a.g (.inr (.inl rfl));omega)).drew
  simp only [sx,h8.c2,r8.cell]
  have hadd:=abm h8.db b bok (h8.lt 3)
  rw [hst] at hadd
  refine Oa hadd ?_
  rintro n m w9 ⟨hr,f9,A,S',Mi',Mo',d9,hAd,hfp,hlt9,hS'⟩
  have hfree:∃i,freeN e.S=some i:=by
   cases hfn:freeN e.S with
   |some i=>exact⟨i,rfl⟩
   |none=>
    have h10:=OV 0 hfn
    have h11:=h.db.len
    have:=h.cf.b1
    omega
  obtain⟨i,hfi⟩:=hfree
  have hadds:I7 e.S e.Mi e.Mo b=((i:Int),0):=by
   unfold I7;rw [hd,if_neg (by decide),hfi]
  simp only [hadds] at hr hS'
  simp only [if_true,Int.toNat_natCast] at hS'
  cases hr
  subst hS'
  have h9:=h8.setB f9 d9 hAd (fun x hx=>hfp x hx) hlt9
  have m0:AX c e b=0:=by
   unfold AX;rw [if_neg (not_not_intro hm),if_neg (by rw [hd];decide),if_neg hq,if_neg hfull]
  refine⟨m0.symm,.inr ⟨rfl,by trivial,?_,A,i,Mi',Mo',_,_,hfi,fun x hx=> ?_,h9,hi.add hfi hm Mi' Mo'⟩⟩
  ·have g7:fD w w7 (Gf a):=(xx.fr f7).mono fun y hy=>⟨2,.inr hy⟩
   have g8:fD w w8 (Gf a):=(g7.ext (Ext.drew _)).trans f8 fun y _ hy=>⟨1,.inr (.inl hy)⟩
   exact(g8.ext (Ext.drew _)).trans f9 fun y _ hy=>⟨3,hy⟩
  ·rcases hfp x hx with hx|hx
   ·exact .inl hx
   ·refine .inr ?_
    have e7:=f7.size
    have e8:=f8.size
    have ex:=xx.size
    have d7:w7.drew.heap.size=w7.heap.size:=rfl
    have d8:w8.drew.heap.size=w8.heap.size:=rfl
    omega
 cases hd1:(e.Mi (Bind.keyS b.i)).isSome
 ·rw [hd1,Bool.false_or] at hJ
  have:(e.Mi (Bind.keyS [b.sw,b.pr,b.ad,b.po])).isSome=false:=hd1
  simp -zeta only [this,cond_false]
  exact hJ
 ·rw [hd1,Bool.true_or] at hJ
  have:(e.Mi (Bind.keyS [b.sw,b.pr,b.ad,b.po])).isSome=true:=hd1
  simp -zeta only [this,cond_true]
  exact hJ
end Go.Proofs.EN
end
section
namespace Go.Proofs.EN
open Gp Go.Proofs
open Gp.Bind (Bnd Slots live GoodB freeN getS In64)
set_option maxRecDepth 100000
set_option maxHeartbeats 1000000
variable {w w':World} {a:EA} {c:Cf} {e:ES}
theorem ac0 (w:World) (d:Nat) (k:Int):lM (some ⟨d,0,none⟩) k w fun v w'=>Ext w w'/\∃f0 f1,v=Value.func (.func xJ) #[] #[(Value.pointer (some ⟨f0,0,none⟩)),(Value.pointer (some ⟨f1,0,none⟩))]/\Row w' f0 [.pointer (some ⟨d,0,none⟩)]/\Row w' f1 [.int .i64 k]:=by
 apply GH
 refine⟨rfl,?_⟩
 refine fK fun f0 w1 r1 e1 z1 g1=>⟨rfl,?_⟩
 refine fK fun f1 w2 r2 e2 z2 g2=> ?_
 exact⟨g1.trans g2,f0,f1,rfl,r1.ext g2,r2⟩
theorem aaS (h:uM w a c e) {id:Int} (h0:SN.VE e.SS id=[]):kU (some ⟨a.x,0,none⟩) id w fun w'=>Ext w w':=by
 apply Fe
 refine⟨rfl,?_⟩
 refine fK fun t w1 r1 e1 z1 f1=> ?_
 have h1:=h.ext f1
 simp only [sx,r1.cell,h1.c3]
 refine F9 (ac0 w1 _ _) ?_
 rintro v w2 ⟨f2,g0,g1,rfl,p0,p1⟩
 have h2:=h1.ext f2
 have hla:lg none w2=w2.heap.size+1:=rfl
 have hz:=(f1.trans f2).size
 have fin:∀W,Ext w2 W->Ext w (W.putObj w2.heap.size (.deferred none)):=fun W hx=>(((f1.trans f2).trans hx).fr (fD.jC W w2.heap.size _)).new fun b hb he=>by omega
 refine Yn (SN.aa6 c.ns.toNat e.SS e.M a.T g0 g1 id) (fun _ W=>Ext w2 W) (fun _ _=>False) (by simp) (fun W f _=>f) ?_ ?_ (by intro e W W' h;exact h.elim) (by intro e W h;exact h.elim) ?_ ?_ (by intro W h;exact h.elim) (by intro id W h;exact h.elim)
 ·intro i W hx
  exact⟨p0.ext hx,p1.ext hx,h2.se.ext hx⟩
 ·intro i W W' hx hf
  exact(hx.fr hf).new fun b hb he=>by omega
 ·intro i x W Kb hx
  rw [h0] at hx
  simp [SN.yS] at hx
 ·intro W hx hm
  exact⟨hm rfl,fin W hx⟩
def NoS (e:ES):Prop:=live0 e.SS=[] where live0:=Gp.Ses.live 0
theorem NoS.of {e:ES} (h:NoS e) (id:Int):SN.VE e.SS id=[]:=by
 unfold SN.VE
 have:Gp.Ses.live 0 e.SS=[]:=h
 rw [this];rfl
theorem KF {S:Slots} {Mi Mo:ByteArray->Option Int} (hg:GoodB S Mi Mo) {i j:Nat} {b x:Bnd} (hi:S[i]? =some (some b)) (hj:S[j]? =some (some x)) (h:(x.opr,x.oad,x.opo)=(b.opr,b.oad,b.opo)):j=i:=by
 have h1:Mo (Bind.keyS b.o)=some (i:Int):=(hg.o _ _).2 ⟨i,b,hi,rfl,rfl⟩
 have e:x.o=b.o:=by simp only [Prod.mk.injEq] at h;unfold Bnd.o;rw [h.1,h.2.1,h.2.2]
 have h2:Mo (Bind.keyS b.o)=some (j:Int):=(hg.o _ _).2 ⟨j,x,hj,by rw [e],rfl⟩
 rw [h1] at h2
 simp at h2;omega
theorem WU (h:uM w a c e) (hi:Inv c e) (hs:NoS e) {i:Nat} {b:Bnd} (hb:e.S[i]? =some (some b)):
  jV (some ⟨a.x,0,none⟩) (i:Int) w fun w'=>fD w w' (Gf a)/\∃Mi Mo Q G,uM w' a c {e with S:=e.S.set i none,Mi:=Mi,Mo:=Mo,Q:=Q,G:=G}/\Inv c {e with S:=e.S.set i none,Mi:=Mi,Mo:=Mo,Q:=Q,G:=G}:=by
 apply Dj
 have hgs:getS e.S (i:Int)=some b:=Gp.Bind.Bv.2 ⟨by omega,by rw [Int.toNat_natCast];exact hb⟩
 simp only [sx,h.c2]
 refine EU (XL h.db _) ?_
 rintro a1 a2 a3 a4 a5 a6 a7 a8 r w1 ⟨rfl,hr,f1⟩
 rw [hgs] at hr
 obtain⟨rfl,rfl,rfl,rfl,rfl,rfl,rfl,rfl⟩:=hr
 simp only [hgs,Option.getD_some,Option.isSome_some]
 refine fK fun t w2 r2 e2 z2 f2=> ?_
 refine fP r2 (by rfl) (by rfl) fun w3 r3 f3 z3=> ?_
 have x3:Ext w w3:=(f1.trans f2).new (f3 (·=t) rfl) fun y hy he=>by have:=f1.size;omega
 have ht:w.heap.size<=t:=by have:=f1.size;omega
 have h3:=h.ext x3
 simp only [Bool.not_true,cond_false]
 refine ER (aaS h3 (hs.of _)) ?_
 intro w4 f4
 have h4:=h3.ext f4
 have r4:=r3.ext f4
 have x4:=x3.trans f4
 simp only [sx,h4.c2]
 refine JH (VR h4.db _ (h4.lt 3)) ?_
 rintro r w5 ⟨_,f5,Mi',Mo',d5⟩
 rw [hgs] at d5
 simp only [Option.isSome_some,if_true,Int.toNat_natCast] at d5
 have h5:=(h4.setB f5 d5 rfl (fun x hx=> .inl hx) (fun x hx=>Nat.lt_of_lt_of_le (h4.lt 3 x hx) f5.size)).ext (Ext.drew w5)
 have r5:=(r4.fr f5 (fun he=>by have:=h.lt 3 t he;omega)).drew
 have g5:fD w w5 (Gf a):=(x4.fr f5).mono fun y hy=>⟨3,hy⟩
 have hmG:(b.opr,b.oad,b.opo)∈e.G.map (·.1):=(hi.gv _).2 ⟨i,b,hb,rfl⟩
 simp only [sx,h5.c0,r5.cell]
 refine JO (PN.abK h5.pl hmG) ?_
 rintro r w6 ⟨rfl,p6,f6⟩
 have h6:=(h5.adn f6 p6).ext (Ext.drew w6)
 have r6:=(r5.fr f6 (fun he=>by have:=h.lt 1 a.g (.inr (.inl rfl));have he:t=a.g:=he;omega)).drew
 have g6:fD w w6 (Gf a):=(g5.ext (Ext.drew _)).trans f6 fun y _ hy=>⟨1,.inr (.inl hy)⟩
 simp only [sx,h6.c1,r6.cell]
 obtain⟨s0,s1⟩:=(hi.mp i b hb).2.2.2.2.2.2
 have hin:QN.TS e.Q b.sw:=⟨s0,by rw [hi.ql];exact s1⟩
 have hne:¬QN.at_ e.Q b.sw=0:=by
  rw [hi.cn _ ⟨s0,s1⟩]
  have:=QC hb b.sw
  rw [if_pos rfl] at this
  omega
 have hgv:QN.G9 e.Q b.sw=(0,e.Q.set b.sw.toNat (QN.at_ e.Q b.sw - 1)):=by
  unfold QN.G9;rw [if_pos hin,if_neg hne]
 refine Gm (QN.abC h6.qr h6.qo _) ?_
 rintro r w7 ⟨rfl,q7,f7⟩
 have o7:=QN.Zr h6.qo b.sw
 rw [show QN.G9 ({e with S:=e.S.set i none,Mi:=Mi',Mo:=Mo',G:=uN e.G (b.opr,b.oad,b.opo)}:ES).Q b.sw=_ from hgv] at q7 o7
 refine⟨(g6.ext (Ext.drew _)).trans f7 fun y _ hy=>⟨2,.inr hy⟩,Mi',Mo',_,_,h6.adr f7 q7 o7,?_⟩
 exact hi.del h.db.good hb h.pl.nd (fun j x hx ho=>KF h.db.good hb hx ho) Mi' Mo'
end Go.Proofs.EN
end
section
namespace Go.Proofs.EN
open Gp Go.Proofs
open Gp.Bind (Bnd Slots live GoodB freeN getS In64)
set_option maxRecDepth 100000
set_option maxHeartbeats 1000000
variable {w w':World} {a:EA} {c:Cf} {e:ES}
theorem Za (h:uM w a c e) (hi:Inv c e) (hs:NoS e) {i:Nat} {b:Bnd} (hb:e.S[i]? =some (some b)) (hst:b.st=true):
  kY (some ⟨a.x,0,none⟩) b.sw b.pr b.ad b.po w fun r w'=>r=0/\fD w w' (Gf a)/\∃Mi Mo Q G,uM w' a c {e with S:=e.S.set i none,Mi:=Mi,Mo:=Mo,Q:=Q,G:=G}/\Inv c {e with S:=e.S.set i none,Mi:=Mi,Mo:=Mo,Q:=Q,G:=G}:=by
 apply Eo
 have bok:=h.db.good.ok i b hb
 have hgs:getS e.S (i:Int)=some b:=Gp.Bind.Bv.2 ⟨by omega,by rw [Int.toNat_natCast];exact hb⟩
 refine fK fun t w1 r1 e1 z1 f1=> ?_
 have h1:=h.ext f1
 refine ni (FN h1) ?_
 rintro r w1 ⟨rfl,hw⟩
 subst hw
 have h1d:=h1.ext (Ext.drew w1)
 simp only [Bool.not_true,cond_false,sx,h1d.c2,r1.drew.cell]
 refine yj (NT h1d.db b.sw b.pr b.ad b.po bok.1) ?_
 rintro n t1 w2 ⟨rfl,rfl,f2⟩
 have hmi:e.Mi (Bind.keyS [b.sw,b.pr,b.ad,b.po])=some (i:Int):=(h.db.good.i _ _).2 ⟨i,b,hb,rfl,rfl⟩
 have h2:=h1d.ext f2
 have x2:=(f1.trans (Ext.drew w1)).trans f2
 simp only [hmi,Option.isSome_some,Option.getD_some,sx,h2.c2]
 refine EU (XL h2.db _) ?_
 rintro a1 a2 a3 a4 a5 a6 a7 a8 r w3 ⟨_,hr,f3⟩
 rw [hgs] at hr
 obtain⟨rfl,rfl,rfl,rfl,rfl,rfl,rfl,rfl⟩:=hr
 simp only [Option.getD_some]
 refine fK fun u w4 r4 e4 z4 f4=> ?_
 refine fP r4 (by rfl) (by rfl) fun w5 r5 f5 z5=> ?_
 have x5:Ext w w5:=((x2.trans f3).trans f4).new (f5 (·=u) rfl) fun y hy he=>by have:=(x2.trans f3).size;omega
 have h5:=h.ext x5
 simp only [Bool.not_true,cond_false,sx,r5.cell,hst]
 refine CP (WU h5 hi hs hb) ?_
 rintro w6 ⟨f6,Mi,Mo,Q,G,h6,i6⟩
 exact⟨by trivial,x5.fr f6,Mi,Mo,Q,G,h6,i6⟩
end Go.Proofs.EN
namespace Go.Proofs.WN
open Gp Gp.Wh
set_option maxRecDepth 100000
variable {w w':World} {d m:Nat} {ss:List b_} {l:PL} {now:Nat} {tn most:Int} {F:Fs}
theorem VN (h:WS w d m ss l now tn most F) {id:Int} {t:Tm} (hl:jl l id=some t):
  jG (some ⟨d,0,none⟩) id w fun r w'=>r=true/\fD w w' (mF d m ss)/\∃ss' F',WS w' d m ss' (uN l id) now tn most F'/\∀b,mF d m ss' b->mF d m ss b\/w.heap.size<=b:=by
 apply wB
 refine kF (BH h.wm) ?_
 rintro r w1 ⟨rfl,hw⟩
 subst hw
 simp only [Bool.not_true,cond_false,sx,h.wm.SH]
 refine FQ (enc:=MI) (ev:=evT) h.wm.mp eqW id (WV _) (fun hc=>by rw [hl] at hc;cases hc) (fun t' ht'=> ?_)
 rw [hl] at ht'
 cases ht'
 refine⟨_,_,_,rfl,?_⟩
 refine fK fun p w2 r2 e2 z2 f2=> ?_
 refine fP r2 (by rfl) (by rfl) fun w3 r3 f3 z3=> ?_
 have x3:Ext w1 w3:=f2.new (f3 (·=p) rfl) fun y hy he=>by omega
 have h3:=h.ext x3
 simp only [Bool.not_true,cond_false,sx,r3.cell]
 obtain⟨hid,ha1,ha2⟩:=h.wi.pl id t hl
 have hnd:=h.wm.nd
 refine yE (Vh h3.wm h.wi.nw t ha2) ?_
 rintro w4 ⟨f4,n,ss',hn7,hLv,m4,hsub⟩
 simp only [sx,m4.SH]
 refine m4.adX id fun w5 m5 f5 z5=> ?_
 have hP:jl (uN l id)=Bz (jl l) id none:=by
  funext id'
  rw [DV hnd]
  unfold Bz
  split<;>rfl
 have hlk:∀i u,jl (uN l id) i=some u->jl l i=some u:=by
  intro i u hu
  rw [DV hnd] at hu
  split at hu
  ·cases hu
  ·exact hu
 refine⟨by trivial,?_,ss',_,⟨m5,?_,⟨h.mo.1,?_⟩,fun i u hu=>h.tb i u (hlk i u hu),fun i i' u u' hu hu' ht=>h.ti i i' u u' (hlk i u hu) (hlk i' u' hu') ht,h.t0⟩,fun b hb=> ?_⟩
 ·exact(x3.fr f4).trans f5 fun b _ hb=> .inr (.inl hb)
 ·rw [hP,hid]
  exact h.wi.take hl hLv
 ·have:=(Jm l id).length_le
  have:=h.mo.2
  omega
 ·rcases hsub b hb with hb|hb
  ·exact .inl hb
  ·exact .inr (by have:=x3.size;omega)
theorem Ug:∀{l:PL} {id:Int},jl l id=none->uN l id=l
 |[],_,_=>rfl
 |x::l,id,h=>by
  unfold jl at h
  unfold uN
  split at h
  ·cases h
  ·rename_i hx
   rw [if_neg hx,Ug h]
theorem Va (h:WS w d m ss l now tn most F) (id:Int):
  jG (some ⟨d,0,none⟩) id w fun r w'=>r=(jl l id).isSome/\fD w w' (mF d m ss)/\∃ss' F',WS w' d m ss' (uN l id) now tn most F'/\∀b,mF d m ss' b->mF d m ss b\/w.heap.size<=b:=by
 cases hl:jl l id with
 |some t=>exact wC (VN h hl) fun r w' ⟨h1,h2,h3⟩=>⟨h1,h2,h3⟩
 |none=>
 apply wB
 refine kF (BH h.wm) ?_
 rintro r w1 ⟨rfl,hw⟩
 subst hw
 simp only [Bool.not_true,cond_false,sx,h.wm.SH]
 refine FQ (enc:=MI) (ev:=evT) h.wm.mp eqW id (WV _) (fun _=> ?_) (fun t' ht'=>by rw [hl] at ht';cases ht')
 refine⟨_,_,_,rfl,?_⟩
 refine fK fun p w2 r2 e2 z2 f2=> ?_
 refine fP r2 (by rfl) (by rfl) fun w3 r3 f3 z3=> ?_
 have x3:Ext w1 w3:=f2.new (f3 (·=p) rfl) fun y hy he=>by omega
 simp only [Bool.not_false,cond_true]
 refine⟨rfl,x3 _,ss,F,?_,fun b hb=> .inl hb⟩
 rw [Ug hl]
 exact h.ext x3
end Go.Proofs.WN
end
section
namespace Gp
open Go
variable {α β:Type} [DecidableEq α] {enc:α->Value} {ev:β->Value} {w:World} {r:Nat} {l:List (α×β)} {P:Program} {kt:TypeId}
theorem Pe (h:oz enc ev w r l) (hE:∀a b:α,A_ P 16 kt (enc a) (enc b)=some (decide (a=b))) (a:α) (hk:kZ P kt (enc a)=true) (hn:jl l a=none) (z:Value) (b:β) {K:Value->Int->World->Prop}
  (hK:∀n w1,(∀{K2:World->Prop},(∀w',oz enc ev w' r (Ej l a b)->fD w w' (·=r)->w'.heap.size=w.heap.size->K2 w')->U3 (some r) n (ev b) w1 K2)->K z n w1):Ny P kt (some r) (enc a) z w K:=by
 obtain⟨es,c,h1,h2,h3,h4⟩:=h
 have hlt:=(Array.getElem?_eq_some_iff.1 h1).1
 rcases FD hE a b es.toList _ 0 h2 with ⟨_,q2,q3⟩|⟨j,v,e,q1,_⟩
 rotate_left
 ·rw [hn] at q1;cases q1
 refine⟨hk,r,es,c,rfl,h1,none,q2,?_⟩
 refine hK _ _ fun {K2} hK2=> ?_
 have hg:(w.putObj r (.map (es.push {key:=enc a,val:=z,born:=c}) (c+1))).heap[r]? =some (.map (es.push {key:=enc a,val:=z,born:=c}) (c+1)):=by
  simp [World.putObj,Array.getElem?_setIfInBounds,hlt]
 have hf:(es.push {key:=enc a,val:=z,born:=c}).findIdx? (fun e=>(e.born:Int)==(c:Int))=some es.size:=by
  rw [Array.findIdx?_eq_some_iff_getElem]
  refine⟨by simp,by simp,fun j hj=> ?_⟩
  have hj':j<es.size:=hj
  rw [Array.getElem_push_lt hj']
  have:=h4 es[j] (by simp)
  simp;omega
 refine⟨r,_,_,_,rfl,hg,hf,?_⟩
 have hm:(es.push {key:=enc a,val:=z,born:=c}).modify es.size (fun e=>{e with val:=ev b})=es.push {key:=enc a,val:=ev b,born:=c}:=by
  apply Array.ext
  ·simp
  ·intro i hi1 hi2
   simp only [Array.getElem_modify]
   split
   ·rename_i he;subst he;simp
   ·rename_i he
    have:i<es.size:=by simp at hi1;omega
    rw [Array.getElem_push_lt this,Array.getElem_push_lt this]
 rw [hm]
 refine hK2 _ ⟨es.push {key:=enc a,val:=ev b,born:=c},c+1,by simp [World.putObj,Array.getElem?_setIfInBounds,hlt],?_,?_,?_⟩ ((fD.jC _ _ _).trans (fD.jC _ _ _) fun _ _ e=>e) (by simp [World.putObj])
 ·rw [q3]
  simp [h2]
 ·rw [Array.toList_push,List.map_append,List.nodup_append]
  refine⟨h3,by simp,fun x hx y hy e=> ?_⟩
  obtain⟨e',he',rfl⟩:=List.mem_map.1 hx
  have:=h4 e' he'
  simp at hy
  omega
 ·intro e he
  rw [Array.toList_push] at he
  rcases List.mem_append.1 he with he|he
  ·have:=h4 e he;omega
  ·rw [List.mem_singleton.1 he];simp
end Gp
end
section
namespace Go.Proofs.PS
open Gp Go.Proofs Go.Proofs.EN
open Gp.Bind (Bnd Slots live GoodB freeN getS In64)
open Gp.Wh (Tm)
set_option maxRecDepth 100000
set_option maxHeartbeats 1000000
abbrev I4:=Int×Int×Int×Int
def encI (x:I4):Value:= .agg ⟨[.int .i64 x.1,.int .i64 x.2.1,.int .i64 x.2.2.1,.int .i64 x.2.2.2]⟩
def zA (x:Int):Value:= .int .i64 x
def VG (n:Nat):Value:= .pointer (some ⟨n,0,none⟩)
theorem eqI (a b:I4):A_ Tryz.prog 16 78 (encI a) (encI b)=some (decide (a=b)):=by
 have h:A_ Tryz.prog 16 78 (encI a) (encI b)=some ((a.1==b.1) && ((a.2.1==b.2.1) && ((a.2.2.1==b.2.2.1) && ((a.2.2.2==b.2.2.2) && true)))):=by kernel_rfl
 rw [h]
 obtain⟨a1,a2,a3,a4⟩:=a
 obtain⟨b1,b2,b3,b4⟩:=b
 have ib:∀x y:Int,(x==y)=decide (x=y):=fun _ _=>rfl
 simp [ib,Bool.decide_and]
theorem Yh (a:I4):kZ Tryz.prog 78 (encI a)=true:=by
 unfold kZ
 rw [eqI];rfl
theorem eqN (a b:Int):A_ Tryz.prog 16 3 (zA a) (zA b)=some (decide (a=b)):=WN.eqW a b
theorem VP (a:Int):kZ Tryz.prog 3 (zA a)=true:=WN.WV a
structure gW where
 blk:Nat
 b:Bnd
 un:Int
 id:Int
def gW.v (x:gW):List Value:=[.int .i64 x.b.sw,.int .i64 x.b.pr,.int .i64 x.b.ad,.int .i64 x.b.po,.int .i64 x.b.opr,.int .i64 x.b.oad,.int .i64 x.b.opo,.int .i64 x.un,.int .i64 x.id]
def gW.k (x:gW):I4:=(x.b.sw,x.b.pr,x.b.ad,x.b.po)
structure SA where
 s:Nat
 a:EA
 d:Nat
 m:Nat
 ss:List b_
 ml:Nat
 mi:Nat
structure SV where
 e:ES
 now:Nat
 wn:Nat
 nx:Int
 most:Int
 L:List gW
 LI:List (I4×Nat)
 LD:List (Int×Nat)
 l:WN.PL
 tn:Int
 F:Gp.Wh.Fs
def own (A:SA) (L:List gW):Nat->Nat->Prop
 |0,b=>b=A.s
 |1,b=>Gf A.a b
 |2,b=>WN.mF A.d A.m A.ss b
 |3,b=>b=A.ml
 |4,b=>b=A.mi
 |5,b=>∃x∈L,x.blk=b
 |_,_=>False
def jy (A:SA) (L:List gW) (b:Nat):Prop:=∃k,own A L k b
structure Srv (w:World) (A:SA) (c:Cf) (v:SV):Prop where
 hd:Row w A.s [.pointer (some ⟨A.a.x,0,none⟩),.pointer (some ⟨A.d,0,none⟩),.map (some A.ml),.map (some A.mi),.int .i64 (v.now:Int),.int .i64 v.nx,.int .i64 v.most]
 en:uM w A.a c v.e
 wh:WN.WS w A.d A.m A.ss v.l v.wn v.tn v.most v.F
 li:oz encI VG w A.ml v.LI
 ld:oz zA VG w A.mi v.LD
 nI:(v.LI.map (·.1)).Nodup
 nD:(v.LD.map (·.1)).Nodup
 rw:∀x∈v.L,Row w x.blk x.v
 ap:∀k k' b,own A v.L k b->own A v.L k' b->k=k'
 lt:∀k b,own A v.L k b->b<w.heap.size
 bn:(v.L.map (·.blk)).Nodup
variable {w w':World} {A:SA} {c:Cf} {v:SV}
theorem Srv.off (h:Srv w A c v) {j k b:Nat} (hk:own A v.L k b) (hn:k≠j):¬own A v.L j b:=fun hj=>hn (h.ap k j b hk hj)
theorem Srv.fr {S:Nat->Prop} (h:Srv w A c v) (hf:fD w w' S) (hs:∀k b,own A v.L k b->¬S b):Srv w' A c v:=
 ⟨h.hd.fr hf (hs 0 _ rfl),h.en.fr hf (fun k b hb=>hs 1 b ⟨k,hb⟩),h.wh.fr hf (hs 2),h.li.fr hf (hs 3 _ rfl),h.ld.fr hf (hs 4 _ rfl),h.nI,h.nD,fun x hx=>(h.rw x hx).fr hf (hs 5 _ ⟨x,hx,rfl⟩),h.ap,
  fun k b hb=>Nat.lt_of_lt_of_le (h.lt k b hb) hf.size,h.bn⟩
theorem Srv.ext (h:Srv w A c v) (hf:Ext w w'):Srv w' A c v:=h.fr (hf fun _=>False) (fun _ _ _=>by simp)
theorem zh (h:Srv w A c v):ji (some ⟨A.s,0,none⟩) w fun r w'=>r=true/\w'=w:=by
 apply Fb
 simp only [sx,h.hd.cell,Bool.not_false]
 exact⟨by trivial,by trivial⟩
theorem Srv.setW (h:Srv w A c v) {ss:List b_} {l:WN.PL} {tn:Int} {F:Gp.Wh.Fs} (hf:fD w w' (own A v.L 2)) {wn:Nat} (hw:WN.WS w' A.d A.m ss l wn tn v.most F) (hfp:∀x,WN.mF A.d A.m ss x->WN.mF A.d A.m A.ss x\/w.heap.size<=x):
  Srv w' {A with ss:=ss} c {v with wn:=wn,l:=l,tn:=tn,F:=F}:=by
 have same:∀k b,k≠2->own {A with ss:=ss} v.L k b->own A v.L k b:=by
  intro k b hk ho
  match k,ho with
  |0,ho=>exact ho
  |1,ho=>exact ho
  |2,_=>exact absurd rfl hk
  |3,ho=>exact ho
  |4,ho=>exact ho
  |5,ho=>exact ho
  |(n+6),ho=>exact ho
 have o:∀k b,own A v.L k b->k≠2->¬own A v.L 2 b:=fun k b hk hn=>h.off hk hn
 refine⟨h.hd.fr hf (o 0 _ rfl (by decide)),h.en.fr hf (fun k b hb=>o 1 b ⟨k,hb⟩ (by decide)),hw,h.li.fr hf (o 3 _ rfl (by decide)),h.ld.fr hf (o 4 _ rfl (by decide)),h.nI,h.nD,fun x hx=>(h.rw x hx).fr hf (o 5 _ ⟨x,hx,rfl⟩ (by decide)),
  QW (j:=2) h.ap h.lt same (fun b hb=>hfp b hb),?_,h.bn⟩
 intro k b hb
 by_cases hk:k=2
 ·subst hk;exact hw.wm.lt hb
 ·exact Nat.lt_of_lt_of_le (h.lt k b (same k b hk hb)) hf.size
theorem Srv.adE (h:Srv w A c v) {n:Nat} (hf:fD w w' (·=A.s)) (hr:Row w' A.s [.pointer (some ⟨A.a.x,0,none⟩),.pointer (some ⟨A.d,0,none⟩),.map (some A.ml),.map (some A.mi),.int .i64 (n:Int),.int .i64 v.nx,.int .i64 v.most]):Srv w' A c {v with now:=n}:=by
 have o:∀k b,own A v.L k b->k≠0->¬b=A.s:=fun k b hk hn he=>h.off (j:=0) hk hn he
 exact⟨hr,h.en.fr hf (fun k b hb=>o 1 b ⟨k,hb⟩ (by decide)),h.wh.fr hf (fun b hb=>o 2 b hb (by decide)),h.li.fr hf (o 3 _ rfl (by decide)),h.ld.fr hf (o 4 _ rfl (by decide)),h.nI,h.nD,fun x hx=>(h.rw x hx).fr hf (o 5 _ ⟨x,hx,rfl⟩ (by decide)),h.ap,
  fun k b hb=>Nat.lt_of_lt_of_le (h.lt k b hb) hf.size,h.bn⟩
theorem Srv.ad3 (h:Srv w A c v) {a:EA} {e:ES} (hf:fD w w' (Gf A.a)) (he:uM w' a c e) (hx:a.x=A.a.x) (hfp:∀b,Gf a b->Gf A.a b\/w.heap.size<=b):
  Srv w' {A with a:=a} c {v with e:=e}:=by
 have same:∀k b,k≠1->own {A with a:=a} v.L k b->own A v.L k b:=by
  intro k b hk ho
  match k,ho with
  |0,ho=>exact ho
  |1,_=>exact absurd rfl hk
  |2,ho=>exact ho
  |3,ho=>exact ho
  |4,ho=>exact ho
  |5,ho=>exact ho
  |(n+6),ho=>exact ho
 have o:∀k b,own A v.L k b->k≠1->¬Gf A.a b:=fun k b hk hn=>h.off (j:=1) hk hn
 refine⟨?_,he,h.wh.fr hf (fun b hb=>o 2 b hb (by decide)),h.li.fr hf (o 3 _ rfl (by decide)),h.ld.fr hf (o 4 _ rfl (by decide)),h.nI,h.nD,fun x hx=>(h.rw x hx).fr hf (o 5 _ ⟨x,hx,rfl⟩ (by decide)),
  QW (j:=1) h.ap h.lt same (fun b hb=>hfp b hb),?_,h.bn⟩
 ·have:=h.hd.fr hf (o 0 _ rfl (by decide))
  simp only [hx];exact this
 intro k b hb
 by_cases hk:k=1
 ·subst hk
  obtain⟨j,hj⟩:=hb
  exact he.lt j b hj
 ·exact Nat.lt_of_lt_of_le (h.lt k b (same k b hk hb)) hf.size
end Go.Proofs.PS
end
section
namespace Go.Proofs.PS
open Gp Go.Proofs Go.Proofs.EN
open Gp.Bind (Bnd Slots live GoodB freeN getS In64)
open Gp.Wh (Tm)
set_option maxRecDepth 100000
set_option maxHeartbeats 1000000
variable {w w':World} {A:SA} {c:Cf} {v:SV}
def Cj (n:Nat) (un:Int) (L:List gW):List gW:=L.map fun y=>if y.blk=n then {y with un:=un} else y
theorem Pj (n:Nat) (un:Int) (L:List gW):(Cj n un L).map (·.blk)=L.map (·.blk):=by
 unfold Cj
 rw [List.map_map]
 refine List.map_congr_left fun y _=> ?_
 simp only [Function.comp]
 split<;>rfl
theorem S9 {A:SA} {L L':List gW} (h:L'.map (·.blk)=L.map (·.blk)) (k b:Nat):own A L' k b↔own A L k b:=by
 match k with
 |0=>exact Iff.rfl
 |1=>exact Iff.rfl
 |2=>exact Iff.rfl
 |3=>exact Iff.rfl
 |4=>exact Iff.rfl
 |5=>
  have e:∀M:List gW,own A M 5 b↔b∈M.map (·.blk):=fun M=>by
   show (∃x∈M,x.blk=b)↔_
   rw [List.mem_map]
  rw [e,e,h]
 |(n+6)=>exact Iff.rfl
theorem M_ {L:List gW} (h:(L.map (·.blk)).Nodup) {x y:gW} (hx:x∈L) (hy:y∈L) (e:y.blk=x.blk):y=x:=by
 induction L with
 |nil=>cases hx
 |cons z L ih=>
  rw [List.map_cons,List.nodup_cons] at h
  rcases List.mem_cons.1 hx with hx|hx<;>rcases List.mem_cons.1 hy with hy|hy
  ·rw [hx,hy]
  ·exact absurd (List.mem_map.2 ⟨y,hy,by rw [e,hx]⟩) h.1
  ·exact absurd (List.mem_map.2 ⟨x,hx,by rw [<- e,hy]⟩) h.1
  ·exact ih h.2 hx hy
theorem Srv.Cj (h:Srv w A c v) {x:gW} (hx:x∈v.L) {un:Int} (hf:fD w w' (·=x.blk)) (hr:Row w' x.blk ({x with un:=un}:gW).v):Srv w' A c {v with L:=Cj x.blk un v.L}:=by
 have o:∀k b,own A v.L k b->k≠5->¬b=x.blk:=fun k b hk hn he=>h.off (j:=5) hk hn ⟨x,hx,he.symm⟩
 have hb:=Pj x.blk un v.L
 refine⟨h.hd.fr hf (o 0 _ rfl (by decide)),h.en.fr hf (fun k b hb=>o 1 b ⟨k,hb⟩ (by decide)),h.wh.fr hf (fun b hb=>o 2 b hb (by decide)),h.li.fr hf (o 3 _ rfl (by decide)),h.ld.fr hf (o 4 _ rfl (by decide)),h.nI,h.nD,?_,
  fun k k' b h1 h2=>h.ap k k' b ((S9 hb k b).1 h1) ((S9 hb k' b).1 h2),fun k b h1=>Nat.lt_of_lt_of_le (h.lt k b ((S9 hb k b).1 h1)) hf.size,by rw [hb];exact h.bn⟩
 intro y hy
 obtain⟨z,hz,rfl⟩:=List.mem_map.1 hy
 by_cases hzb:z.blk=x.blk
 ·rw [if_pos hzb]
  obtain rfl:=M_ h.bn hx hz hzb
  exact hr
 ·rw [if_neg hzb]
  exact(h.rw z hz).fr hf hzb
theorem X0 (h:Srv w A c v) {x:gW} (hx:x∈v.L) {life:Int} (hl:0<=life) (hl2:life<=4294967296) (hid:0<=x.id/\x.id<=8192) (hroom:jl v.l x.id≠none\/(v.l.length:Int)<v.most) (ht:v.tn<2^62) (hwn:v.wn=v.now):
  jX (some ⟨A.s,0,none⟩) (some ⟨x.blk,0,none⟩) life w fun w'=>fD w w' (jy A v.L)/\∃ss F,(∀b,WN.mF A.d A.m ss b->WN.mF A.d A.m A.ss b\/w.heap.size<=b)/\
   Srv w' {A with ss:=ss} c {v with L:=Cj x.blk (v.now+life) v.L,l:=Ej v.l x.id ⟨x.id,max (min ((v.now:Int)+life) 1099511627776).toNat v.wn,v.tn+1⟩,tn:=v.tn+1,F:=F}:=by
 apply GY
 have hnow:=h.wh.wi.nw
 simp only [sx,h.hd.cell]
 rw [wrap_i64 (by omega) (by omega)]
 refine gu (h.rw x hx) rfl (by simp [gW.v]) fun w1 r1 f1' z1=> ?_
 have f1:fD w w1 (·=x.blk):=f1' _ rfl
 have h1:=(h.Cj hx (un:=(v.now:Int)+life) f1 r1).ext (Ext.drew w1)
 have r1':Row w1.drew x.blk ({x with un:=(v.now:Int)+life}:gW).v:=r1.drew
 simp only [sx,h1.hd.cell,r1'.cell,gW.v]
 have hmin:(if (1099511627776:Int)<(v.now:Int)+life then 1099511627776 else (v.now:Int)+life)=min ((v.now:Int)+life) 1099511627776:=by omega
 rw [hmin]
 have ha:WN.TQ v.l v.most x.id (min ((v.now:Int)+life) 1099511627776)=0:=by
  unfold WN.TQ
  rw [if_neg (by omega),if_neg]
  rintro⟨h1,h2⟩
  rcases hroom with h3|h3
  ·exact h3 h1
  ·omega
 refine HY (WN.abS h1.wh _ _ ht) ?_
 rintro r w2 ⟨_,f2,ss,F,hfp,hw⟩
 simp only [ha,if_true] at hw
 have e1:w1.drew.heap.size=w1.heap.size:=rfl
 refine⟨?_,ss,F,fun b hb=> ?_,h1.setW f2 hw hfp⟩
 ·have g1:fD w w1 (jy A v.L):=f1.mono fun b hb=>⟨5,x,hx,hb.symm⟩
  exact(g1.ext (Ext.drew w1)).trans f2 fun b _ hb=>⟨2,hb⟩
 ·rcases hfp b hb with hb|hb
  ·exact .inl hb
  ·exact .inr (by have:=f1.size;omega)
end Go.Proofs.PS
end
section
namespace Go.Proofs.PS
open Gp Go.Proofs Go.Proofs.EN
open Gp.Bind (Bnd Slots live GoodB freeN getS In64)
open Gp.Wh (Tm)
set_option maxRecDepth 100000
set_option maxHeartbeats 1000000
variable {w w':World} {A:SA} {c:Cf} {v:SV}
theorem Srv.aco (h:Srv w A c v) {LI:List (I4×Nat)} (hf:fD w w' (·=A.ml)) (hm:oz encI VG w' A.ml LI) (hn:(LI.map (·.1)).Nodup):Srv w' A c {v with LI:=LI}:=by
 have o:∀k b,own A v.L k b->k≠3->¬b=A.ml:=fun k b hk hn he=>h.off (j:=3) hk hn he
 exact⟨h.hd.fr hf (o 0 _ rfl (by decide)),h.en.fr hf (fun k b hb=>o 1 b ⟨k,hb⟩ (by decide)),h.wh.fr hf (fun b hb=>o 2 b hb (by decide)),hm,h.ld.fr hf (o 4 _ rfl (by decide)),hn,h.nD,fun x hx=>(h.rw x hx).fr hf (o 5 _ ⟨x,hx,rfl⟩ (by decide)),h.ap,
  fun k b hb=>Nat.lt_of_lt_of_le (h.lt k b hb) hf.size,h.bn⟩
theorem Srv.ach (h:Srv w A c v) {LD:List (Int×Nat)} (hf:fD w w' (·=A.mi)) (hm:oz zA VG w' A.mi LD) (hn:(LD.map (·.1)).Nodup):Srv w' A c {v with LD:=LD}:=by
 have o:∀k b,own A v.L k b->k≠4->¬b=A.mi:=fun k b hk hn he=>h.off (j:=4) hk hn he
 exact⟨h.hd.fr hf (o 0 _ rfl (by decide)),h.en.fr hf (fun k b hb=>o 1 b ⟨k,hb⟩ (by decide)),h.wh.fr hf (fun b hb=>o 2 b hb (by decide)),h.li.fr hf (o 3 _ rfl (by decide)),hm,h.nI,hn,fun x hx=>(h.rw x hx).fr hf (o 5 _ ⟨x,hx,rfl⟩ (by decide)),h.ap,
  fun k b hb=>Nat.lt_of_lt_of_le (h.lt k b hb) hf.size,h.bn⟩
theorem Srv.aek (h:Srv w A c v) (p:gW->Bool):Srv w A c {v with L:=v.L.filter p}:=by
 have sub:∀k b,own A (v.L.filter p) k b->own A v.L k b:=by
  intro k b ho
  match k,ho with
  |0,ho=>exact ho
  |1,ho=>exact ho
  |2,ho=>exact ho
  |3,ho=>exact ho
  |4,ho=>exact ho
  |5,⟨x,hx,e⟩=>exact⟨x,(List.mem_filter.1 hx).1,e⟩
  |(n+6),ho=>exact ho
 exact⟨h.hd,h.en,h.wh,h.li,h.ld,h.nI,h.nD,fun x hx=>h.rw x (List.mem_filter.1 hx).1,fun k k' b h1 h2=>h.ap k k' b (sub k b h1) (sub k' b h2),fun k b hb=>h.lt k b (sub k b hb),
  h.bn.sublist (List.filter_sublist.map _)⟩
theorem XQ (h:Srv w A c v) (hi:Inv c v.e) (hs:NoS v.e) {x:gW} (hx:x∈v.L) {i:Nat} (hb:v.e.S[i]? =some (some x.b)) (hst:x.b.st=true):
  jZ (some ⟨A.s,0,none⟩) (some ⟨x.blk,0,none⟩) w fun w'=>fD w w' (jy A v.L)/\∃ss F Mi Mo Q G,(∀b,WN.mF A.d A.m ss b->WN.mF A.d A.m A.ss b\/w.heap.size<=b)/\
   Inv c {v.e with S:=v.e.S.set i none,Mi:=Mi,Mo:=Mo,Q:=Q,G:=G}/\
   Srv w' {A with ss:=ss} c {v with e:={v.e with S:=v.e.S.set i none,Mi:=Mi,Mo:=Mo,Q:=Q,G:=G},L:=v.L.filter fun y=> !(y.blk==x.blk),LI:=uN v.LI x.k,LD:=uN v.LD x.id,l:=uN v.l x.id,F:=F}:=by
 apply Gz
 have h1:=h.ext (Ext.drew w)
 have r1:=h1.rw x hx
 simp only [gW.v] at r1
 simp only [sx,h1.hd.cell,r1.cell]
 refine EF (Za h1.en hi hs hb hst) ?_
 rintro r w2 ⟨_,f2,Mi,Mo,Q,G,e2,i2⟩
 have h2:=(h1.ad3 f2 e2 rfl (fun b hb=> .inl hb)).ext (Ext.drew w2)
 have g2:fD w w2 (jy A v.L):=((Ext.drew w).fr f2).mono fun b hb=>⟨1,hb⟩
 have r2:=h2.rw x hx
 simp only [gW.v] at r2
 simp only [sx,h2.hd.cell,r2.cell]
 refine wC (WN.Va h2.wh x.id) ?_
 rintro r w3 ⟨_,f3,ss,F,w3h,hfp⟩
 have h3:=(h2.setW (tn:=v.tn) f3 w3h hfp).ext (Ext.drew w3)
 have g3:fD w w3 (jy A v.L):=(g2.ext (Ext.drew _)).trans f3 fun b _ hb=>⟨2,hb⟩
 have r3:=h3.rw x hx
 simp only [gW.v] at r3
 simp only [sx,h3.hd.cell,r3.cell]
 refine JR (ev:=VG) h3.li eqI x.k (Yh _) fun w4 m4 f4 z4=> ?_
 have h4:=(h3.aco f4 m4 (h3.nI.sublist ((Jm _ _).map _))).ext (Ext.drew w4)
 have g4:fD w w4 (jy A v.L):=(g3.ext (Ext.drew _)).trans f4 fun b _ hb=>⟨3,hb⟩
 have r4:=h4.rw x hx
 simp only [gW.v] at r4
 simp only [sx,h4.hd.cell,r4.cell]
 refine JR (enc:=zA) (ev:=VG) h4.ld eqN x.id (VP _) fun w5 m5 f5 z5=> ?_
 have h5:=h4.ach f5 m5 (h4.nD.sublist ((Jm _ _).map _))
 have g5:fD w w5 (jy A v.L):=(g4.ext (Ext.drew _)).trans f5 fun b _ hb=>⟨4,hb⟩
 refine⟨g5,ss,F,Mi,Mo,Q,G,fun b hb=> ?_,i2,h5.aek _⟩
 rcases hfp b hb with hb|hb
 ·exact .inl hb
 ·refine .inr ?_
  have:=g2.size
  have e2:w2.drew.heap.size=w2.heap.size:=rfl
  omega
end Go.Proofs.PS
end
section
namespace Go.Proofs.PS
open Gp Go.Proofs Go.Proofs.EN
open Gp.Bind (Bnd Slots live GoodB freeN getS In64)
open Gp.Wh (Tm)
set_option maxRecDepth 100000
set_option maxHeartbeats 1000000
structure Good (c:Cf) (Z:Bnd->Prop) (v:SV) (P:List Int):Prop where
 inv:Inv c v.e
 ns:NoS v.e
 wn:v.wn=v.now
 li:∀k n,jl v.LI k=some n↔∃x∈v.L,x.k=k/\x.blk=n
 ld:∀i n,jl v.LD i=some n↔∃x∈v.L,x.id=i/\x.blk=n
 kk:∀x∈v.L,∀y∈v.L,x.k=y.k->x=y
 ii:∀x∈v.L,∀y∈v.L,x.id=y.id->x=y
 eb:∀x∈v.L,x.b.st=true/\∃i:Nat,v.e.S[i]? =some (some x.b)
 ex:∀(j:Nat) (b:Bnd),v.e.S[j]? =some (some b)->(∃x∈v.L,x.b=b)\/Z b
 ir:∀x∈v.L,0<=x.id/\x.id<8192
 wl:∀id,(jl v.l id).isSome=true↔∃x∈v.L,x.id=id/\id∉P
 wt:∀x∈v.L,∀t,jl v.l x.id=some t->(t.a:Int)=min x.un 1099511627776
variable {w w':World} {A:SA} {c:Cf} {Z:Bnd->Prop} {v:SV}
theorem Good.drop {P P':List Int} (h:Good c Z v P) (hm:Srv w A c v) {x:gW} (hx:x∈v.L) {i:Nat} (hb:v.e.S[i]? =some (some x.b)) (hP:∀id,id≠x.id->(id∈P'↔id∈P))
  {Mi Mo:ByteArray->Option Int} {Q:List Int} {G:List (PN.O3×Unit)} (F:Gp.Wh.Fs) (hi:Inv c {v.e with S:=v.e.S.set i none,Mi:=Mi,Mo:=Mo,Q:=Q,G:=G}):
  Good c Z {v with e:={v.e with S:=v.e.S.set i none,Mi:=Mi,Mo:=Mo,Q:=Q,G:=G},L:=v.L.filter fun y=> !(y.blk==x.blk),LI:=uN v.LI x.k,LD:=uN v.LD x.id,l:=uN v.l x.id,F:=F} P':=by
 have mem:∀y,y∈(v.L.filter fun y=> !(y.blk==x.blk))↔y∈v.L/\y≠x:=by
  intro y
  rw [List.mem_filter]
  constructor
  ·rintro⟨h1,h2⟩
   refine⟨h1,fun e=> ?_⟩
   subst e
   simp at h2
  ·rintro⟨h1,h2⟩
   refine⟨h1,?_⟩
   have:y.blk≠x.blk:=fun e=>h2 (M_ hm.bn hx h1 e)
   simpa using this
 have nl:=hm.wh.wm.nd
 refine⟨hi,h.ns,h.wn,fun k n=> ?_,fun j n=> ?_,fun y hy z hz=>h.kk y ((mem y).1 hy).1 z ((mem z).1 hz).1,fun y hy z hz=>h.ii y ((mem y).1 hy).1 z ((mem z).1 hz).1,fun y hy=> ?_,fun j b hj=> ?_,fun y hy=>h.ir y ((mem y).1 hy).1,fun id=> ?_,fun y hy t ht=> ?_⟩
 ·rw [DV hm.nI]
  split
  ·rename_i hk
   refine⟨(fun h=>by cases h),?_⟩
   rintro⟨y,hy,hyk,_⟩
   exact absurd (h.kk y ((mem y).1 hy).1 x hx (hyk.trans hk)) ((mem y).1 hy).2
  ·rename_i hk
   rw [h.li]
   constructor
   ·rintro⟨y,hy,hyk,hyn⟩
    exact⟨y,(mem y).2 ⟨hy,fun e=>hk (by rw [<- hyk,e])⟩,hyk,hyn⟩
   ·rintro⟨y,hy,hyk,hyn⟩
    exact⟨y,((mem y).1 hy).1,hyk,hyn⟩
 ·rw [DV hm.nD]
  split
  ·rename_i hk
   refine⟨(fun h=>by cases h),?_⟩
   rintro⟨y,hy,hyk,_⟩
   exact absurd (h.ii y ((mem y).1 hy).1 x hx (hyk.trans hk)) ((mem y).1 hy).2
  ·rename_i hk
   rw [h.ld]
   constructor
   ·rintro⟨y,hy,hyk,hyn⟩
    exact⟨y,(mem y).2 ⟨hy,fun e=>hk (by rw [<- hyk,e])⟩,hyk,hyn⟩
   ·rintro⟨y,hy,hyk,hyn⟩
    exact⟨y,((mem y).1 hy).1,hyk,hyn⟩
 ·obtain⟨hy1,hy2⟩:=(mem y).1 hy
  obtain⟨hst,j,hj⟩:=h.eb y hy1
  refine⟨hst,j,?_⟩
  show (v.e.S.set i none)[j]? =_
  rw [List.getElem?_set]
  split
  ·rename_i hij
   subst hij
   rw [hb] at hj
   have e:x.b=y.b:=by simpa using hj
   exact absurd (h.kk y hy1 x hx (by unfold gW.k;rw [e])) hy2
  ·exact hj
 ·have hj2:(v.e.S.set i none)[j]? =some (some b):=hj
  clear hj
  rw [List.getElem?_set] at hj2
  split at hj2
  ·simp at hj2
  ·rename_i hij
   rcases h.ex j b hj2 with ⟨y,hy,rfl⟩|hz
   ·refine .inl ⟨y,(mem y).2 ⟨hy,fun e=>hij ?_⟩,rfl⟩
    subst e
    exact(KF hm.en.db.good hb hj2 rfl).symm
   ·exact .inr hz
 ·show (jl (uN v.l x.id) id).isSome=true↔_
  rw [DV nl]
  split
  ·rename_i hk
   refine⟨(fun h=>by cases h),?_⟩
   rintro⟨y,hy,hyk,_⟩
   exact absurd (h.ii y ((mem y).1 hy).1 x hx (hyk.trans hk)) ((mem y).1 hy).2
  ·rename_i hk
   rw [h.wl]
   constructor
   ·rintro⟨y,hy,hyk,hyn⟩
    exact⟨y,(mem y).2 ⟨hy,fun e=>hk (by rw [<- hyk,e])⟩,hyk,fun hp=>hyn ((hP id hk).1 hp)⟩
   ·rintro⟨y,hy,hyk,hyn⟩
    exact⟨y,((mem y).1 hy).1,hyk,fun hp=>hyn ((hP id hk).2 hp)⟩
 ·have ht:jl (uN v.l x.id) y.id=some t:=ht
  rw [DV nl] at ht
  split at ht
  ·cases ht
  ·exact h.wt y ((mem y).1 hy).1 t ht
end Go.Proofs.PS
end
section
namespace Go.Proofs.PS
open Gp Go.Proofs Go.Proofs.EN
open Gp.Bind (Bnd Slots live GoodB freeN getS In64)
open Gp.Wh (Tm)
set_option maxRecDepth 100000
set_option maxHeartbeats 1000000
variable {w w':World} {A:SA} {c:Cf} {Z:Bnd->Prop} {v:SV}
theorem Yz (e:Int) (w:World):uD e w fun r w'=>r=(if e=0 then 0 else if e=10 then 8 else if e=7 then 4 else if e=9 then 11 else 3)/\w'=w:=by
 apply O4
 have b:∀x y:Int,(x==y)=decide (x=y):=fun _ _=>rfl
 simp only [b]
 by_cases h0:e=0
 ·subst h0;exact⟨by trivial,by trivial⟩
 by_cases h1:e=10
 ·subst h1;exact⟨by trivial,by trivial⟩
 by_cases h2:e=7
 ·subst h2;exact⟨by trivial,by trivial⟩
 by_cases h3:e=9
 ·subst h3;exact⟨by trivial,by trivial⟩
 simp only [h0,h1,h2,h3,decide_false,cond_false,if_false]
 exact⟨by trivial,by trivial⟩
theorem Good.off {D:List Tm} {l':WN.PL} {T:Nat} (g:Good c Z v []) (hp:∀id t,jl v.l id=some t->t.id=id) (hD:∀t,t∈D↔jl v.l t.id=some t/\t.a<=T) (hl:∀id t,jl l' id=some t↔jl v.l id=some t/\T<t.a) (tn:Int) (F:Gp.Wh.Fs):
  Good c Z {v with now:=T,wn:=T,l:=l',tn:=tn,F:=F} (D.map Tm.id):=by
 refine⟨g.inv,g.ns,rfl,g.li,g.ld,g.kk,g.ii,g.eb,g.ex,g.ir,fun id=> ?_,fun x hx t ht=>g.wt x hx t ((hl x.id t).1 ht).1⟩
 show (jl l' id).isSome=true↔∃x∈v.L,x.id=id/\id∉D.map Tm.id
 constructor
 ·intro h
  obtain⟨t,ht⟩:=Option.isSome_iff_exists.1 h
  obtain⟨h1,h2⟩:=(hl id t).1 ht
  obtain⟨x,hx,hxi,_⟩:=(g.wl id).1 (by rw [h1];rfl)
  refine⟨x,hx,hxi,fun hm=> ?_⟩
  obtain⟨u,hu,hui⟩:=List.mem_map.1 hm
  obtain⟨h3,h4⟩:=(hD u).1 hu
  rw [hui,h1] at h3
  cases h3
  omega
 ·rintro⟨x,hx,hxi,hn⟩
  have h1:=(g.wl id).2 ⟨x,hx,hxi,by simp⟩
  obtain⟨t,ht⟩:=Option.isSome_iff_exists.1 h1
  have hid:=hp id t ht
  have:T<t.a:=by
   refine Nat.lt_of_not_le fun hle=>hn ?_
   exact List.mem_map.2 ⟨t,(hD t).2 ⟨by rw [hid];exact ht,hle⟩,hid⟩
  rw [(hl id t).2 ⟨ht,this⟩];rfl
theorem Good.find {P:List Int} (g:Good c Z v P) {x:gW} (hx:x∈v.L):jl v.LD x.id=some x.blk:=(g.ld _ _).2 ⟨x,hx,rfl,rfl⟩
theorem Uu {n:Nat}:∀{L:List gW},(L.map (·.blk)).Nodup->n∈L.map (·.blk)->(L.filter fun y=> !(y.blk==n)).length+1=L.length
 |[],_,h=>by simp at h
 |z::L,h,hm=>by
  rw [List.map_cons,List.nodup_cons] at h
  rw [List.map_cons,List.mem_cons] at hm
  by_cases e:z.blk=n
  ·have:(L.filter fun y=> !(y.blk==n))=L:=by
    rw [List.filter_eq_self]
    intro y hy
    have:y.blk≠n:=fun he=>h.1 (by rw [e,<- he];exact List.mem_map.2 ⟨y,hy,rfl⟩)
    simpa using this
   rw [List.filter_cons,if_neg (by simp [e]),this];rfl
  ·rw [List.filter_cons,if_pos (by simpa using e),List.length_cons,List.length_cons,Uu h.2 (hm.resolve_left fun he=>e he.symm)]
theorem Ye {D:List Tm} {l:WN.PL} {T:Nat} (hs:D.Pairwise WN.ltT) (hD:∀t,t∈D↔jl l t.id=some t/\t.a<=T):(D.map Tm.id).Nodup:=by
 refine List.pairwise_map.2 (hs.imp_of_mem fun {x y} hx hy hlt he=> ?_)
 have h1:=((hD x).1 hx).1
 have h2:=((hD y).1 hy).1
 rw [he,h2] at h1
 cases h1
 unfold WN.ltT at hlt;omega
theorem O_ (h:Srv w A c v) (g:Good c Z v []) (hun:∀x∈v.L,x.un<=1099511627776) (a:Int) {T:Nat} (hT:T=max v.now (min a 1099511627776).toNat):
  iW (some ⟨A.s,0,none⟩) a w fun n w'=>fD w w' (jy A v.L)/\∃A' v',Srv w' A' c v'/\Good c Z v' []/\A'.s=A.s/\A'.a=A.a/\(∀b,jy A' v'.L b->jy A v.L b\/w.heap.size<=b)/\
   v'.now=T/\(∀x,x∈v'.L↔x∈v.L/\(T:Int)<x.un)/\v'.tn=v.tn/\v'.most=v.most/\v'.nx=v.nx/\n=((v.L.length:Int) - v'.L.length):=by
 apply Dk
 have hnw:=h.wh.wi.nw
 have hwn:=g.wn
 refine qO (zh h) ?_
 rintro r w1 ⟨rfl,hw⟩
 subst hw
 simp only [Bool.not_true,cond_false,sx,h.hd.cell]
 have e1:(if (if (1099511627776:Int)<a then 1099511627776 else a)>(v.now:Int) then (if (1099511627776:Int)<a then 1099511627776 else a) else (v.now:Int))=(T:Int):=by omega
 rw [e1]
 refine gu h.hd rfl (by simp) fun w2 r2 f2' z2=> ?_
 have f2:fD w1 w2 (·=A.s):=f2' _ rfl
 have h2:=(h.adE f2 r2).ext (Ext.drew w2)
 simp only [sx,h2.hd.cell]
 have hT2:T=max v.wn (min (T:Int) 1099511627776).toNat:=by omega
 refine vM (WN.LJ h2.wh (T:Int) hT2) ?_
 rintro s w3 ⟨f3,D,hDs,hD,hbuf,hnew,ss,l',F,hw3,hl',hlen,hfp,hap⟩
 have h3:=h2.setW f3 hw3 hfp
 have g3:=g.off (fun id t ht=>(h.wh.wi.pl id t ht).1) hD hl' v.tn F
 have hD:∀t,t∈D↔jl v.l t.id=some t/\t.a<=T:=hD
 have hlen:l'.length+D.length=v.l.length:=hlen
 have hdn:=Ye hDs hD
 have hlen2:(D.length:Int)<=1048576:=by have:=h.wh.mo;omega
 have ed:w2.drew.heap.size=w2.heap.size:=rfl
 have g0:fD w1 w3 (jy A v.L):=((f2.mono fun b hb=>⟨0,hb⟩).ext (Ext.drew w2)).trans f3 fun b _ hb=>⟨2,hb⟩
 refine fE (fun st W=>∃(k:Nat) (A2:SA) (v2:SV),k<=D.length/\st.2.1=(k:Int)/\st.1=(k:Int)/\Srv W A2 c v2/\Good c Z v2 ((D.drop k).map Tm.id)/\A2.s=A.s/\A2.a=A.a/\v2.now=T/\v2.tn=v.tn/\v2.most=v.most/\v2.nx=v.nx/\
   (∀x,x∈v2.L↔x∈v.L/\x.id∉(D.take k).map Tm.id)/\v2.L.length+k=v.L.length/\iI 1 WN.eI W s (D.map Tm.id)/\fD w1 W (jy A v.L)/\(∀b,jy A2 v2.L b->(jy A v.L b\/w1.heap.size<=b)/\¬b_.at s b))
  (fun st _=>D.length - st.2.1.toNat) ⟨0,{A with ss:=ss},_,by omega,rfl,rfl,h3,g3,rfl,rfl,rfl,rfl,rfl,rfl,by simp,rfl,hbuf,g0,?_⟩ ?_
 ·rintro b ⟨k,hk⟩
  by_cases hk2:k=2
  ·subst hk2
   refine⟨?_,fun hs=>hap b hs hk⟩
   rcases hfp b hk with hb|hb
   ·exact .inl ⟨2,hb⟩
   ·exact .inr (by omega)
  ·have hko:own A v.L k b:=by
    match k,hk with
    |0,ho=>exact ho
    |1,ho=>exact ho
    |2,_=>exact absurd rfl hk2
    |3,ho=>exact ho
    |4,ho=>exact ho
    |5,ho=>exact ho
    |(n+6),ho=>exact ho
   exact⟨.inl ⟨k,hko⟩,fun hs=>by have:=hnew b hs;have:=h.lt k b hko;omega⟩
 rintro⟨gn,ix,⟨⟩⟩ W ⟨k,A2,v2,hk,hix,hgn,hS,hG,hs2,ha2,hn2,ht2,hm2,hx2,hL2,hc2,hb2,hf2,ho2⟩ next hnext
 simp only at hix hgn
 subst hix hgn
 have hslen:s.len=D.length:=by rw [hb2.sl WN.jB (by omega)|>.len,List.length_map]
 by_cases hlt:k<D.length
 ·have hlt':((k:Int)<(s.len:Int)):=by omega
  simp only [hlt',decide_true,cond_true]
  have hdk:(D.drop k).map Tm.id=D[k].id::(D.drop (k+1)).map Tm.id:=by rw [List.drop_eq_getElem_cons hlt,List.map_cons]
  obtain⟨hlk,hla⟩:=(hD D[k]).1 (List.getElem_mem hlt)
  obtain⟨x,hx,hxi,_⟩:=(g.wl D[k].id).1 (by rw [hlk];rfl)
  have hxn:x.id∉(D.take k).map Tm.id:=by
   rw [hxi]
   intro hm
   have:=hdn
   rw [<- List.take_append_drop k D,List.map_append,hdk,List.nodup_append] at this
   exact this.2.2 _ hm _ List.mem_cons_self rfl
  have hx2':x∈v2.L:=(hL2 x).2 ⟨hx,hxn⟩
  refine SN.RV (hb2.sl WN.jB (by omega)) (z:=x.id) (by rw [List.getElem?_map,List.getElem?_eq_getElem hlt,Option.map_some,hxi]) fun ad hcell=> ?_
  simp only [XK,hcell,fA,fC,<- hs2,sx,hS.hd.cell]
  have hfd:=hG.find hx2'
  refine BP (k:= .ptr) (enc:=zA) (ev:=VG) hS.ld eqN x.id (VP _) (fun hc=>by rw [hfd] at hc;cases hc) (fun b hb=> ?_)
  rw [hfd] at hb
  cases hb
  have hSd:=hS.ext (Ext.drew W)
  have rx:=hSd.rw x hx2'
  simp only [gW.v] at rx
  simp only [VG,sx,rx.cell,hSd.hd.cell]
  have hle:¬(x.un>((v2.now:Nat):Int)):=by
   have h5:=g.wt x hx D[k] (by rw [hxi];exact hlk)
   have:=hun x hx
   rw [hn2];omega
  simp only [hle,decide_false,cond_false]
  obtain⟨hst,i,hi⟩:=hG.eb x hx2'
  refine yw (XQ hSd hG.inv hG.ns hx2' hi hst) ?_
  rintro W2 ⟨fd,ss',F',Mi,Mo,Q,G,hfp',hinv',hS'⟩
  have hG':=hG.drop hSd hx2' hi (P':=(D.drop (k+1)).map Tm.id) (fun id hid=>by rw [hdk,List.mem_cons];exact⟨.inr,fun h=>h.resolve_left (by rw [<- hxi];exact hid)⟩) F' hinv'
  rw [wrap_i64 (by omega) (by omega)]
  have htk:(D.take (k+1)).map Tm.id=(D.take k).map Tm.id++[x.id]:=by
   rw [List.take_succ_eq_append_getElem hlt,List.map_append,hxi];rfl
  have hWs:w1.heap.size<=W.heap.size:=hf2.size
  have hWd:W.drew.heap.size=W.heap.size:=rfl
  refine hnext _ _ ⟨k+1,{A2 with ss:=ss'},_,by omega,by simp,by simp,hS',hG',hs2,ha2,hn2,ht2,hm2,hx2,fun y=> ?_,?_,?_,?_,?_⟩ (by simp only;omega)
  ·show y∈(v2.L.filter fun y=> !(y.blk==x.blk))↔_
   rw [htk,List.mem_append,List.mem_singleton,List.mem_filter,hL2]
   constructor
   ·rintro⟨⟨h1,h2⟩,h3⟩
    refine⟨h1,fun hc=>hc.elim h2 fun he=> ?_⟩
    have:=g.ii y h1 x hx he
    subst this
    simp at h3
   ·rintro⟨h1,h2⟩
    refine⟨⟨h1,fun hc=>h2 (.inl hc)⟩,?_⟩
    have:y.blk≠x.blk:=fun he=>h2 (.inr (by rw [M_ hS.bn hx2' ((hL2 y).2 ⟨h1,fun hc=>h2 (.inl hc)⟩) he]))
    simpa using this
  ·have:=Uu hS.bn (List.mem_map.2 ⟨x,hx2',rfl⟩)
   show (v2.L.filter fun y=> !(y.blk==x.blk)).length+(k+1)=_
   omega
  ·exact(hb2.ext (Ext.drew W)).fr fd fun b hb ho=>(ho2 b ho).2 hb
  ·refine(hf2.ext (Ext.drew W)).trans fd fun b hb ho=> ?_
   rcases(ho2 b ho).1 with h1|h1
   ·exact h1
   ·omega
  ·rintro b ⟨j,hj⟩
   by_cases hj2:j=2
   ·subst hj2
    rcases hfp' b hj with hb|hb
    ·exact ho2 b ⟨2,hb⟩
    ·exact⟨.inr (by omega),fun hs=>by have:=hb2.lt hs;omega⟩
   ·refine ho2 b ⟨j,?_⟩
    match j,hj with
    |0,ho=>exact ho
    |1,ho=>exact ho
    |2,_=>exact absurd rfl hj2
    |3,ho=>exact ho
    |4,ho=>exact ho
    |5,⟨y,hy,e⟩=>exact⟨y,(List.mem_filter.1 hy).1,e⟩
    |(n+6),ho=>exact ho
 ·have hk3:k=D.length:=by omega
  subst hk3
  have hlt':¬(((D.length:Nat):Int)<(s.len:Int)):=by omega
  simp only [hlt',decide_false,cond_false]
  rw [List.drop_length,List.map_nil] at hG
  refine⟨hf2,A2,v2,hS,hG,hs2,ha2,fun b hb=>(ho2 b hb).1,hn2,fun x=> ?_,ht2,hm2,hx2,by omega⟩
  rw [hL2,List.take_length]
  have key:x∈v.L->∃t,jl v.l x.id=some t/\t.id=x.id/\(t.a:Int)=x.un:=by
   intro hx
   have h1:=(g.wl x.id).2 ⟨x,hx,rfl,by simp⟩
   obtain⟨t,ht⟩:=Option.isSome_iff_exists.1 h1
   have h2:=g.wt x hx t ht
   have h3:=hun x hx
   exact⟨t,ht,(h.wh.wi.pl _ _ ht).1,by omega⟩
  constructor
  ·rintro⟨hx,hn⟩
   obtain⟨t,ht,hid,hta⟩:=key hx
   refine⟨hx,?_⟩
   have:¬t.a<=T:=fun hle=>hn (List.mem_map.2 ⟨t,(hD t).2 ⟨by rw [hid];exact ht,hle⟩,hid⟩)
   omega
  ·rintro⟨hx,hlt⟩
   obtain⟨t,ht,hid,hta⟩:=key hx
   refine⟨hx,fun hm=> ?_⟩
   obtain⟨u,hu,hui⟩:=List.mem_map.1 hm
   obtain⟨h3,h4⟩:=(hD u).1 hu
   rw [hui,ht] at h3
   cases h3
   omega
end Go.Proofs.PS
end
section
namespace Go.Proofs.PS
open Gp Go.Proofs Go.Proofs.EN
open Gp.Bind (Bnd Slots live GoodB freeN getS In64)
open Gp.Wh (Tm)
set_option maxRecDepth 100000
set_option maxHeartbeats 1000000
variable {w w':World} {a:EA} {c:Cf} {e:ES} {Z:Bnd->Prop}
theorem ab2 (h:uM w a c e):mX (some ⟨a.x,0,none⟩) w fun n w'=>n=(e.now:Int)/\w'=w:=by
 apply Iz
 refine ni (FN h) ?_
 rintro r w1 ⟨rfl,hw⟩
 subst hw
 simp only [Bool.not_true,cond_false,sx,h.c41]
 exact⟨by trivial,by trivial⟩
theorem KY (h:uM w a c e) (hi:Inv c e) (hs:NoS e) (hn:e.now<=2^40) {n:Int} (h1:1<=n) (h2:n<=4096) (hz:∀(j:Nat) (b:Bnd),e.S[j]? =some (some b)->Z b):
  uJ (some ⟨a.x,0,none⟩) n w fun p r w'=>r=0/\Ext w w'/\∃A v,p=some ⟨A.s,0,none⟩/\A.a=a/\Srv w' A c v/\Good c Z v []/\v.L=[]/\v.now=e.now/\v.nx=0/\v.most=n/\v.e=e/\v.tn=0/\∀b,jy A v.L b->Gf a b\/w.heap.size<=b:=by
 apply Vq
 intro J3
 have c1:¬(n<1):=by omega
 have c2:¬(n>4096):=by omega
 simp -zeta only [Option.isNone_some,cond_false,c1,c2,decide_false]
 simp only [J3,cond_false]
 refine I5 (WN.Xv n ⟨by omega,by omega⟩ w) ?_
 rintro p r w1 ⟨f1,rfl,d,m,ss,rfl,hw1,hnw⟩
 have f1:Ext w w1:=f1
 have hE1:=h.ext f1
 simp only [show ((0:Int) !=0)=false from rfl,cond_false]
 refine Hw (ab2 hE1) ?_
 rintro n2 w2 ⟨rfl,hw⟩
 subst hw
 refine fK fun s w3 r3 e3 z3 f3=> ?_
 refine SN.CW (enc:=encI) (ev:=VG) fun w4 m4 z4 f4=> ?_
 refine SN.CW (enc:=zA) (ev:=VG) fun w5 m5 z5 f5=> ?_
 simp only [sx]
 refine gu ((r3.ext f4).ext f5) rfl (by simp) fun w6 r6 f6' z6=> ?_
 have f6:fD w5 w6 (·=s):=f6' _ rfl
 refine gu r6 rfl (by simp) fun w7 r7 f7' z7=> ?_
 have f7:fD w6 w7 (·=s):=f7' _ rfl
 have f67:fD w5 w7 (·=s):=f6.trans f7 fun b _ hb=>hb
 simp only [sx,r7.cell,List.set]
 have x5:=(f3.trans f4).trans f5
 have hd2:d<w2.heap.size:=hw1.wm.lt (.inl rfl)
 have hw7:=(hw1.ext x5).fr f67 fun b hb he=>by have:=hw1.wm.lt hb;omega
 refine vM (WN.LJ hw7 (e.now:Int) (T:=e.now) (by omega)) ?_
 rintro rr w8 ⟨f8,D,hDs,hD,hbuf,hnew,ss',l',F',hw8,hl',hlen,hfp,hap⟩
 have hlen:l'.length+D.length=0:=hlen
 obtain rfl:l'=[]:=List.length_eq_zero_iff.1 (by omega)
 have s1:=f1.size
 have g5:Ext w w5:=f1.trans x5
 have g7:Ext w w7:=g5.new f67 fun b hb he=>by omega
 have g8:Ext w w8:=g7.new f8 fun b hb hf=>by have:=hnw b hf;omega
 have nf:∀b,w2.heap.size<=b->¬WN.mF d m ss b:=fun b hb hf=>by have:=hw1.wm.lt hf;omega
 have s8:=f8.size
 have key:∀k b,own {s:=s,a:=a,d:=d,m:=m,ss:=ss',ml:=w3.heap.size,mi:=w4.heap.size} [] k b->(k=0/\b=s)\/(k=1/\b<w.heap.size/\Gf a b)\/(k=2/\((w.heap.size<=b/\b<w2.heap.size)\/w7.heap.size<=b)/\b<w8.heap.size)\/(k=3/\b=w3.heap.size)\/(k=4/\b=w4.heap.size):=by
  intro k b ho
  match k,ho with
  |0,ho=>exact .inl ⟨rfl,ho⟩
  |1,⟨j,hj⟩=>exact .inr (.inl ⟨rfl,h.lt j b hj,j,hj⟩)
  |2,ho=>
   refine .inr (.inr (.inl ⟨rfl,?_,hw8.wm.lt ho⟩))
   rcases hfp b ho with hb|hb
   ·exact .inl ⟨hnw b hb,hw1.wm.lt hb⟩
   ·exact .inr hb
  |3,ho=>exact .inr (.inr (.inr (.inl ⟨rfl,ho⟩)))
  |4,ho=>exact .inr (.inr (.inr (.inr ⟨rfl,ho⟩)))
  |5,⟨x,hx,_⟩=>cases hx
  |(n+6),ho=>exact ho.elim
 refine⟨by trivial,g8,{s:=s,a:=a,d:=d,m:=m,ss:=ss',ml:=w3.heap.size,mi:=w4.heap.size},{e:=e,now:=e.now,wn:=e.now,nx:=0,most:=n,L:=[],LI:=[],LD:=[],l:=[],tn:=0,F:=F'},rfl,rfl,⟨?_,h.ext g8,hw8,?_,?_,List.nodup_nil,List.nodup_nil,(fun x hx=>by cases hx),?_,?_,List.nodup_nil⟩,?_,rfl,rfl,rfl,rfl,rfl,rfl,?_⟩
 ·exact r7.fr f8 (nf _ (by omega))
 ·exact((m4.ext f5).fr f67 (by omega)).fr f8 (nf _ (by omega))
 ·exact(m5.fr f67 (by omega)).fr f8 (nf _ (by omega))
 ·intro k k' b q1 q2
  have k1:=key k b q1
  have k2:=key k' b q2
  omega
 ·intro k b q1
  have k1:=key k b q1
  omega
 ·exact⟨hi,hs,rfl,(fun k n=>by simp [jl]),(fun i n=>by simp [jl]),(fun x hx=>by cases hx),(fun x hx=>by cases hx),(fun x hx=>by cases hx),(fun j b hj=> .inr (hz j b hj)),(fun x hx=>by cases hx),(fun id=>by simp [jl]),(fun x hx=>by cases hx)⟩
 ·rintro b ⟨k,q⟩
  have k1:=key k b q
  rcases k1 with ⟨_,k1⟩|⟨_,_,k1⟩|⟨_,k1,_⟩|⟨_,k1⟩|⟨_,k1⟩
  ·exact .inr (by omega)
  ·exact .inl k1
  ·exact .inr (by omega)
  ·exact .inr (by omega)
  ·exact .inr (by omega)
end Go.Proofs.PS
end
section
namespace Go.Proofs.PS
open Gp Go.Proofs Go.Proofs.EN
open Gp.Bind (Bnd Slots live GoodB freeN getS In64)
open Gp.Wh (Tm)
set_option maxRecDepth 100000
set_option maxHeartbeats 1000000
variable {c:Cf} {Z:Bnd->Prop} {v:SV}
theorem Good.add (g:Good c Z v []) {x:gW} (hk:∀y∈v.L,y.k≠x.k) (hid:∀y∈v.L,y.id≠x.id) (hst:x.b.st=true) (hir:0<=x.id/\x.id<8192) {i:Nat} (hf:freeN v.e.S=some i)
  {Mi Mo:ByteArray->Option Int} {Q:List Int} {G:List (PN.O3×Unit)} (hi:Inv c {v.e with S:=v.e.S.set i (some x.b),Mi:=Mi,Mo:=Mo,Q:=Q,G:=G}):
  Good c Z {v with e:={v.e with S:=v.e.S.set i (some x.b),Mi:=Mi,Mo:=Mo,Q:=Q,G:=G},L:=x::v.L,LI:=Ej v.LI x.k x.blk,LD:=Ej v.LD x.id x.blk} [x.id]:=by
 obtain⟨hil,hin,_⟩:=Gp.Bind.uO 0 hf
 have hset:∀j,(v.e.S.set i (some x.b))[j]? =if j=i then some (some x.b) else v.e.S[j]? :=by
  intro j
  rw [List.getElem?_set]
  by_cases h:i=j
  ·subst h;simp [hil]
  ·have:¬j=i:=fun e=>h e.symm
   simp [h,this]
 refine⟨hi,g.ns,g.wn,fun k n=> ?_,fun j n=> ?_,?_,?_,?_,fun j b hj=> ?_,?_,fun id=> ?_,fun y hy t ht=> ?_⟩
 ·show jl (Ej v.LI x.k x.blk) k=some n↔∃y∈x::v.L,y.k=k/\y.blk=n
  rw [Du]
  split
  ·rename_i h
   subst h
   constructor
   ·intro h;cases h;exact⟨x,List.mem_cons_self,rfl,rfl⟩
   ·rintro⟨y,hy,h1,h2⟩
    rcases List.mem_cons.1 hy with rfl|hy
    ·rw [h2]
    ·exact absurd h1 (hk y hy)
  ·rename_i h
   rw [g.li]
   constructor
   ·rintro⟨y,hy,h1⟩;exact⟨y,List.mem_cons_of_mem _ hy,h1⟩
   ·rintro⟨y,hy,h1,h2⟩
    rcases List.mem_cons.1 hy with rfl|hy
    ·exact absurd h1.symm h
    ·exact⟨y,hy,h1,h2⟩
 ·show jl (Ej v.LD x.id x.blk) j=some n↔∃y∈x::v.L,y.id=j/\y.blk=n
  rw [Du]
  split
  ·rename_i h
   subst h
   constructor
   ·intro h;cases h;exact⟨x,List.mem_cons_self,rfl,rfl⟩
   ·rintro⟨y,hy,h1,h2⟩
    rcases List.mem_cons.1 hy with rfl|hy
    ·rw [h2]
    ·exact absurd h1 (hid y hy)
  ·rename_i h
   rw [g.ld]
   constructor
   ·rintro⟨y,hy,h1⟩;exact⟨y,List.mem_cons_of_mem _ hy,h1⟩
   ·rintro⟨y,hy,h1,h2⟩
    rcases List.mem_cons.1 hy with rfl|hy
    ·exact absurd h1.symm h
    ·exact⟨y,hy,h1,h2⟩
 ·intro y hy z hz e
  rcases List.mem_cons.1 hy with h1|h1<;>rcases List.mem_cons.1 hz with h2|h2
  ·rw [h1,h2]
  ·exact absurd (by rw [<- e,h1]) (hk z h2)
  ·exact absurd (by rw [e,h2]) (hk y h1)
  ·exact g.kk y h1 z h2 e
 ·intro y hy z hz e
  rcases List.mem_cons.1 hy with h1|h1<;>rcases List.mem_cons.1 hz with h2|h2
  ·rw [h1,h2]
  ·exact absurd (by rw [<- e,h1]) (hid z h2)
  ·exact absurd (by rw [e,h2]) (hid y h1)
  ·exact g.ii y h1 z h2 e
 ·intro y hy
  rcases List.mem_cons.1 hy with rfl|hy
  ·exact⟨hst,i,(hset i).trans (if_pos rfl)⟩
  ·obtain⟨h1,j,hj⟩:=g.eb y hy
   refine⟨h1,j,(hset j).trans ?_⟩
   rw [if_neg (fun e=>by rw [e,hin] at hj;cases hj)]
   exact hj
 ·have hj2:=(hset j).symm.trans hj
  clear hj
  split at hj2
  ·have:x.b=b:=by simpa using hj2
   exact .inl ⟨x,List.mem_cons_self,this⟩
  ·rcases g.ex j b hj2 with ⟨y,hy,h⟩|h
   ·exact .inl ⟨y,List.mem_cons_of_mem _ hy,h⟩
   ·exact .inr h
 ·intro y hy
  rcases List.mem_cons.1 hy with rfl|hy
  ·exact hir
  ·exact g.ir y hy
 ·show (jl v.l id).isSome=true↔∃y∈x::v.L,y.id=id/\id∉[x.id]
  rw [g.wl]
  constructor
  ·rintro⟨y,hy,h1,_⟩
   exact⟨y,List.mem_cons_of_mem _ hy,h1,by rw [List.mem_singleton,<- h1];exact hid y hy⟩
  ·rintro⟨y,hy,h1,h2⟩
   rcases List.mem_cons.1 hy with rfl|hy
   ·exact absurd (List.mem_singleton.2 h1.symm) h2
   ·exact⟨y,hy,h1,by simp⟩
 ·have ht:jl v.l y.id=some t:=ht
  rcases List.mem_cons.1 hy with rfl|hy
  ·obtain⟨z,hz,h1,_⟩:=(g.wl y.id).1 (by rw [ht];rfl)
   exact absurd h1 (hid z hz)
  ·exact g.wt y hy t ht
end Go.Proofs.PS
end
section
namespace Go.Proofs.PS
open Gp Go.Proofs Go.Proofs.EN
open Gp.Bind (Bnd Slots live GoodB freeN getS In64)
open Gp.Wh (Tm)
set_option maxRecDepth 100000
set_option maxHeartbeats 1000000
variable {w:World} {A:SA} {c:Cf} {Z:Bnd->Prop} {v:SV}
theorem qX {n:Nat} {un:Int} {L:List gW} {y:gW}:y∈Cj n un L↔∃z∈L,y=if z.blk=n then {z with un:=un} else z:=by
 unfold Cj
 rw [List.mem_map]
 exact⟨fun⟨z,h1,h2⟩=>⟨z,h1,h2.symm⟩,fun⟨z,h1,h2⟩=>⟨z,h1,h2.symm⟩⟩
theorem Nc {n:Nat} {un:Int} {L:List gW} {p:gW->Prop} (hp:∀z:gW,p {z with un:=un}↔p z):(∃y∈Cj n un L,p y)↔∃y∈L,p y:=by
 constructor
 ·rintro⟨y,hy,h⟩
  obtain⟨z,hz,rfl⟩:=qX.1 hy
  refine⟨z,hz,?_⟩
  split at h
  ·exact(hp z).1 h
  ·exact h
 ·rintro⟨z,hz,h⟩
  refine⟨_,qX.2 ⟨z,hz,rfl⟩,?_⟩
  split
  ·exact(hp z).2 h
  ·exact h
theorem Good.arm {P:List Int} {x:gW} (g:Good c Z v P) (hm:Srv w A c v) (hx:x∈v.L) (hP:∀id,id∈P->id=x.id) {un:Int} (hun:(v.now:Int)<=un) (hn:v.now<=2^40) (tn:Int) (F:Gp.Wh.Fs):
  Good c Z {v with L:=Cj x.blk un v.L,l:=Ej v.l x.id ⟨x.id,max (min un 1099511627776).toNat v.wn,tn⟩,tn:=tn,F:=F} []:=by
 have hwn:=g.wn
 refine⟨g.inv,g.ns,g.wn,fun k n=> ?_,fun j n=> ?_,?_,?_,?_,fun j b hj=> ?_,?_,fun id=> ?_,fun y hy t ht=> ?_⟩
 ·exact(g.li k n).trans (Nc (p:=fun y=>y.k=k/\y.blk=n) fun z=>Iff.rfl).symm
 ·exact(g.ld j n).trans (Nc (p:=fun y=>y.id=j/\y.blk=n) fun z=>Iff.rfl).symm
 ·intro y hy z hz e
  obtain⟨y0,hy0,rfl⟩:=qX.1 hy
  obtain⟨z0,hz0,rfl⟩:=qX.1 hz
  have e0:y0.k=z0.k:=by
   have h1:∀u:gW,(if u.blk=x.blk then {u with un:=un} else u:gW).k=u.k:=fun u=>by split<;>rfl
   rw [<- h1 y0,<- h1 z0];exact e
  rw [g.kk y0 hy0 z0 hz0 e0]
 ·intro y hy z hz e
  obtain⟨y0,hy0,rfl⟩:=qX.1 hy
  obtain⟨z0,hz0,rfl⟩:=qX.1 hz
  have e0:y0.id=z0.id:=by
   have h1:∀u:gW,(if u.blk=x.blk then {u with un:=un} else u:gW).id=u.id:=fun u=>by split<;>rfl
   rw [<- h1 y0,<- h1 z0];exact e
  rw [g.ii y0 hy0 z0 hz0 e0]
 ·intro y hy
  obtain⟨y0,hy0,rfl⟩:=qX.1 hy
  have h1:(if y0.blk=x.blk then {y0 with un:=un} else y0:gW).b=y0.b:=by split<;>rfl
  rw [h1];exact g.eb y0 hy0
 ·rcases g.ex j b hj with h|h
  ·exact .inl ((Nc (p:=fun y=>y.b=b) fun z=>Iff.rfl).2 h)
  ·exact .inr h
 ·intro y hy
  obtain⟨y0,hy0,rfl⟩:=qX.1 hy
  have h1:(if y0.blk=x.blk then {y0 with un:=un} else y0:gW).id=y0.id:=by split<;>rfl
  rw [h1];exact g.ir y0 hy0
 ·show (jl (Ej v.l x.id _) id).isSome=true↔∃y∈Cj x.blk un v.L,y.id=id/\id∉[]
  rw [Nc (p:=fun y=>y.id=id/\id∉[]) fun z=>Iff.rfl,Du]
  split
  ·rename_i h
   exact⟨fun _=>⟨x,hx,h.symm,by simp⟩,fun _=>rfl⟩
  ·rename_i h
   rw [g.wl]
   exact⟨fun⟨y,hy,h1,_⟩=>⟨y,hy,h1,by simp⟩,fun⟨y,hy,h1,_⟩=>⟨y,hy,h1,fun hp=>h (hP id hp)⟩⟩
 ·obtain⟨y0,hy0,rfl⟩:=qX.1 hy
  have ht2:jl (Ej v.l x.id ⟨x.id,max (min un 1099511627776).toNat v.wn,tn⟩) (if y0.blk=x.blk then {y0 with un:=un} else y0:gW).id=some t:=ht
  clear ht
  rw [Du] at ht2
  by_cases hb:y0.blk=x.blk
  ·obtain rfl:=M_ hm.bn hx hy0 hb
   simp only [if_true] at ht2 ⊢
   cases ht2
   simp only
   omega
  ·simp only [hb,if_false] at ht2 ⊢
   have hne:y0.id≠x.id:=fun e=>hb (by rw [g.ii y0 hy0 x hx e])
   rw [if_neg hne] at ht2
   exact g.wt y0 hy0 t ht2
end Go.Proofs.PS
end
section
namespace Go.Proofs.PM
open Gp Gp.V4 Go.Proofs
open Gp.Bind (In64)
set_option maxRecDepth 100000
set_option maxHeartbeats 1000000
def mapped (a:Int):List UInt8:=List.replicate 10 0++([255,255]++tJ 4 (a % 4294967296).toNat)
theorem zI (a:Int):(mapped a).length=16:=by simp [mapped,kD]
theorem Qx {w:World} {K:Int->Int->Int->Int->Int->Int->Int->Int->Int->Int->Int->Int->Int->Int->Int->Int->World->Prop} (h:∀w',Ext w w'->K 0 0 0 0 0 0 0 0 0 0 255 255 0 0 0 0 w'):yN w K:=by
 apply Qo
 refine fK fun a w1 r1 e1 z1 f1=> ?_
 refine fP r1 rfl rfl fun w2 r2 f2 z2=> ?_
 simp only [sx,r2.cell]
 exact h _ (f1.new (f2 (·=a) rfl) fun y hy e=>by omega)
theorem Fj {w:World} {b o:Nat} {L A C:List Value} {m:List UInt8} {K:Int->Int->Int->Int->Int->Int->Int->Int->Int->Int->Int->Int->Int->Int->Int->Int->Prop} (hr:Row w b L) (hL:L=A++(bytesV m++C)) (ho:A.length=o) (hm:m.length=16) (h:∀x0 x1 x2 x3 x4 x5 x6 x7 x8 x9 x10 x11 x12 x13 x14 x15,[x0,x1,x2,x3,x4,x5,x6,x7,x8,x9,x10,x11,x12,x13,x14,x15]=bi m->K x0 x1 x2 x3 x4 x5 x6 x7 x8 x9 x10 x11 x12 x13 x14 x15):nY w ⟨b,o,none⟩ K:=by
 obtain⟨x0,x1,x2,x3,x4,x5,x6,x7,x8,x9,x10,x11,x12,x13,x14,x15,hb,hv⟩:=acP hm
 have hc:∀j,j<16->w.cell? ⟨b,o+j,none⟩=(bytesV m)[j]? :=fun j hj=>by
  rw [hr.cell,hL,List.getElem?_append_right (by omega),List.getElem?_append_left (by rw [iG];omega)]
  congr 1;omega
 have c0:=hc 0 (by omega)
 have c1:=hc 1 (by omega)
 have c2:=hc 2 (by omega)
 have c3:=hc 3 (by omega)
 have c4:=hc 4 (by omega)
 have c5:=hc 5 (by omega)
 have c6:=hc 6 (by omega)
 have c7:=hc 7 (by omega)
 have c8:=hc 8 (by omega)
 have c9:=hc 9 (by omega)
 have c10:=hc 10 (by omega)
 have c11:=hc 11 (by omega)
 have c12:=hc 12 (by omega)
 have c13:=hc 13 (by omega)
 have c14:=hc 14 (by omega)
 have c15:=hc 15 (by omega)
 rw [hv] at c0 c1 c2 c3 c4 c5 c6 c7 c8 c9 c10 c11 c12 c13 c14 c15
 simp only [Nat.add_zero] at c0
 simp only [sx,c0,c1,c2,c3,c4,c5,c6,c7,c8,c9,c10,c11,c12,c13,c14,c15]
 exact h _ _ _ _ _ _ _ _ _ _ _ _ _ _ _ _ hb.symm
theorem mask32 {a:Int} (h:In64 a):wG .i64 a 4294967295=(((a % 4294967296).toNat:Nat):Int)/\(a % 4294967296).toNat<4294967296:=by
 obtain⟨_,h2⟩:=Go.Proofs.ZH h
 unfold In64 at h
 refine⟨?_,by omega⟩
 rw [h2];omega
theorem J8 {w:World} {a:Int} (ha:In64 a) {K:Int->Int->Int->Int->Int->Int->Int->Int->Int->Int->Int->Int->Int->Int->Int->Int->World->Prop} (h:∀x0 x1 x2 x3 x4 x5 x6 x7 x8 x9 x10 x11 x12 x13 x14 x15 w',[x0,x1,x2,x3,x4,x5,x6,x7,x8,x9,x10,x11,x12,x13,x14,x15]=bi (mapped a)->Ext w w'->K x0 x1 x2 x3 x4 x5 x6 x7 x8 x9 x10 x11 x12 x13 x14 x15 w'):u_ a w K:=by
 apply Qm
 refine fK fun a3 w1 r1 e1 z1 f1=> ?_
 refine Qx fun w2 f2=> ?_
 refine fK fun b w3 r3 e3 z3 f3=> ?_
 refine fP r3 rfl rfl fun w4 r4 f4 z4=> ?_
 have x4:Ext w1 w4:=(f2.trans f3).new (f4 (·=b) rfl) fun y hy e=>by have:=f2.size;omega
 refine⟨by omega,by omega,by omega,?_⟩
 obtain⟨hm,hlt⟩:=mask32 ha
 rw [hm]
 have hd:Ext w1 w4.drew:=x4.trans (Ext.drew w4)
 refine FM (RU rO.nil (by simp) _ _) ?_
 rintro r w5 ⟨b5,f5,n5⟩
 have hp:Gt [] (((a % 4294967296).toNat:Nat):Int) 4=tJ 4 (a % 4294967296).toNat:=by
  unfold Gt
  rw [if_pos ⟨by unfold sizeOk;omega,by omega,by show _<(256:Int)^4;omega⟩];rfl
 rw [hp] at b5
 have hs5:=rO.IB b5
 have hl5:=hs5.1
 rw [kD] at hl5
 have r5:=(r4.drew).ext f5
 have e12:(if 16=(12:Int).toNat then (⟨b,0,none⟩:Addr) else (⟨b,0,none⟩:Addr).add ((12:Int).toNat * 1))=⟨b,12,none⟩:=by
  rw [if_neg (by decide)];exact kC _ _ _
 rw [e12]
 refine CY (n:=1) (m:=4) (vs:=bytesV (tJ 4 (a % 4294967296).toNat)) (by rw [hl5];rfl) (by have:=hs5.2.1;rw [hl5] at this;simpa using this) r5 (by rw [iG,kD];simp) (zG _) fun w6 r6 f6=> ?_
 have x6:Ext w1 w6:=(hd.trans f5).new f6 fun y hy e=>by have:=f2.size;omega
 refine Fj (A:=[]) (C:=[]) (m:=mapped a) r6 ?_ rfl (zI a) fun u0 u1 u2 u3 u4 u5 u6 u7 u8 u9 u10 u11 u12 u13 u14 u15 hx=> ?_
 ·have:=iG (tJ 4 (a % 4294967296).toNat)
  unfold spl mapped
  rw [N8,N8,this,kD]
  simp [bytesV]
 refine fP (r1.ext x6) rfl rfl fun w7 r7 f7 z7=> ?_
 simp only [sx,r7.cell]
 exact h _ _ _ _ _ _ _ _ _ _ _ _ _ _ _ _ _ hx ((f1.trans x6).new (f7 (·=a3) rfl) fun y hy e=>by omega)
end Go.Proofs.PM
end
section
namespace Go.Proofs.PM
open Gp Gp.V4 Go.Proofs Go.Proofs.CN
open Gp.Bind (In64)
set_option maxRecDepth 100000
set_option maxHeartbeats 1000000
abbrev K2:List Kind:=[.int .i64,.int .i64]
abbrev T2:=Int×Int×Unit
abbrev e2 (x:T2):List Value:=Qg K2 x
theorem VU (x:T2):(e2 x).length=2:=rfl
theorem aa4 {w:World} {s:b_} {xs:List T2} {v:Value} {p:T2->Bool} {C:World->Prop} (hs:kH 2 e2 w s xs) (hl:s.len<=2^62) (hp:MO v (fun x:T2=>Value.agg ⟨e2 x⟩) [.one .bool] C fun x=> .bool (p x)) (hC:∀W,Ext w W->C W):
  gU s v w fun r w'=>(r>=0↔xs.any p=true)/\Ext w w':=by
 apply qC
 refine fE (fun st W=>∃j:Nat,j<=xs.length/\st.1=(j:Int)/\Ext w W/\(xs.take j).any p=false) (fun st _=>(s.len - st.1).toNat) ⟨0,by omega,rfl,Ext.refl _,by simp⟩ ?_
 rintro⟨i,⟨⟩⟩ W ⟨j,hj,hi,hw,hm⟩ next hnext
 simp only at hi
 subst hi
 have hlen:=hs.len
 by_cases hlt:(j:Int)<(s.len:Int)
 ·simp only [hlt,decide_true,cond_true]
  have hx:=List.getElem?_eq_getElem (show j<xs.length by omega)
  have htk:=Gp.Cfg.take_snoc hx
  have hmem:=List.getElem_mem (show j<xs.length by omega)
  generalize xs[j]=x at hx htk hmem
  refine jg VU (by omega) (hs.ext hw) (by omega) (by rw [Int.toNat_natCast];exact hx) fun a hc=> ?_
  have hp:=hp x
  dsimp only at hp
  by_cases he:p x=true
  ·rw [he] at hp
   obtain⟨x0,x1,⟨⟩⟩:=x
   have c0:=hc 0 _ rfl;have c1:=hc 1 _ rfl
   skip
   simp only [sx,c0,c1]
   refine hp W _ (hC W hw) fun W' hf=>⟨true,rfl,?_⟩
   simp only [cond_true]
   exact⟨⟨fun _=>List.any_eq_true.2 ⟨_,hmem,he⟩,fun _=>by omega⟩,hw.trans hf⟩
  ·have he:p x=false:=by simpa only [Bool.not_eq_true] using he
   rw [he] at hp
   obtain⟨x0,x1,⟨⟩⟩:=x
   have c0:=hc 0 _ rfl;have c1:=hc 1 _ rfl
   skip
   simp only [sx,c0,c1]
   refine hp W _ (hC W hw) fun W' hf=>⟨false,rfl,?_⟩
   simp only [cond_false]
   rw [wrap_i64 (by omega) (by omega)]
   refine hnext _ _ ⟨j+1,by omega,by simp,hw.trans hf,?_⟩ (by simp only;omega)
   rw [htk,List.any_append,hm,List.any_cons,he,List.any_nil];rfl
 ·simp only [hlt,decide_false,cond_false]
  rw [List.take_of_length_le (by omega)] at hm
  exact⟨⟨fun h=>by omega,fun h=>by rw [hm] at h;cases h⟩,hw⟩
theorem WX {w:World} {s:b_} {xs:List T2} {v:Value} {p:T2->Bool} {C:World->Prop} (hs:kH 2 e2 w s xs) (hl:s.len<=2^62) (hp:MO v (fun x:T2=>Value.agg ⟨e2 x⟩) [.one .bool] C fun x=> .bool (p x)) (hC:∀W,Ext w W->C W):
  gB s v w fun r w'=>r=xs.any p/\Ext w w':=by
 apply o8
 refine qw (aa4 hs hl hp hC) ?_
 rintro r w' ⟨h,hf⟩
 refine⟨?_,hf⟩
 cases hb:xs.any p with
 |true=>exact decide_eq_true (h.2 hb)
 |false=>exact decide_eq_false fun hh=>by rw [h.1 hh] at hb;cases hb
theorem acY:MO (.func (.func U6) #[] #[]) (fun x:T2=>Value.agg ⟨e2 x⟩) [.one .bool] (fun _=>True) (fun x:T2=> .bool (!decide (fitsP x.1 x.2.1))):=by
 rintro⟨x,y,⟨⟩⟩ W K _ hK
 refine lV (by kernel_rfl) ?_
 refine Calls.mono (Tt (A0:=x) (A1:=y) (w:=W) (K:=fun r W'=>r= !decide (fitsP x y)/\Ext W W') ?_) ?_
 ·refine fK fun a w1 r1 e1 z1 f1=> ?_
  simp only [sx,r1.cell]
  refine PE (XE x y w1) ?_
  rintro _ w' ⟨rfl,rfl⟩
  exact⟨rfl,f1⟩
 ·rintro e W' ⟨r,he,rfl,hf⟩
  exact⟨_,he,hK W' hf⟩
theorem aac {w:World} {s:b_} {fs:List T2} (hs:kH 2 e2 w s fs) (hl:s.len<=2^62):yV s w fun r w'=>r=decide (∀f∈fs,fitsP f.1 f.2.1)/\Ext w w':=by
 apply Xi
 refine oN (WX hs hl acY fun _ _=>trivial) ?_
 rintro r w' ⟨rfl,hf⟩
 refine⟨?_,hf⟩
 by_cases h:∀f∈fs,fitsP f.1 f.2.1
 ·rw [decide_eq_true h,Bool.not_eq_true',List.any_eq_false]
  intro f hf
  simp [h f hf]
 ·rw [decide_eq_false h,Bool.not_eq_false',List.any_eq_true]
  simp only [Classical.not_forall] at h
  obtain⟨f,hf,hn⟩:=h
  exact⟨f,hf,by simp [hn]⟩
def qh (l:List UInt8) (fs:List T2):List UInt8:=fs.foldl (fun m f=>Gt m f.1 f.2.1) l
theorem aaA (l:List UInt8) (n k:Int):(Gt l n k).length<=l.length+4:=by
 unfold Gt
 split
 ·rename_i h
  obtain⟨⟨h1,h2⟩,_⟩:=h
  rw [List.length_append,kD];omega
 ·omega
theorem wE:∀(fs:List T2) (l:List UInt8),(qh l fs).length<=l.length+4 * fs.length
 |[],l=>by simp [qh]
 |f::fs,l=>by
  have h1:=wE fs (Gt l f.1 f.2.1)
  have h2:=aaA l f.1 f.2.1
  show (qh (Gt l f.1 f.2.1) fs).length<=_
  rw [List.length_cons];omega
theorem Ju {w:World} {s t:b_} {l:List UInt8} {fs:List T2} (hs:Buf w s (bytesV l)) (ht:kH 2 e2 w t fs) (hne:fs≠[]) (hl:l.length+4 * fs.length<=2^40):
  rE s t w fun r w'=>Buf w' r (bytesV (qh l fs))/\Ext w w'/\∀b,b_.at r b->w.heap.size<=b:=by
 apply Wx
 have hlen:=ht.len
 refine fE (fun st W=>∃j:Nat,j<=fs.length/\st.2.1=(j:Int)/\Ext w W/\Buf W st.1 (bytesV (qh l (fs.take j)))/\(0<j->∀b,b_.at st.1 b->w.heap.size<=b)) (fun st _=>(t.len - st.2.1).toNat) ⟨0,by omega,rfl,Ext.refl _,by simpa [qh] using hs,by omega⟩ ?_
 rintro⟨r,i,⟨⟩⟩ W ⟨j,hj,hi,hx,hb,hn⟩ next hnext
 simp only at hi hb hn
 subst hi
 by_cases hlt:(j:Int)<(t.len:Int)
 ·simp only [hlt,decide_true,cond_true]
  have hg:=List.getElem?_eq_getElem (show j<fs.length by omega)
  have htk:=Gp.Cfg.take_snoc hg
  generalize fs[j]=f at hg htk
  refine jg VU (by omega) (ht.ext hx) (by omega) (by rw [Int.toNat_natCast];exact hg) fun a hc=> ?_
  obtain⟨f0,f1,⟨⟩⟩:=f
  have c0:=hc 0 _ rfl;have c1:=hc 1 _ rfl
  simp only [sx,c0,c1,OI]
  refine fK fun b w2 r2 e2 z2 g2=> ?_
  refine fP r2 rfl rfl fun w3 r3 g3 z3=> ?_
  have x3:Ext W w3:=g2.new (g3 (·=b) rfl) fun y hy e=>by omega
  simp only [sx,r3.cell]
  have hpl:=wE (fs.take j) l
  have htl:(fs.take j).length<=j:=List.length_take_le _ _
  refine FM (RU (rO.IB (hb.ext x3)) (by omega) f0 f1) ?_
  rintro r' w4 ⟨b4,g4,n4⟩
  rw [wrap_i64 (by omega) (by omega)]
  refine hnext _ _ ⟨j+1,by omega,by simp,(hx.trans x3).trans g4,?_,fun _ b hb'=> ?_⟩ (by simp only;omega)
  ·rw [htk]
   unfold qh at b4 ⊢
   rw [List.foldl_append]
   exact b4
  ·have h1:=n4 b hb'
   have h2:=(hx.trans x3).size
   omega
 ·simp only [hlt,decide_false,cond_false]
  rw [List.take_of_length_le (by omega)] at hb
  exact⟨hb,hx,hn (by have:=List.length_pos_iff.2 hne;omega)⟩
theorem Hu {w:World} {b:Nat} {fs:List T2} {L:List Value} (hr:Row w b L) (hL:L=fs.flatMap e2) {n:Nat} (hn:n=fs.length):kH 2 e2 w ⟨some ⟨b,0,none⟩,n,n⟩ fs:=by
 subst hn hL
 exact(iI.row hr).sl VU (by omega)
end Go.Proofs.PM
end
