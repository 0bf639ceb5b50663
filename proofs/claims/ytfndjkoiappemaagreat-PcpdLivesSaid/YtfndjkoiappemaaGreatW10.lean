import Derived.Test.YtfndjkoiappemaaGreatW9
import Derived.Test.YtfndjkoiappemaaGreatW6
open List (filter_append filter_cons getElem?_set length_append length_cons length_nil map_append map_cons mem_cons mem_cons_of_mem mem_cons_self mem_map mem_singleton nodup_nil)
open Int (toNat_natCast)
open Option (getD_some isSome_some)
open Array (getElem_push_lt)
set_option maxRecDepth 100000
set_option maxHeartbeats 1000000
section
namespace Go.Proofs.EN
open Gp Go.Proofs
open Gp.Bind (Bnd Slots live GoodB freeN getS In64)
theorem Ny {o1 o2:Nat->Nat->Prop} {j n:Nat} (ap:∀k k' b,o1 k b->o1 k' b->k=k') (lt:∀k b,o1 k b->b<n) (same:∀k b,k≠j->o2 k b->o1 k b) (new:∀b,o2 j b->o1 j b\/n<=b):
  ∀k k' b,o2 k b->o2 k' b->k=k':=by
 intro k k' b h h';by_cases hk:k=j<;>by_cases hk':k'=j
 ·omega
 ·subst hk;have g':=same k' b hk' h';rcases new b h with g|g
  ·exact ap _ _ b g g'
  ·have:=lt _ b g';omega
 ·subst hk';have g:=same k b hk h;rcases new b h' with g'|g'
  ·exact ap _ _ b g g'
  ·have:=lt _ b g;omega
 ·exact ap _ _ b (same k b hk h) (same k' b hk' h')
variable {w w':World} {a:EA} {c:Cf} {e:ES}
theorem wQ.off (h:wQ w a c e) {j k b:Nat} (hk:own a k b) (hn:k≠j):¬own a j b:=λhj=>hn (h.ap k j b hk hj)
theorem wQ.setB (h:wQ w a c e) {A:XO} {S:Slots} {Mi Mo:ByteArray->Option Int} (hf:iG w w' (own a 3)) (u:DB w' A c.nb.toNat S Mi Mo) (hd:A.d=a.B.d) (I:∀x,fp A x->fp a.B x\/w.heap.size<=x) (J:∀x,fp A x->x<w'.heap.size):
  wQ w' {a with B:=A} c {e with S:=S,Mi:=Mi,Mo:=Mo}:=by
 have same:∀k b,k≠3->own {a with B:=A} k b->own a k b:=by
  intro k b hk ho
  match k,ho with
  |0,ho=>exact ho
  |1,ho=>exact ho
  |2,ho=>exact ho
  |3,_=>exact absurd rfl hk
  |4,ho=>exact ho
  |5,ho=>exact ho
  |(n+6),ho=>exact ho
 have o:∀k b,own a k b->k≠3->¬own a 3 b:=λk b hk hn=>h.off hk hn;refine⟨h.cf,?_,h.pl.fr hf (λb hb=>o 1 b hb (by decide)),h.qr.fr hf (o 2 _ (.inl rfl) (by decide)) (o 2 _ (.inr rfl) (by decide)),h.qo,u,h.se.fr hf (λb hb=>o 4 b hb (by decide)),h.wh.fr hf (λb hb=>o 5 b hb (by decide)),Ny (j:=3) h.ap h.lt same (λb hb=>I b hb),?_⟩
 ·have:=h.hd.fr hf (o 0 _ rfl (by decide));simp only[hd];exact this
 ·intro k b hb;by_cases hk:k=3
  ·subst hk;exact J b hb
  ·exact Nat.lt_of_lt_of_le (h.lt k b (same k b hk hb)) hf.size
theorem wQ.ajI (h:wQ w a c e) {G:List (PN.O3×Unit)} (hf:iG w w' (·=a.g)) (hp:PN.PL w' a.p a.g a.ps c.lo c.hi c.pl G):wQ w' a c {e with G:=G}:=by
 have o:∀k b,own a k b->k≠1->¬b=a.g:=λk b hk hn he=>h.off hk hn (he ▸ .inr (.inl rfl));exact⟨h.cf,h.hd.fr hf (o 0 _ rfl (by decide)),hp,h.qr.fr hf (o 2 _ (.inl rfl) (by decide)) (o 2 _ (.inr rfl) (by decide)),h.qo,h.db.fr hf (λb hb=>o 3 b hb (by decide)),h.se.fr hf (λb hb=>o 4 b hb (by decide)),h.wh.fr hf (λb hb=>o 5 b hb (by decide)),h.ap,
  λk b hb=>Nat.lt_of_lt_of_le (h.lt k b hb) hf.size⟩
theorem wQ.af_ (h:wQ w a c e) {Q:List Int} (hf:iG w w' (·=a.qs)) (hq:QN.QR w' a.qb a.qs Q c.q) (ho:QN.QOk Q c.q):wQ w' a c {e with Q:=Q}:=by
 have o:∀k b,own a k b->k≠2->¬b=a.qs:=λk b hk hn he=>h.off hk hn (he ▸ .inr rfl);exact⟨h.cf,h.hd.fr hf (o 0 _ rfl (by decide)),h.pl.fr hf (λb hb=>o 1 b hb (by decide)),hq,ho,h.db.fr hf (λb hb=>o 3 b hb (by decide)),h.se.fr hf (λb hb=>o 4 b hb (by decide)),h.wh.fr hf (λb hb=>o 5 b hb (by decide)),h.ap,
  λk b hb=>Nat.lt_of_lt_of_le (h.lt k b hb) hf.size⟩
theorem wQ.ad_ (h:wQ w a c e) {n:Nat} (hf:iG w w' (·=a.x)) (hd:Row w' a.x ([.pointer (some ⟨a.p,0,none⟩),.pointer (some ⟨a.qb,0,none⟩),.pointer (some ⟨a.B.d,0,none⟩),.pointer (some ⟨a.T.d,0,none⟩),.pointer (some ⟨a.d,0,none⟩)]++c.C++[.int .i64 (n:Int)])):wQ w' a c {e with now:=n}:=by
 have o:∀k b,own a k b->k≠0->¬b=a.x:=λk b hk hn he=>h.off hk hn he;exact⟨h.cf,hd,h.pl.fr hf (λb hb=>o 1 b hb (by decide)),h.qr.fr hf (o 2 _ (.inl rfl) (by decide)) (o 2 _ (.inr rfl) (by decide)),h.qo,h.db.fr hf (λb hb=>o 3 b hb (by decide)),h.se.fr hf (λb hb=>o 4 b hb (by decide)),h.wh.fr hf (λb hb=>o 5 b hb (by decide)),h.ap,
  λk b hb=>Nat.lt_of_lt_of_le (h.lt k b hb) hf.size⟩
theorem wQ.setW (h:wQ w a c e) {ss:List iq} {l:WN.PL} {wn:Nat} {tn:Int} {F:Gp.Wh.Fs} (hf:iG w w' (own a 5)) (hw:WN.WS w' a.d a.m ss l wn tn c.ns F) (u:∀x,WN.pz a.d a.m ss x->WN.pz a.d a.m a.ss x\/w.heap.size<=x):
  wQ w' {a with ss:=ss} c {e with l:=l,wn:=wn,tn:=tn,F:=F}:=by
 have same:∀k b,k≠5->own {a with ss:=ss} k b->own a k b:=by
  intro k b hk ho
  match k,ho with
  |0,ho=>exact ho
  |1,ho=>exact ho
  |2,ho=>exact ho
  |3,ho=>exact ho
  |4,ho=>exact ho
  |5,_=>exact absurd rfl hk
  |(n+6),ho=>exact ho
 have o:∀k b,own a k b->k≠5->¬own a 5 b:=λk b hk hn=>h.off hk hn;refine⟨h.cf,h.hd.fr hf (o 0 _ rfl (by decide)),h.pl.fr hf (λb hb=>o 1 b hb (by decide)),h.qr.fr hf (o 2 _ (.inl rfl) (by decide)) (o 2 _ (.inr rfl) (by decide)),h.qo,h.db.fr hf (λb hb=>o 3 b hb (by decide)),h.se.fr hf (λb hb=>o 4 b hb (by decide)),hw,Ny (j:=5) h.ap h.lt same (λb hb=>u b hb),?_⟩;intro k b hb;by_cases hk:k=5
 ·subst hk;exact hw.wm.lt hb
 ·exact Nat.lt_of_lt_of_le (h.lt k b (same k b hk hb)) hf.size
def GU (a:EA) (b:Nat):Prop:=∃k,own a k b
def II (S:Slots) (i:Int):Nat:=((live 0 S).filter λx=>x.2.sw==i).length
structure Inv (c:Cf) (e:ES):Prop where
 ql:e.Q.length=c.sw.len
 cn:∀i,WB c i->QN.at_ e.Q i=(II e.S i:Int)
 gv:∀o:PN.O3,o∈e.G.map (·.1)↔∃(j:Nat) (b:Bnd),e.S[j]? =some (some b)/\(b.opr,b.oad,b.opo)=o
 mp:∀(j:Nat) (b:Bnd),e.S[j]? =some (some b)->Gw c b
end Go.Proofs.EN
end
section
namespace Go.Proofs.EN
open Gp Go.Proofs
open Gp.Bind (Bnd Slots live GoodB freeN getS In64)
theorem acv {S:Slots} {i:Nat} {b:Bnd} (h:freeN S=some i) (k:Int):II (S.set i (some b)) k=II S k+if b.sw=k then 1 else 0:=by
 obtain⟨_,_,_,_,_,_,h7⟩:=Gp.Bind.yQ 0 h;have e:(live 0 S).filter (λx=>x.2.sw==k)=((live 0 S).take i).filter (λx=>x.2.sw==k)++((live 0 S).drop i).filter (λx=>x.2.sw==k):=by
  rw[<- filter_append,List.take_append_drop]
 unfold II;rw[h7 b,e,filter_append,length_append,length_append,filter_cons];by_cases hb:b.sw=k
 ·subst hb;simp only[beq_self_eq_true,if_true,length_cons];omega
 ·have:(b.sw==k)=false:=by simpa using hb
  simp[this,hb]
theorem at_set {l:List Int} {i j v:Int} (hi:0<=i) (hl:i<(l.length:Int)) (hj:0<=j):QN.at_ (l.set i.toNat v) j=if i=j then v else QN.at_ l j:=by
 unfold QN.at_;rw[List.getD_eq_getElem?_getD,List.getD_eq_getElem?_getD,getElem?_set];by_cases h:i=j
 ·subst h;simp only[if_true];rw[if_pos (by omega)];rfl
 ·have:¬i.toNat=j.toNat:=by omega
  simp[this,h]
variable {c:Cf} {e:ES}
theorem Inv.add (h:Inv c e) {i:Nat} {b:Bnd} (hf:freeN e.S=some i) (hm:Gw c b) (Mi Mo:ByteArray->Option Int):
  Inv c {e with S:=e.S.set i (some b),Mi:=Mi,Mo:=Mo,Q:=e.Q.set b.sw.toNat (QN.at_ e.Q b.sw+1),G:=IB e.G (b.opr,b.oad,b.opo) ()}:=by
 have J:=hm.2.2.2.2.2.2;obtain⟨s0,s1⟩:=J;obtain⟨N,O,_⟩:=Gp.Bind.yQ 0 hf;have R:=h.ql;have hg:∀(j:Nat) (x:Bnd),(e.S.set i (some b))[j]? =some (some x)↔(j=i/\x=b)\/(j≠i/\e.S[j]? =some (some x)):=by
  intro j x;rw[getElem?_set];by_cases hj:i=j
  ·subst hj;simp[N,eq_comm]
  ·have:j≠i:=λh=>hj h.symm;simp[hj,this]
 refine⟨by simp[R],λk hk=> ?_,λo=> ?_,λj x hx=> ?_⟩
 ·rw[at_set s0 (by omega) hk.1,acv hf];by_cases hb:b.sw=k
  ·subst hb;simp only[if_true];rw[h.cn _ ⟨s0,s1⟩];omega
  ·simp only[hb,if_false];rw[h.cn _ hk];omega
 ·have u:o∈e.G.map (·.1)↔∃(j:Nat) (x:Bnd),j≠i/\e.S[j]? =some (some x)/\(x.opr,x.oad,x.opo)=o:=by
   rw[h.gv];constructor
   ·rintro⟨j,x,hx,ho⟩;exact⟨j,x,(λhj=>by rw[hj,O] at hx;cases hx),hx,ho⟩
   ·rintro⟨j,x,_,hx,ho⟩;exact⟨j,x,hx,ho⟩
  have hm':o∈(IB e.G (b.opr,b.oad,b.opo) ()).map (·.1)↔o∈e.G.map (·.1)\/(b.opr,b.oad,b.opo)=o:=by
   rw[Zk];split
   ·rename_i I;exact⟨.inl,λh=>h.elim id λh=>h ▸ I⟩
   ·rw[List.mem_append,mem_singleton,eq_comm (a:=o)]
  show o∈(IB e.G (b.opr,b.oad,b.opo) ()).map (·.1)↔_;rw[hm',u];constructor
  ·rintro(⟨j,x,hj,hx,ho⟩|ho)
   ·exact⟨j,x,(hg j x).2 (.inr ⟨hj,hx⟩),ho⟩
   ·exact⟨i,b,(hg i b).2 (.inl ⟨rfl,rfl⟩),ho⟩
  ·rintro⟨j,x,hx,ho⟩;rcases(hg j x).1 hx with ⟨rfl,rfl⟩|⟨hj,hx⟩
   ·exact .inr ho
   ·exact .inl ⟨j,x,hj,hx,ho⟩
 ·rcases(hg j x).1 hx with ⟨rfl,rfl⟩|⟨_,hx⟩
  ·exact hm
  ·exact h.mp j x hx
theorem Ob:∀{S:Slots} {i k:Nat} {b:Bnd},S[i]? =some (some b)->∃A B,live k S=A++(((k+i:Nat):Int),b)::B/\live k (S.set i none)=A++B
 |none::r,0,k,b,h=>by simp at h
 |some x::r,0,k,b,h=>by
  simp at h;subst h;exact⟨[],live (k+1) r,by simp[live],by simp[live]⟩
 |none::r,i+1,k,b,h=>by
  obtain⟨A,B,h1,h2⟩:=Ob (S:=r) (k:=k+1) (i:=i) (by simpa using h);refine⟨A,B,?_,?_⟩
  ·show live (k+1) r=_;rw[h1];congr 3;push_cast;omega
  ·show live (k+1) (r.set i none)=_;exact h2
 |some x::r,i+1,k,b,h=>by
  obtain⟨A,B,h1,h2⟩:=Ob (S:=r) (k:=k+1) (i:=i) (by simpa using h);refine⟨((k:Int),x)::A,B,?_,?_⟩
  ·show ((k:Int),x)::live (k+1) r=_;rw[h1,List.cons_append];congr 4;push_cast;omega
  ·show ((k:Int),x)::live (k+1) (r.set i none)=_;rw[h2];rfl
theorem KY {S:Slots} {i:Nat} {b:Bnd} (h:S[i]? =some (some b)) (k:Int):II S k=II (S.set i none) k+if b.sw=k then 1 else 0:=by
 obtain⟨A,B,h1,h2⟩:=Ob (k:=0) h;unfold II;rw[h1,h2,filter_append,filter_append,length_append,length_append,filter_cons];by_cases hb:b.sw=k
 ·subst hb;simp only[beq_self_eq_true,if_true,length_cons];omega
 ·have:(b.sw==k)=false:=by simpa using hb
  simp[this,hb]
theorem Inv.del (h:Inv c e) (hg:GoodB e.S e.Mi e.Mo) {i:Nat} {b:Bnd} (hi:e.S[i]? =some (some b)) (N:(e.G.map (·.1)).Nodup)
  (one:∀(j:Nat) (x:Bnd),e.S[j]? =some (some x)->(x.opr,x.oad,x.opo)=(b.opr,b.oad,b.opo)->j=i) (Mi Mo:ByteArray->Option Int):
  Inv c {e with S:=e.S.set i none,Mi:=Mi,Mo:=Mo,Q:=e.Q.set b.sw.toNat (QN.at_ e.Q b.sw - 1),G:=yx e.G (b.opr,b.oad,b.opo)}:=by
 have hm:=h.mp i b hi;obtain⟨s0,s1⟩:=hm.2.2.2.2.2.2;have O:=h.ql;have I:∀(j:Nat) (x:Bnd),(e.S.set i none)[j]? =some (some x)↔j≠i/\e.S[j]? =some (some x):=by
  intro j x;rw[getElem?_set];by_cases hj:i=j
  ·subst hj;simp
  ·have:j≠i:=λh=>hj h.symm;simp[hj,this]
 have J:∀o,o∈(yx e.G (b.opr,b.oad,b.opo)).map (·.1)↔o≠(b.opr,b.oad,b.opo)/\o∈e.G.map (·.1):=by
  intro o;have:=JJ N (b.opr,b.oad,b.opo) o;by_cases ho:o=(b.opr,b.oad,b.opo)
  ·rw[if_pos ho] at this;have h2:=wK.1 this;exact⟨λh=>absurd h h2,λh=>absurd ho h.1⟩
  ·rw[if_neg ho] at this;constructor
   ·intro h2;refine⟨ho,?_⟩;refine Classical.byContradiction λhn=> ?_;rw[wK.2 hn] at this;exact wK.1 this h2
   ·rintro⟨_,h2⟩;refine Classical.byContradiction λhn=> ?_;rw[wK.2 hn] at this;exact wK.1 this.symm h2
 refine⟨by simp[O],λk hk=> ?_,λo=> ?_,λj x hx=>h.mp j x ((I j x).1 hx).2⟩
 ·rw[at_set s0 (by omega) hk.1];have hc:=KY hi k;by_cases hb:b.sw=k
  ·subst hb;simp only[if_true] at hc ⊢;rw[h.cn _ ⟨s0,s1⟩];omega
  ·simp only[hb,if_false] at hc ⊢;rw[h.cn _ hk];omega
 ·rw[J,h.gv];constructor
  ·rintro⟨ho,j,x,hx,u⟩;refine⟨j,x,(I j x).2 ⟨λhj=> ?_,hx⟩,u⟩;subst hj;rw[hi] at hx
   cases hx
   exact ho u.symm
  ·rintro⟨j,x,hx,u⟩;obtain⟨hj,hx⟩:=(I j x).1 hx;exact⟨λho=>hj (one j x hx (u.trans ho)),j,x,hx,u⟩
end Go.Proofs.EN
end
section
namespace Go.Proofs.EN
open Gp Go.Proofs
open Gp.Bind (Bnd Slots live GoodB freeN getS In64)
theorem Gw.ok {c:Cf} {b:Bnd} (h:Gw c b) (hc:adb c):b.ok:=by
 obtain⟨h1,h2,h3,h4,h5,h6,h7,h8⟩:=h;obtain⟨h2a,h2b,_⟩:=h2;obtain⟨h3a,h3b,_⟩:=hc.hp _ h3;have hl:=hc.sw;constructor
 ·intro n hn;simp only[Bnd.i,mem_cons,List.not_mem_nil,or_false] at hn;unfold In64;rcases hn with rfl|rfl|rfl|rfl<;>omega
 ·intro n hn;simp only[Bnd.o,mem_cons,List.not_mem_nil,or_false] at hn;unfold In64;rcases hn with rfl|rfl|rfl<;>omega
theorem NZ:∀{S:Slots} (k:Nat),freeN S=none->(live k S).length=S.length
 |[],_,_=>rfl
 |none::r,_,h=>by simp[freeN] at h
 |some c::r,k,h=>by
  simp only[freeN,Option.map_eq_none_iff] at h;simp only[live,length_cons,NZ (k+1) h]
def Cj (c:Cf) (e:ES) (b:Bnd):Int:=
 if ¬Gw c b then 1 else if (e.Mi (Bind.keyS b.i)).isSome||(e.Mo (Bind.keyS b.o)).isSome then 9 else if QN.sJ e.Q b.sw>=c.q then 10 else if ((live 0 e.S).length:Int)>=c.nb then 7 else 0
variable {w w':World} {a:EA} {c:Cf} {e:ES}
theorem map_ok (h:wQ w a c e) (hi:Inv c e) (b:Bnd) (ac:b.st=true):
  oq (some ⟨a.x,0,none⟩) b.sw b.pr b.ad b.po b.opr b.oad b.opo w λr w'=>r=Cj c e b/\
   ((r≠0/\Ext w w')\/(r=0/\Gw c b/\iG w w' (GU a)/\∃A i Mi Mo Q G,freeN e.S=some i/\(∀x,fp A x->fp a.B x\/w.heap.size<=x)/\
    wQ w' {a with B:=A} c {e with S:=e.S.set i (some b),Mi:=Mi,Mo:=Mo,Q:=Q,G:=G}/\Inv c {e with S:=e.S.set i (some b),Mi:=Mi,Mo:=Mo,Q:=Q,G:=G})):=by
 apply Ot;refine iI λt w1 r1 e1 z1 f1=> ?_;have h1:=h.ext f1;refine lV (DN h1) ?_;rintro r w1 ⟨rfl,hw⟩;subst hw;simp -zeta only[Bool.not_true,cond_false,sx,r1.cell];refine NM (aiI h1 b) ?_;rintro r w2 ⟨rfl,f2⟩;by_cases hm:Gw c b;rotate_left
 ·simp only[hm,decide_false,Bool.not_false,cond_true];refine⟨by unfold Cj;rw[if_pos hm],.inl ⟨by decide,f1.trans f2⟩⟩
 have bok:=hm.ok h.cf;have x2:=f2.trans (Ext.drew w2);have h2:=h1.ext x2;have r2:=r1.ext x2;simp -zeta only[hm,decide_true,Bool.not_true,cond_false,sx,h2.c2,r2.cell];refine CV (UK h2.db b.sw b.pr b.ad b.po bok.1) ?_;rintro n1 t1 w3 ⟨rfl,rfl,f3⟩;have x3:=f3.trans (Ext.drew w3);have h3:=h2.ext x3;have r3:=r2.ext x3;simp -zeta only[sx,h3.c2,r3.cell];refine Ip (ZJ h3.db b.opr b.oad b.opo bok.2) ?_;rintro n2 t2 w4 ⟨rfl,rfl,f4⟩;have x4:=((f1.trans x2).trans x3).trans f4;intro J;have hJ:J ((e.Mi (Bind.keyS b.i)).isSome||(e.Mo (Bind.keyS b.o)).isSome):=by
  cases hd:((e.Mi (Bind.keyS b.i)).isSome||(e.Mo (Bind.keyS b.o)).isSome)
  rotate_left
  ·simp only[J,cond_true];exact⟨by unfold Cj;rw[if_neg (not_not_intro hm),if_pos hd],.inl ⟨by decide,x4⟩⟩
  have x5:=f4.trans (Ext.drew w4);have h5:=h3.ext x5;have r5:=r3.ext x5;simp only[J,cond_false,sx,h5.c1,h5.c25,r5.cell];refine Jq (QN.aeW h5.qr _) ?_;rintro n w5 ⟨rfl,hw⟩;subst hw;refine⟨h5.c25,?_⟩;by_cases hq:QN.sJ e.Q b.sw>=c.q
  ·simp only[hq,decide_true,cond_true];exact⟨by unfold Cj;rw[if_neg (not_not_intro hm),if_neg (by rw[hd];decide),if_pos hq],.inl ⟨by decide,x4.trans (Ext.drew w4)⟩⟩
  simp only[hq,decide_false,cond_false];refine LH (YB h5) ?_;rintro n w6 ⟨rfl,f6⟩;have x6:=(x4.trans (Ext.drew w4)).trans f6;by_cases u:((live 0 e.S).length:Int)>=c.nb
  ·simp only[u,decide_true,cond_true];exact⟨by unfold Cj;rw[if_neg (not_not_intro hm),if_neg (by rw[hd];decide),if_neg hq,if_pos u],.inl ⟨by decide,x6⟩⟩
  have y6:=f6.trans (Ext.drew w6);have h6:=h5.ext y6;have r6:=r5.ext y6;have xx:=x6.trans (Ext.drew w6);simp only[u,decide_false,cond_false,sx,h6.c1,r6.cell];obtain⟨s0,s1⟩:=hm.2.2.2.2.2.2;have Y:QN.N_ e.Q b.sw:=⟨s0,by rw[hi.ql];exact s1⟩;have ae:QN.sJ e.Q b.sw=QN.at_ e.Q b.sw:=by unfold QN.sJ;rw[if_pos Y]
  have aa:QN.Au e.Q c.q b.sw=(0,e.Q.set b.sw.toNat (QN.at_ e.Q b.sw+1)):=by
   unfold QN.Au;rw[if_pos Y,if_neg (by rw[<- ae];exact hq)]
  have ht:t<w.drew.heap.size\/w.heap.size<=t:= .inr (by omega);refine LK (QN.ahH h6.qr h6.qo _) ?_;rintro n w7 ⟨rfl,q7,f7⟩;rw[aa] at q7;have o7:QN.QOk (e.Q.set b.sw.toNat (QN.at_ e.Q b.sw+1)) c.q:=by
   have:=QN.aaK h6.qo b.sw;rw[aa] at this;exact this
  have h7:=(h6.af_ f7 q7 o7).ext (Ext.drew w7);have r7:=(r6.fr f7 (λhe=>by have:=h.lt 2 a.qs (.inr rfl);omega)).drew;simp only[sx,h7.c0,r7.cell];have af:(b.opr,b.oad,b.opo)∉e.G.map (·.1):=by
   intro hc;obtain⟨j,x,hx,ho⟩:=(hi.gv _).1 hc;have:e.Mo (Bind.keyS b.o)=some (j:Int):=(h.db.good.o _ _).2 ⟨j,x,hx,by simp only[Prod.mk.injEq] at ho;unfold Bnd.o;rw[ho.1,ho.2.1,ho.2.2],rfl⟩;rw[this] at hd;simp at hd
  have ag:b.opr=1\/b.opr=6\/b.opr=17:=by rw[<- hm.2.2.2.2.2.1];exact hm.1
  refine Pj (PN.ahe h7.pl ag hm.2.2.1 hm.2.2.2.2.1.1 (by have:=hm.2.2.2.2.1.2;omega) af) ?_;rintro n w8 ⟨rfl,p8,f8⟩;have h8:=(h7.ajI f8 p8).ext (Ext.drew w8);have r8:=(r7.fr f8 (λhe=>by have:=h.lt 1 a.g (.inr (.inl rfl));omega)).drew;simp only[sx,h8.c2,r8.cell];have I:=agU h8.db b bok (h8.lt 3);rw[ac] at I;refine Us I ?_;rintro n m w9 ⟨hr,f9,A,S',Mi',Mo',d9,ah,ab,R,hS'⟩;have N:∃i,freeN e.S=some i:=by
   cases ai:freeN e.S with
   |some i=>exact⟨i,rfl⟩
   |none=>
    have h10:=NZ 0 ai;have h11:=h.db.len;have:=h.cf.b1;omega
  obtain⟨i,U⟩:=N;have O:O4 e.S e.Mi e.Mo b=((i:Int),0):=by
   unfold O4;rw[hd,if_neg (by decide),U]
  simp only[O] at hr hS';simp only[if_true,toNat_natCast] at hS'
  cases hr
  subst hS';have h9:=h8.setB f9 d9 ah (λx hx=>ab x hx) R;have m0:Cj c e b=0:=by
   unfold Cj;rw[if_neg (not_not_intro hm),if_neg (by rw[hd];decide),if_neg hq,if_neg u]
  refine⟨m0.symm,.inr ⟨rfl,by trivial,?_,A,i,Mi',Mo',_,_,U,λx hx=> ?_,h9,hi.add U hm Mi' Mo'⟩⟩
  ·have g7:iG w w7 (GU a):=(xx.fr f7).mono λy hy=>⟨2,.inr hy⟩;have g8:iG w w8 (GU a):=(g7.ext (Ext.drew _)).trans f8 λy _ hy=>⟨1,.inr (.inl hy)⟩;exact(g8.ext (Ext.drew _)).trans f9 λy _ hy=>⟨3,hy⟩
  ·rcases ab x hx with hx|hx
   ·exact .inl hx
   ·refine .inr ?_;have e7:=f7.size;have e8:=f8.size;have ex:=xx.size;have d7:w7.drew.heap.size=w7.heap.size:=rfl;have d8:w8.drew.heap.size=w8.heap.size:=rfl;omega
 cases hd1:(e.Mi (Bind.keyS b.i)).isSome
 ·rw[hd1,Bool.false_or] at hJ;have:(e.Mi (Bind.keyS [b.sw,b.pr,b.ad,b.po])).isSome=false:=hd1;simp -zeta only[this,cond_false];exact hJ
 ·rw[hd1,Bool.true_or] at hJ;have:(e.Mi (Bind.keyS [b.sw,b.pr,b.ad,b.po])).isSome=true:=hd1;simp -zeta only[this,cond_true];exact hJ
end Go.Proofs.EN
end
section
namespace Go.Proofs.EN
open Gp Go.Proofs
open Gp.Bind (Bnd Slots live GoodB freeN getS In64)
variable {w w':World} {a:EA} {c:Cf} {e:ES}
theorem aiW (w:World) (d:Nat) (k:Int):qg (some ⟨d,0,none⟩) k w λv w'=>Ext w w'/\∃f0 f1,v=Value.func (.func Cm) #[] #[(Value.pointer (some ⟨f0,0,none⟩)),(Value.pointer (some ⟨f1,0,none⟩))]/\Row w' f0 [.pointer (some ⟨d,0,none⟩)]/\Row w' f1 [.int .i64 k]:=by
 apply MX;refine⟨rfl,?_⟩;refine iI λf0 w1 r1 e1 z1 g1=>⟨rfl,?_⟩;refine iI λf1 w2 r2 e2 z2 g2=> ?_;exact⟨g1.trans g2,f0,f1,rfl,r1.ext g2,r2⟩
theorem Zx (h:wQ w a c e) {id:Int} (h0:SN.ofL e.SS id=[]):ng (some ⟨a.x,0,none⟩) id w λw'=>Ext w w':=by
 apply JZ;refine⟨rfl,?_⟩;refine iI λt w1 r1 e1 z1 f1=> ?_;have h1:=h.ext f1;simp only[sx,r1.cell,h1.c3];refine LX (aiW w1 _ _) ?_;rintro v w2 ⟨f2,g0,g1,rfl,p0,p1⟩;have h2:=h1.ext f2;have hla:mV none w2=w2.heap.size+1:=rfl;have hz:=(f1.trans f2).size;have fin:∀W,Ext w2 W->Ext w (W.putObj w2.heap.size (.deferred none)):=λW hx=>(((f1.trans f2).trans hx).fr (iG.kU W w2.heap.size _)).new λb hb he=>by omega
 refine Rz (SN.ahq c.ns.toNat e.SS e.M a.T g0 g1 id) (λ_ W=>Ext w2 W) (λ_ _=>False) (by simp) (λW f _=>f) ?_ ?_ (by intro e W W' h;exact h.elim) (by intro e W h;exact h.elim) ?_ ?_ (by intro W h;exact h.elim) (by intro id W h;exact h.elim)
 ·intro i W hx;exact⟨p0.ext hx,p1.ext hx,h2.se.ext hx⟩
 ·intro i W W' hx hf;exact(hx.fr hf).new λb hb he=>by omega
 ·intro i x W Kb hx;rw[h0] at hx;simp[SN.yS] at hx
 ·intro W hx hm;exact⟨hm rfl,fin W hx⟩
def NoS (e:ES):Prop:=live0 e.SS=[] where live0:=Gp.Ses.live 0
theorem NoS.of {e:ES} (h:NoS e) (id:Int):SN.ofL e.SS id=[]:=by
 unfold SN.ofL;have:Gp.Ses.live 0 e.SS=[]:=h;rw[this];rfl
theorem DU {S:Slots} {Mi Mo:ByteArray->Option Int} (hg:GoodB S Mi Mo) {i j:Nat} {b x:Bnd} (hi:S[i]? =some (some b)) (hj:S[j]? =some (some x)) (h:(x.opr,x.oad,x.opo)=(b.opr,b.oad,b.opo)):j=i:=by
 have h1:Mo (Bind.keyS b.o)=some (i:Int):=(hg.o _ _).2 ⟨i,b,hi,rfl,rfl⟩;have e:x.o=b.o:=by simp only[Prod.mk.injEq] at h;unfold Bnd.o;rw[h.1,h.2.1,h.2.2]
 have h2:Mo (Bind.keyS b.o)=some (j:Int):=(hg.o _ _).2 ⟨j,x,hj,by rw[e],rfl⟩;rw[h1] at h2;simp at h2;omega
theorem ab2 (h:wQ w a c e) (hi:Inv c e) (hs:NoS e) {i:Nat} {b:Bnd} (hb:e.S[i]? =some (some b)):
  kG (some ⟨a.x,0,none⟩) (i:Int) w λw'=>iG w w' (GU a)/\∃Mi Mo Q G,wQ w' a c {e with S:=e.S.set i none,Mi:=Mi,Mo:=Mo,Q:=Q,G:=G}/\Inv c {e with S:=e.S.set i none,Mi:=Mi,Mo:=Mo,Q:=Q,G:=G}:=by
 apply Ib;have u:getS e.S (i:Int)=some b:=Gp.Bind.zh.2 ⟨by omega,by rw[toNat_natCast];exact hb⟩;simp only[sx,h.c2];refine Jh (acB h.db _) ?_;rintro a1 a2 a3 a4 a5 a6 a7 a8 r w1 ⟨rfl,hr,f1⟩;rw[u] at hr;obtain⟨rfl,rfl,rfl,rfl,rfl,rfl,rfl,rfl⟩:=hr;simp only[u,getD_some,isSome_some];refine iI λt w2 r2 e2 z2 f2=> ?_;refine iJ r2 (by rfl) (by rfl) λw3 r3 f3 z3=> ?_;have x3:Ext w w3:=(f1.trans f2).new (f3 (·=t) rfl) λy hy he=>by have:=f1.size;omega
 have ht:w.heap.size<=t:=by have:=f1.size;omega
 have h3:=h.ext x3;simp only[Bool.not_true,cond_false];refine Cb (Zx h3 (hs.of _)) ?_;intro w4 f4;have h4:=h3.ext f4;have r4:=r3.ext f4;have x4:=x3.trans f4;simp only[sx,h4.c2];refine O9 (abn h4.db _ (h4.lt 3)) ?_;rintro r w5 ⟨_,f5,Mi',Mo',d5⟩;rw[u] at d5;simp only[isSome_some,if_true,toNat_natCast] at d5;have h5:=(h4.setB f5 d5 rfl (λx hx=> .inl hx) (λx hx=>Nat.lt_of_lt_of_le (h4.lt 3 x hx) f5.size)).ext (Ext.drew w5);have r5:=(r4.fr f5 (λhe=>by have:=h.lt 3 t he;omega)).drew;have g5:iG w w5 (GU a):=(x4.fr f5).mono λy hy=>⟨3,hy⟩;have I:(b.opr,b.oad,b.opo)∈e.G.map (·.1):=(hi.gv _).2 ⟨i,b,hb,rfl⟩;simp only[sx,h5.c0,r5.cell];refine Ph (PN.ag4 h5.pl I) ?_;rintro r w6 ⟨rfl,p6,f6⟩;have h6:=(h5.ajI f6 p6).ext (Ext.drew w6);have r6:=(r5.fr f6 (λhe=>by have:=h.lt 1 a.g (.inr (.inl rfl));have he:t=a.g:=he;omega)).drew;have g6:iG w w6 (GU a):=(g5.ext (Ext.drew _)).trans f6 λy _ hy=>⟨1,.inr (.inl hy)⟩;simp only[sx,h6.c1,r6.cell];obtain⟨s0,s1⟩:=(hi.mp i b hb).2.2.2.2.2.2;have J:QN.N_ e.Q b.sw:=⟨s0,by rw[hi.ql];exact s1⟩;have N:¬QN.at_ e.Q b.sw=0:=by
  rw[hi.cn _ ⟨s0,s1⟩];have:=KY hb b.sw;rw[if_pos rfl] at this;omega
 have O:QN.zU e.Q b.sw=(0,e.Q.set b.sw.toNat (QN.at_ e.Q b.sw - 1)):=by
  unfold QN.zU;rw[if_pos J,if_neg N]
 refine LJ (QN.ag6 h6.qr h6.qo _) ?_;rintro r w7 ⟨rfl,q7,f7⟩;have o7:=QN.Z5 h6.qo b.sw;rw[show QN.zU ({e with S:=e.S.set i none,Mi:=Mi',Mo:=Mo',G:=yx e.G (b.opr,b.oad,b.opo)}:ES).Q b.sw=_ from O] at q7 o7;refine⟨(g6.ext (Ext.drew _)).trans f7 λy _ hy=>⟨2,.inr hy⟩,Mi',Mo',_,_,h6.af_ f7 q7 o7,?_⟩;exact hi.del h.db.good hb h.pl.nd (λj x hx ho=>DU h.db.good hb hx ho) Mi' Mo'
end Go.Proofs.EN
end
section
namespace Go.Proofs.EN
open Gp Go.Proofs
open Gp.Bind (Bnd Slots live GoodB freeN getS In64)
variable {w w':World} {a:EA} {c:Cf} {e:ES}
theorem agl (h:wQ w a c e) (hi:Inv c e) (hs:NoS e) {i:Nat} {b:Bnd} (hb:e.S[i]? =some (some b)) (I:b.st=true):
  oM (some ⟨a.x,0,none⟩) b.sw b.pr b.ad b.po w λr w'=>r=0/\iG w w' (GU a)/\∃Mi Mo Q G,wQ w' a c {e with S:=e.S.set i none,Mi:=Mi,Mo:=Mo,Q:=Q,G:=G}/\Inv c {e with S:=e.S.set i none,Mi:=Mi,Mo:=Mo,Q:=Q,G:=G}:=by
 apply JY;have bok:=h.db.good.ok i b hb;have J:getS e.S (i:Int)=some b:=Gp.Bind.zh.2 ⟨by omega,by rw[toNat_natCast];exact hb⟩;refine iI λt w1 r1 e1 z1 f1=> ?_;have h1:=h.ext f1;refine lV (DN h1) ?_;rintro r w1 ⟨rfl,hw⟩;subst hw;have h1d:=h1.ext (Ext.drew w1);simp only[Bool.not_true,cond_false,sx,h1d.c2,r1.drew.cell];refine CV (UK h1d.db b.sw b.pr b.ad b.po bok.1) ?_;rintro n t1 w2 ⟨rfl,rfl,f2⟩;have N:e.Mi (Bind.keyS [b.sw,b.pr,b.ad,b.po])=some (i:Int):=(h.db.good.i _ _).2 ⟨i,b,hb,rfl,rfl⟩;have h2:=h1d.ext f2;have x2:=(f1.trans (Ext.drew w1)).trans f2;simp only[N,isSome_some,getD_some,sx,h2.c2];refine Jh (acB h2.db _) ?_;rintro a1 a2 a3 a4 a5 a6 a7 a8 r w3 ⟨_,hr,f3⟩;rw[J] at hr;obtain⟨rfl,rfl,rfl,rfl,rfl,rfl,rfl,rfl⟩:=hr;simp only[getD_some];refine iI λu w4 r4 e4 z4 f4=> ?_;refine iJ r4 (by rfl) (by rfl) λw5 r5 f5 z5=> ?_;have x5:Ext w w5:=((x2.trans f3).trans f4).new (f5 (·=u) rfl) λy hy he=>by have:=(x2.trans f3).size;omega
 have h5:=h.ext x5;simp only[Bool.not_true,cond_false,sx,r5.cell,I];refine HY (ab2 h5 hi hs hb) ?_;rintro w6 ⟨f6,Mi,Mo,Q,G,h6,i6⟩;exact⟨by trivial,x5.fr f6,Mi,Mo,Q,G,h6,i6⟩
end Go.Proofs.EN
namespace Go.Proofs.WN
open Gp Gp.Wh
variable {w w':World} {d m:Nat} {ss:List iq} {l:PL} {now:Nat} {tn most:Int} {F:Fs}
theorem ace (h:WS w d m ss l now tn most F) {id:Int} {t:Tm} (hl:kT l id=some t):
  lS (some ⟨d,0,none⟩) id w λr w'=>r=true/\iG w w' (pz d m ss)/\∃ss' F',WS w' d m ss' (yx l id) now tn most F'/\∀b,pz d m ss' b->pz d m ss b\/w.heap.size<=b:=by
 apply Ar;refine nX (G6 h.wm) ?_;rintro r w1 ⟨rfl,hw⟩;subst hw;simp only[Bool.not_true,cond_false,sx,h.wm.X9];refine KQ (enc:=Ti) (ev:=evT) h.wm.mp eqW id (abD _) (λhc=>by rw[hl] at hc;cases hc) (λt' ht'=> ?_);rw[hl] at ht'
 cases ht'
 refine⟨_,_,_,rfl,?_⟩;refine iI λp w2 r2 e2 z2 f2=> ?_;refine iJ r2 (by rfl) (by rfl) λw3 r3 f3 z3=> ?_;have x3:Ext w1 w3:=f2.new (f3 (·=p) rfl) λy hy he=>by omega
 have h3:=h.ext x3;simp only[Bool.not_true,cond_false,sx,r3.cell];obtain⟨O,ha1,ha2⟩:=h.wi.pl id t hl;have N:=h.wm.nd;refine Df (aaS h3.wm h.wi.nw t ha2) ?_;rintro w4 ⟨f4,n,ss',hn7,R,m4,I⟩;simp only[sx,m4.X9];refine m4.ajo id λw5 m5 f5 z5=> ?_;have hP:kT (yx l id)=G5 (kT l) id none:=by
  funext id';rw[JJ N];unfold G5;split<;>rfl
 have J:∀i u,kT (yx l id) i=some u->kT l i=some u:=by
  intro i u hu;rw[JJ N] at hu;split at hu
  ·cases hu
  ·exact hu
 refine⟨by trivial,?_,ss',_,⟨m5,?_,⟨h.mo.1,?_⟩,λi u hu=>h.tb i u (J i u hu),λi i' u u' hu hu' ht=>h.ti i i' u u' (J i u hu) (J i' u' hu') ht,h.t0⟩,λb hb=> ?_⟩
 ·exact(x3.fr f4).trans f5 λb _ hb=> .inr (.inl hb)
 ·rw[hP,O];exact h.wi.take hl R
 ·have:=(K_ l id).length_le;have:=h.mo.2;omega
 ·rcases I b hb with hb|hb
  ·exact .inl hb
  ·exact .inr (by have:=x3.size;omega)
theorem ZK:∀{l:PL} {id:Int},kT l id=none->yx l id=l
 |[],_,_=>rfl
 |x::l,id,h=>by
  unfold kT at h;unfold yx;split at h
  ·cases h
  ·rename_i hx;rw[if_neg hx,ZK h]
theorem aaP (h:WS w d m ss l now tn most F) (id:Int):
  lS (some ⟨d,0,none⟩) id w λr w'=>r=(kT l id).isSome/\iG w w' (pz d m ss)/\∃ss' F',WS w' d m ss' (yx l id) now tn most F'/\∀b,pz d m ss' b->pz d m ss b\/w.heap.size<=b:=by
 cases hl:kT l id with
 |some t=>exact Am (ace h hl) λr w' ⟨h1,h2,h3⟩=>⟨h1,h2,h3⟩
 |none=>
 apply Ar;refine nX (G6 h.wm) ?_;rintro r w1 ⟨rfl,hw⟩;subst hw;simp only[Bool.not_true,cond_false,sx,h.wm.X9];refine KQ (enc:=Ti) (ev:=evT) h.wm.mp eqW id (abD _) (λ_=> ?_) (λt' ht'=>by rw[hl] at ht';cases ht');refine⟨_,_,_,rfl,?_⟩;refine iI λp w2 r2 e2 z2 f2=> ?_;refine iJ r2 (by rfl) (by rfl) λw3 r3 f3 z3=> ?_;have x3:Ext w1 w3:=f2.new (f3 (·=p) rfl) λy hy he=>by omega
 simp only[Bool.not_false,cond_true];refine⟨rfl,x3 _,ss,F,?_,λb hb=> .inl hb⟩;rw[ZK hl];exact h.ext x3
end Go.Proofs.WN
end
section
namespace Gp
open Go
variable {α β:Type} [DecidableEq α] {enc:α->Value} {ev:β->Value} {w:World} {r:Nat} {l:List (α×β)} {P:Program} {kt:TypeId}
theorem Ue (h:rH enc ev w r l) (hE:∀a b:α,FH P 16 kt (enc a) (enc b)=some (decide (a=b))) (a:α) (hk:oQ P kt (enc a)=true) (hn:kT l a=none) (z:Value) (b:β) {K:Value->Int->b_}
  (hK:∀n w1,(∀{K2:b_},(∀w',rH enc ev w' r (IB l a b)->iG w w' (·=r)->w'.heap.size=w.heap.size->K2 w')->Zr (some r) n (ev b) w1 K2)->K z n w1):Ud P kt (some r) (enc a) z w K:=by
 obtain⟨es,c,h1,h2,h3,h4⟩:=h;have u:=(Array.getElem?_eq_some_iff.1 h1).1;rcases Le hE a b es.toList _ 0 h2 with ⟨_,q2,q3⟩|⟨j,v,e,q1,_⟩;rotate_left
 ·rw[hn] at q1;cases q1
 refine⟨hk,r,es,c,rfl,h1,none,q2,?_⟩;refine hK _ _ λ{K2} hK2=> ?_;have hg:(w.putObj r (.map (es.push {key:=enc a,val:=z,born:=c}) (c+1))).heap[r]? =some (.map (es.push {key:=enc a,val:=z,born:=c}) (c+1)):=by
  simp[World.putObj,Array.getElem?_setIfInBounds,u]
 have hf:(es.push {key:=enc a,val:=z,born:=c}).findIdx? (λe=>(e.born:Int)==(c:Int))=some es.size:=by
  rw[Array.findIdx?_eq_some_iff_getElem];refine⟨by simp,by simp,λj hj=> ?_⟩;have hj':j<es.size:=hj;rw[getElem_push_lt hj'];have:=h4 es[j] (by simp);simp;omega
 refine⟨r,_,_,_,rfl,hg,hf,?_⟩;have hm:(es.push {key:=enc a,val:=z,born:=c}).modify es.size (λe=>{e with val:=ev b})=es.push {key:=enc a,val:=ev b,born:=c}:=by
  apply Array.ext
  ·simp
  ·intro i hi1 hi2;simp only[Array.getElem_modify];split
   ·rename_i he;subst he;simp
   ·rename_i he;have:i<es.size:=by simp at hi1;omega
    rw[getElem_push_lt this,getElem_push_lt this]
 rw[hm];refine hK2 _ ⟨es.push {key:=enc a,val:=ev b,born:=c},c+1,by simp[World.putObj,Array.getElem?_setIfInBounds,u],?_,?_,?_⟩ ((iG.kU _ _ _).trans (iG.kU _ _ _) λ_ _ e=>e) (by simp[World.putObj])
 ·rw[q3];simp[h2]
 ·rw[Array.toList_push,map_append,List.nodup_append];refine⟨h3,by simp,λx hx y hy e=> ?_⟩;obtain⟨e',he',rfl⟩:=List.mem_map.1 hx;have:=h4 e' he';simp at hy;omega
 ·intro e he;rw[Array.toList_push] at he;rcases List.mem_append.1 he with he|he
  ·have:=h4 e he;omega
  ·rw[List.mem_singleton.1 he];simp
end Gp
end
section
namespace Go.Proofs.PS
open Gp Go.Proofs Go.Proofs.EN
open Gp.Bind (Bnd Slots live GoodB freeN getS In64)
open Gp.Wh (Tm)
abbrev I4:=Int×Int×Int×Int
def encI (x:I4):Value:= .agg ⟨[.int .i64 x.1,.int .i64 x.2.1,.int .i64 x.2.2.1,.int .i64 x.2.2.2]⟩
def Dq (x:Int):Value:= .int .i64 x
def Xp (n:Nat):Value:= .pointer (some ⟨n,0,none⟩)
theorem eqI (a b:I4):FH Tryz.prog 16 78 (encI a) (encI b)=some (decide (a=b)):=by
 have h:FH Tryz.prog 16 78 (encI a) (encI b)=some ((a.1==b.1) && ((a.2.1==b.2.1) && ((a.2.2.1==b.2.2.1) && ((a.2.2.2==b.2.2.2) && true)))):=by kernel_rfl
 rw[h];obtain⟨a1,a2,a3,a4⟩:=a;obtain⟨b1,b2,b3,b4⟩:=b;have ib:∀x y:Int,(x==y)=decide (x=y):=λ_ _=>rfl;simp[ib,Bool.decide_and]
theorem afy (a:I4):oQ Tryz.prog 78 (encI a)=true:=by
 unfold oQ;rw[eqI];rfl
theorem eqN (a b:Int):FH Tryz.prog 16 3 (Dq a) (Dq b)=some (decide (a=b)):=WN.eqW a b
theorem Z_ (a:Int):oQ Tryz.prog 3 (Dq a)=true:=WN.abD a
structure iR where
 blk:Nat
 b:Bnd
 un:Int
 id:Int
def iR.v (x:iR):List Value:=[.int .i64 x.b.sw,.int .i64 x.b.pr,.int .i64 x.b.ad,.int .i64 x.b.po,.int .i64 x.b.opr,.int .i64 x.b.oad,.int .i64 x.b.opo,.int .i64 x.un,.int .i64 x.id]
def iR.k (x:iR):I4:=(x.b.sw,x.b.pr,x.b.ad,x.b.po)
structure SA where
 s:Nat
 a:EA
 d:Nat
 m:Nat
 ss:List iq
 ml:Nat
 mi:Nat
structure SV where
 e:ES
 now:Nat
 wn:Nat
 nx:Int
 most:Int
 L:List iR
 LI:List (I4×Nat)
 LD:List (Int×Nat)
 l:WN.PL
 tn:Int
 F:Gp.Wh.Fs
def own (A:SA) (L:List iR):Nat->Nat->Prop
 |0,b=>b=A.s
 |1,b=>GU A.a b
 |2,b=>WN.pz A.d A.m A.ss b
 |3,b=>b=A.ml
 |4,b=>b=A.mi
 |5,b=>∃x∈L,x.blk=b
 |_,_=>False
def jS (A:SA) (L:List iR) (b:Nat):Prop:=∃k,own A L k b
structure Srv (w:World) (A:SA) (c:Cf) (v:SV):Prop where
 hd:Row w A.s [.pointer (some ⟨A.a.x,0,none⟩),.pointer (some ⟨A.d,0,none⟩),.map (some A.ml),.map (some A.mi),.int .i64 (v.now:Int),.int .i64 v.nx,.int .i64 v.most]
 en:wQ w A.a c v.e
 wh:WN.WS w A.d A.m A.ss v.l v.wn v.tn v.most v.F
 li:rH encI Xp w A.ml v.LI
 ld:rH Dq Xp w A.mi v.LD
 nI:(v.LI.map (·.1)).Nodup
 nD:(v.LD.map (·.1)).Nodup
 rw:∀x∈v.L,Row w x.blk x.v
 ap:∀k k' b,own A v.L k b->own A v.L k' b->k=k'
 lt:∀k b,own A v.L k b->b<w.heap.size
 bn:(v.L.map (·.blk)).Nodup
variable {w w':World} {A:SA} {c:Cf} {v:SV}
theorem Srv.off (h:Srv w A c v) {j k b:Nat} (hk:own A v.L k b) (hn:k≠j):¬own A v.L j b:=λhj=>hn (h.ap k j b hk hj)
theorem Srv.fr {S:Nat->Prop} (h:Srv w A c v) (hf:iG w w' S) (hs:∀k b,own A v.L k b->¬S b):Srv w' A c v:=
 ⟨h.hd.fr hf (hs 0 _ rfl),h.en.fr hf (λk b hb=>hs 1 b ⟨k,hb⟩),h.wh.fr hf (hs 2),h.li.fr hf (hs 3 _ rfl),h.ld.fr hf (hs 4 _ rfl),h.nI,h.nD,λx hx=>(h.rw x hx).fr hf (hs 5 _ ⟨x,hx,rfl⟩),h.ap,
  λk b hb=>Nat.lt_of_lt_of_le (h.lt k b hb) hf.size,h.bn⟩
theorem Srv.ext (h:Srv w A c v) (hf:Ext w w'):Srv w' A c v:=h.fr (hf λ_=>False) (λ_ _ _=>by simp)
theorem Ad (h:Srv w A c v):kD (some ⟨A.s,0,none⟩) w λr w'=>r=true/\w'=w:=by
 apply Kq;simp only[sx,h.hd.cell,Bool.not_false];exact⟨by trivial,by trivial⟩
theorem Srv.setW (h:Srv w A c v) {ss:List iq} {l:WN.PL} {tn:Int} {F:Gp.Wh.Fs} (hf:iG w w' (own A v.L 2)) {wn:Nat} (hw:WN.WS w' A.d A.m ss l wn tn v.most F) (u:∀x,WN.pz A.d A.m ss x->WN.pz A.d A.m A.ss x\/w.heap.size<=x):
  Srv w' {A with ss:=ss} c {v with wn:=wn,l:=l,tn:=tn,F:=F}:=by
 have same:∀k b,k≠2->own {A with ss:=ss} v.L k b->own A v.L k b:=by
  intro k b hk ho
  match k,ho with
  |0,ho=>exact ho
  |1,ho=>exact ho
  |2,_=>exact absurd rfl hk
  |3,ho=>exact ho
  |4,ho=>exact ho
  |5,ho=>exact ho
  |(n+6),ho=>exact ho
 have o:∀k b,own A v.L k b->k≠2->¬own A v.L 2 b:=λk b hk hn=>h.off hk hn;refine⟨h.hd.fr hf (o 0 _ rfl (by decide)),h.en.fr hf (λk b hb=>o 1 b ⟨k,hb⟩ (by decide)),hw,h.li.fr hf (o 3 _ rfl (by decide)),h.ld.fr hf (o 4 _ rfl (by decide)),h.nI,h.nD,λx hx=>(h.rw x hx).fr hf (o 5 _ ⟨x,hx,rfl⟩ (by decide)),
  Ny (j:=2) h.ap h.lt same (λb hb=>u b hb),?_,h.bn⟩
 intro k b hb;by_cases hk:k=2
 ·subst hk;exact hw.wm.lt hb
 ·exact Nat.lt_of_lt_of_le (h.lt k b (same k b hk hb)) hf.size
theorem Srv.ad_ (h:Srv w A c v) {n:Nat} (hf:iG w w' (·=A.s)) (hr:Row w' A.s [.pointer (some ⟨A.a.x,0,none⟩),.pointer (some ⟨A.d,0,none⟩),.map (some A.ml),.map (some A.mi),.int .i64 (n:Int),.int .i64 v.nx,.int .i64 v.most]):Srv w' A c {v with now:=n}:=by
 have o:∀k b,own A v.L k b->k≠0->¬b=A.s:=λk b hk hn he=>h.off (j:=0) hk hn he;exact⟨hr,h.en.fr hf (λk b hb=>o 1 b ⟨k,hb⟩ (by decide)),h.wh.fr hf (λb hb=>o 2 b hb (by decide)),h.li.fr hf (o 3 _ rfl (by decide)),h.ld.fr hf (o 4 _ rfl (by decide)),h.nI,h.nD,λx hx=>(h.rw x hx).fr hf (o 5 _ ⟨x,hx,rfl⟩ (by decide)),h.ap,
  λk b hb=>Nat.lt_of_lt_of_le (h.lt k b hb) hf.size,h.bn⟩
theorem Srv.ab5 (h:Srv w A c v) {a:EA} {e:ES} (hf:iG w w' (GU A.a)) (he:wQ w' a c e) (hx:a.x=A.a.x) (u:∀b,GU a b->GU A.a b\/w.heap.size<=b):
  Srv w' {A with a:=a} c {v with e:=e}:=by
 have same:∀k b,k≠1->own {A with a:=a} v.L k b->own A v.L k b:=by
  intro k b hk ho
  match k,ho with
  |0,ho=>exact ho
  |1,_=>exact absurd rfl hk
  |2,ho=>exact ho
  |3,ho=>exact ho
  |4,ho=>exact ho
  |5,ho=>exact ho
  |(n+6),ho=>exact ho
 have o:∀k b,own A v.L k b->k≠1->¬GU A.a b:=λk b hk hn=>h.off (j:=1) hk hn;refine⟨?_,he,h.wh.fr hf (λb hb=>o 2 b hb (by decide)),h.li.fr hf (o 3 _ rfl (by decide)),h.ld.fr hf (o 4 _ rfl (by decide)),h.nI,h.nD,λx hx=>(h.rw x hx).fr hf (o 5 _ ⟨x,hx,rfl⟩ (by decide)),
  Ny (j:=1) h.ap h.lt same (λb hb=>u b hb),?_,h.bn⟩
 ·have:=h.hd.fr hf (o 0 _ rfl (by decide));simp only[hx];exact this
 intro k b hb;by_cases hk:k=1
 ·subst hk;obtain⟨j,hj⟩:=hb;exact he.lt j b hj
 ·exact Nat.lt_of_lt_of_le (h.lt k b (same k b hk hb)) hf.size
end Go.Proofs.PS
end
section
namespace Go.Proofs.PS
open Gp Go.Proofs Go.Proofs.EN
open Gp.Bind (Bnd Slots live GoodB freeN getS In64)
open Gp.Wh (Tm)
variable {w w':World} {A:SA} {c:Cf} {v:SV}
def GX (n:Nat) (un:Int) (L:List iR):List iR:=L.map λy=>if y.blk=n then {y with un:=un} else y
theorem VN (n:Nat) (un:Int) (L:List iR):(GX n un L).map (·.blk)=L.map (·.blk):=by
 unfold GX;rw[List.map_map];refine List.map_congr_left λy _=> ?_;simp only[Function.comp];split<;>rfl
theorem Za {A:SA} {L L':List iR} (h:L'.map (·.blk)=L.map (·.blk)) (k b:Nat):own A L' k b↔own A L k b:=by
 match k with
 |0=>exact Iff.rfl
 |1=>exact Iff.rfl
 |2=>exact Iff.rfl
 |3=>exact Iff.rfl
 |4=>exact Iff.rfl
 |5=>
  have e:∀M:List iR,own A M 5 b↔b∈M.map (·.blk):=λM=>by
   show (∃x∈M,x.blk=b)↔_;rw[mem_map]
  rw[e,e,h]
 |(n+6)=>exact Iff.rfl
theorem ET {L:List iR} (h:(L.map (·.blk)).Nodup) {x y:iR} (hx:x∈L) (hy:y∈L) (e:y.blk=x.blk):y=x:=by
 induction L with
 |nil=>cases hx
 |cons z L ih=>
  rw[map_cons,List.nodup_cons] at h;rcases List.mem_cons.1 hx with hx|hx<;>rcases List.mem_cons.1 hy with hy|hy
  ·rw[hx,hy]
  ·exact absurd (List.mem_map.2 ⟨y,hy,by rw[e,hx]⟩) h.1
  ·exact absurd (List.mem_map.2 ⟨x,hx,by rw[<- e,hy]⟩) h.1
  ·exact ih h.2 hx hy
theorem Srv.GX (h:Srv w A c v) {x:iR} (hx:x∈v.L) {un:Int} (hf:iG w w' (·=x.blk)) (hr:Row w' x.blk ({x with un:=un}:iR).v):Srv w' A c {v with L:=GX x.blk un v.L}:=by
 have o:∀k b,own A v.L k b->k≠5->¬b=x.blk:=λk b hk hn he=>h.off (j:=5) hk hn ⟨x,hx,he.symm⟩;have hb:=VN x.blk un v.L;refine⟨h.hd.fr hf (o 0 _ rfl (by decide)),h.en.fr hf (λk b hb=>o 1 b ⟨k,hb⟩ (by decide)),h.wh.fr hf (λb hb=>o 2 b hb (by decide)),h.li.fr hf (o 3 _ rfl (by decide)),h.ld.fr hf (o 4 _ rfl (by decide)),h.nI,h.nD,?_,
  λk k' b h1 h2=>h.ap k k' b ((Za hb k b).1 h1) ((Za hb k' b).1 h2),λk b h1=>Nat.lt_of_lt_of_le (h.lt k b ((Za hb k b).1 h1)) hf.size,by rw[hb];exact h.bn⟩
 intro y hy;obtain⟨z,hz,rfl⟩:=List.mem_map.1 hy;by_cases u:z.blk=x.blk
 ·rw[if_pos u];obtain rfl:=ET h.bn hx hz u;exact hr
 ·rw[if_neg u];exact(h.rw z hz).fr hf u
theorem acK (h:Srv w A c v) {x:iR} (hx:x∈v.L) {life:Int} (hl:0<=life) (hl2:life<=4294967296) (hid:0<=x.id/\x.id<=8192) (u:kT v.l x.id≠none\/(v.l.length:Int)<v.most) (ht:v.tn<2^62) (hwn:v.wn=v.now):
  nJ (some ⟨A.s,0,none⟩) (some ⟨x.blk,0,none⟩) life w λw'=>iG w w' (jS A v.L)/\∃ss F,(∀b,WN.pz A.d A.m ss b->WN.pz A.d A.m A.ss b\/w.heap.size<=b)/\
   Srv w' {A with ss:=ss} c {v with L:=GX x.blk (v.now+life) v.L,l:=IB v.l x.id ⟨x.id,max (min ((v.now:Int)+life) 1099511627776).toNat v.wn,v.tn+1⟩,tn:=v.tn+1,F:=F}:=by
 apply MJ;have hnow:=h.wh.wi.nw;simp only[sx,h.hd.cell];rw[wrap_i64 (by omega) (by omega)];refine iK (h.rw x hx) rfl (by simp[iR.v]) λw1 r1 f1' z1=> ?_;have f1:iG w w1 (·=x.blk):=f1' _ rfl;have h1:=(h.GX hx (un:=(v.now:Int)+life) f1 r1).ext (Ext.drew w1);have r1':Row w1.drew x.blk ({x with un:=(v.now:Int)+life}:iR).v:=r1.drew;simp only[sx,h1.hd.cell,r1'.cell,iR.v];have I:(if (1099511627776:Int)<(v.now:Int)+life then 1099511627776 else (v.now:Int)+life)=min ((v.now:Int)+life) 1099511627776:=by omega
 rw[I];have ha:WN.Ul v.l v.most x.id (min ((v.now:Int)+life) 1099511627776)=0:=by
  unfold WN.Ul;rw[if_neg (by omega),if_neg];rintro⟨h1,h2⟩;rcases u with h3|h3
  ·exact h3 h1
  ·omega
 refine Ed (WN.ac6 h1.wh _ _ ht) ?_;rintro r w2 ⟨_,f2,ss,F,J,hw⟩;simp only[ha,if_true] at hw;have e1:w1.drew.heap.size=w1.heap.size:=rfl;refine⟨?_,ss,F,λb hb=> ?_,h1.setW f2 hw J⟩
 ·have g1:iG w w1 (jS A v.L):=f1.mono λb hb=>⟨5,x,hx,hb.symm⟩;exact(g1.ext (Ext.drew w1)).trans f2 λb _ hb=>⟨2,hb⟩
 ·rcases J b hb with hb|hb
  ·exact .inl hb
  ·exact .inr (by have:=f1.size;omega)
end Go.Proofs.PS
end
section
namespace Go.Proofs.PS
open Gp Go.Proofs Go.Proofs.EN
open Gp.Bind (Bnd Slots live GoodB freeN getS In64)
open Gp.Wh (Tm)
variable {w w':World} {A:SA} {c:Cf} {v:SV}
theorem Srv.aia (h:Srv w A c v) {LI:List (I4×Nat)} (hf:iG w w' (·=A.ml)) (hm:rH encI Xp w' A.ml LI) (hn:(LI.map (·.1)).Nodup):Srv w' A c {v with LI:=LI}:=by
 have o:∀k b,own A v.L k b->k≠3->¬b=A.ml:=λk b hk hn he=>h.off (j:=3) hk hn he;exact⟨h.hd.fr hf (o 0 _ rfl (by decide)),h.en.fr hf (λk b hb=>o 1 b ⟨k,hb⟩ (by decide)),h.wh.fr hf (λb hb=>o 2 b hb (by decide)),hm,h.ld.fr hf (o 4 _ rfl (by decide)),hn,h.nD,λx hx=>(h.rw x hx).fr hf (o 5 _ ⟨x,hx,rfl⟩ (by decide)),h.ap,
  λk b hb=>Nat.lt_of_lt_of_le (h.lt k b hb) hf.size,h.bn⟩
theorem Srv.ah_ (h:Srv w A c v) {LD:List (Int×Nat)} (hf:iG w w' (·=A.mi)) (hm:rH Dq Xp w' A.mi LD) (hn:(LD.map (·.1)).Nodup):Srv w' A c {v with LD:=LD}:=by
 have o:∀k b,own A v.L k b->k≠4->¬b=A.mi:=λk b hk hn he=>h.off (j:=4) hk hn he;exact⟨h.hd.fr hf (o 0 _ rfl (by decide)),h.en.fr hf (λk b hb=>o 1 b ⟨k,hb⟩ (by decide)),h.wh.fr hf (λb hb=>o 2 b hb (by decide)),h.li.fr hf (o 3 _ rfl (by decide)),hm,h.nI,hn,λx hx=>(h.rw x hx).fr hf (o 5 _ ⟨x,hx,rfl⟩ (by decide)),h.ap,
  λk b hb=>Nat.lt_of_lt_of_le (h.lt k b hb) hf.size,h.bn⟩
theorem Srv.aj9 (h:Srv w A c v) (p:iR->Bool):Srv w A c {v with L:=v.L.filter p}:=by
 have sub:∀k b,own A (v.L.filter p) k b->own A v.L k b:=by
  intro k b ho
  match k,ho with
  |0,ho=>exact ho
  |1,ho=>exact ho
  |2,ho=>exact ho
  |3,ho=>exact ho
  |4,ho=>exact ho
  |5,⟨x,hx,e⟩=>exact⟨x,(List.mem_filter.1 hx).1,e⟩
  |(n+6),ho=>exact ho
 exact⟨h.hd,h.en,h.wh,h.li,h.ld,h.nI,h.nD,λx hx=>h.rw x (List.mem_filter.1 hx).1,λk k' b h1 h2=>h.ap k k' b (sub k b h1) (sub k' b h2),λk b hb=>h.lt k b (sub k b hb),
  h.bn.sublist (List.filter_sublist.map _)⟩
theorem La (h:Srv w A c v) (hi:Inv c v.e) (hs:NoS v.e) {x:iR} (hx:x∈v.L) {i:Nat} (hb:v.e.S[i]? =some (some x.b)) (I:x.b.st=true):
  nH (some ⟨A.s,0,none⟩) (some ⟨x.blk,0,none⟩) w λw'=>iG w w' (jS A v.L)/\∃ss F Mi Mo Q G,(∀b,WN.pz A.d A.m ss b->WN.pz A.d A.m A.ss b\/w.heap.size<=b)/\
   Inv c {v.e with S:=v.e.S.set i none,Mi:=Mi,Mo:=Mo,Q:=Q,G:=G}/\
   Srv w' {A with ss:=ss} c {v with e:={v.e with S:=v.e.S.set i none,Mi:=Mi,Mo:=Mo,Q:=Q,G:=G},L:=v.L.filter λy=> !(y.blk==x.blk),LI:=yx v.LI x.k,LD:=yx v.LD x.id,l:=yx v.l x.id,F:=F}:=by
 apply MI;have h1:=h.ext (Ext.drew w);have r1:=h1.rw x hx;simp only[iR.v] at r1;simp only[sx,h1.hd.cell,r1.cell];refine Jm (agl h1.en hi hs hb I) ?_;rintro r w2 ⟨_,f2,Mi,Mo,Q,G,e2,i2⟩;have h2:=(h1.ab5 f2 e2 rfl (λb hb=> .inl hb)).ext (Ext.drew w2);have g2:iG w w2 (jS A v.L):=((Ext.drew w).fr f2).mono λb hb=>⟨1,hb⟩;have r2:=h2.rw x hx;simp only[iR.v] at r2;simp only[sx,h2.hd.cell,r2.cell];refine Am (WN.aaP h2.wh x.id) ?_;rintro r w3 ⟨_,f3,ss,F,w3h,u⟩;have h3:=(h2.setW (tn:=v.tn) f3 w3h u).ext (Ext.drew w3);have g3:iG w w3 (jS A v.L):=(g2.ext (Ext.drew _)).trans f3 λb _ hb=>⟨2,hb⟩;have r3:=h3.rw x hx;simp only[iR.v] at r3;simp only[sx,h3.hd.cell,r3.cell];refine OW (ev:=Xp) h3.li eqI x.k (afy _) λw4 m4 f4 z4=> ?_;have h4:=(h3.aia f4 m4 (h3.nI.sublist ((K_ _ _).map _))).ext (Ext.drew w4);have g4:iG w w4 (jS A v.L):=(g3.ext (Ext.drew _)).trans f4 λb _ hb=>⟨3,hb⟩;have r4:=h4.rw x hx;simp only[iR.v] at r4;simp only[sx,h4.hd.cell,r4.cell];refine OW (enc:=Dq) (ev:=Xp) h4.ld eqN x.id (Z_ _) λw5 m5 f5 z5=> ?_;have h5:=h4.ah_ f5 m5 (h4.nD.sublist ((K_ _ _).map _));have g5:iG w w5 (jS A v.L):=(g4.ext (Ext.drew _)).trans f5 λb _ hb=>⟨4,hb⟩;refine⟨g5,ss,F,Mi,Mo,Q,G,λb hb=> ?_,i2,h5.aj9 _⟩;rcases u b hb with hb|hb
 ·exact .inl hb
 ·refine .inr ?_;have:=g2.size;have e2:w2.drew.heap.size=w2.heap.size:=rfl;omega
end Go.Proofs.PS
end
section
namespace Go.Proofs.PS
open Gp Go.Proofs Go.Proofs.EN
open Gp.Bind (Bnd Slots live GoodB freeN getS In64)
open Gp.Wh (Tm)
structure Good (c:Cf) (Z:Bnd->Prop) (v:SV) (P:List Int):Prop where
 inv:Inv c v.e
 ns:NoS v.e
 wn:v.wn=v.now
 li:∀k n,kT v.LI k=some n↔∃x∈v.L,x.k=k/\x.blk=n
 ld:∀i n,kT v.LD i=some n↔∃x∈v.L,x.id=i/\x.blk=n
 kk:∀x∈v.L,∀y∈v.L,x.k=y.k->x=y
 ii:∀x∈v.L,∀y∈v.L,x.id=y.id->x=y
 eb:∀x∈v.L,x.b.st=true/\∃i:Nat,v.e.S[i]? =some (some x.b)
 ex:∀(j:Nat) (b:Bnd),v.e.S[j]? =some (some b)->(∃x∈v.L,x.b=b)\/Z b
 ir:∀x∈v.L,0<=x.id/\x.id<8192
 wl:∀id,(kT v.l id).isSome=true↔∃x∈v.L,x.id=id/\id∉P
 wt:∀x∈v.L,∀t,kT v.l x.id=some t->(t.a:Int)=min x.un 1099511627776
variable {w w':World} {A:SA} {c:Cf} {Z:Bnd->Prop} {v:SV}
theorem Good.drop {P P':List Int} (h:Good c Z v P) (hm:Srv w A c v) {x:iR} (hx:x∈v.L) {i:Nat} (hb:v.e.S[i]? =some (some x.b)) (hP:∀id,id≠x.id->(id∈P'↔id∈P))
  {Mi Mo:ByteArray->Option Int} {Q:List Int} {G:List (PN.O3×Unit)} (F:Gp.Wh.Fs) (hi:Inv c {v.e with S:=v.e.S.set i none,Mi:=Mi,Mo:=Mo,Q:=Q,G:=G}):
  Good c Z {v with e:={v.e with S:=v.e.S.set i none,Mi:=Mi,Mo:=Mo,Q:=Q,G:=G},L:=v.L.filter λy=> !(y.blk==x.blk),LI:=yx v.LI x.k,LD:=yx v.LD x.id,l:=yx v.l x.id,F:=F} P':=by
 have mem:∀y,y∈(v.L.filter λy=> !(y.blk==x.blk))↔y∈v.L/\y≠x:=by
  intro y;rw[List.mem_filter];constructor
  ·rintro⟨h1,h2⟩;refine⟨h1,λe=> ?_⟩;subst e;simp at h2
  ·rintro⟨h1,h2⟩;refine⟨h1,?_⟩;have:y.blk≠x.blk:=λe=>h2 (ET hm.bn hx h1 e);simpa using this
 have nl:=hm.wh.wm.nd;refine⟨hi,h.ns,h.wn,λk n=> ?_,λj n=> ?_,λy hy z hz=>h.kk y ((mem y).1 hy).1 z ((mem z).1 hz).1,λy hy z hz=>h.ii y ((mem y).1 hy).1 z ((mem z).1 hz).1,λy hy=> ?_,λj b hj=> ?_,λy hy=>h.ir y ((mem y).1 hy).1,λid=> ?_,λy hy t ht=> ?_⟩
 ·rw[JJ hm.nI];split
  ·rename_i hk;refine⟨(λh=>by cases h),?_⟩;rintro⟨y,hy,u,_⟩;exact absurd (h.kk y ((mem y).1 hy).1 x hx (u.trans hk)) ((mem y).1 hy).2
  ·rename_i hk;rw[h.li];constructor
   ·rintro⟨y,hy,u,I⟩;exact⟨y,(mem y).2 ⟨hy,λe=>hk (by rw[<- u,e])⟩,u,I⟩
   ·rintro⟨y,hy,u,I⟩;exact⟨y,((mem y).1 hy).1,u,I⟩
 ·rw[JJ hm.nD];split
  ·rename_i hk;refine⟨(λh=>by cases h),?_⟩;rintro⟨y,hy,u,_⟩;exact absurd (h.ii y ((mem y).1 hy).1 x hx (u.trans hk)) ((mem y).1 hy).2
  ·rename_i hk;rw[h.ld];constructor
   ·rintro⟨y,hy,u,I⟩;exact⟨y,(mem y).2 ⟨hy,λe=>hk (by rw[<- u,e])⟩,u,I⟩
   ·rintro⟨y,hy,u,I⟩;exact⟨y,((mem y).1 hy).1,u,I⟩
 ·obtain⟨hy1,hy2⟩:=(mem y).1 hy;obtain⟨N,j,hj⟩:=h.eb y hy1;refine⟨N,j,?_⟩;show (v.e.S.set i none)[j]? =_;rw[getElem?_set];split
  ·rename_i J;subst J;rw[hb] at hj;have e:x.b=y.b:=by simpa using hj
   exact absurd (h.kk y hy1 x hx (by unfold iR.k;rw[e])) hy2
  ·exact hj
 ·have hj2:(v.e.S.set i none)[j]? =some (some b):=hj;clear hj;rw[getElem?_set] at hj2;split at hj2
  ·simp at hj2
  ·rename_i J;rcases h.ex j b hj2 with ⟨y,hy,rfl⟩|hz
   ·refine .inl ⟨y,(mem y).2 ⟨hy,λe=>J ?_⟩,rfl⟩;subst e;exact(DU hm.en.db.good hb hj2 rfl).symm
   ·exact .inr hz
 ·show (kT (yx v.l x.id) id).isSome=true↔_;rw[JJ nl];split
  ·rename_i hk;refine⟨(λh=>by cases h),?_⟩;rintro⟨y,hy,u,_⟩;exact absurd (h.ii y ((mem y).1 hy).1 x hx (u.trans hk)) ((mem y).1 hy).2
  ·rename_i hk;rw[h.wl];constructor
   ·rintro⟨y,hy,u,I⟩;exact⟨y,(mem y).2 ⟨hy,λe=>hk (by rw[<- u,e])⟩,u,λhp=>I ((hP id hk).1 hp)⟩
   ·rintro⟨y,hy,u,I⟩;exact⟨y,((mem y).1 hy).1,u,λhp=>I ((hP id hk).2 hp)⟩
 ·have ht:kT (yx v.l x.id) y.id=some t:=ht;rw[JJ nl] at ht;split at ht
  ·cases ht
  ·exact h.wt y ((mem y).1 hy).1 t ht
end Go.Proofs.PS
end
section
namespace Go.Proofs.PS
open Gp Go.Proofs Go.Proofs.EN
open Gp.Bind (Bnd Slots live GoodB freeN getS In64)
open Gp.Wh (Tm)
variable {w w':World} {A:SA} {c:Cf} {Z:Bnd->Prop} {v:SV}
theorem ad6 (e:Int) (w:World):xP e w λr w'=>r=(if e=0 then 0 else if e=10 then 8 else if e=7 then 4 else if e=9 then 11 else 3)/\w'=w:=by
 apply Vo;have b:∀x y:Int,(x==y)=decide (x=y):=λ_ _=>rfl;simp only[b];by_cases h0:e=0
 ·subst h0;exact⟨by trivial,by trivial⟩
 by_cases h1:e=10
 ·subst h1;exact⟨by trivial,by trivial⟩
 by_cases h2:e=7
 ·subst h2;exact⟨by trivial,by trivial⟩
 by_cases h3:e=9
 ·subst h3;exact⟨by trivial,by trivial⟩
 simp only[h0,h1,h2,h3,decide_false,cond_false,if_false];exact⟨by trivial,by trivial⟩
theorem Good.off {D:List Tm} {l':WN.PL} {T:Nat} (g:Good c Z v []) (hp:∀id t,kT v.l id=some t->t.id=id) (hD:∀t,t∈D↔kT v.l t.id=some t/\t.a<=T) (hl:∀id t,kT l' id=some t↔kT v.l id=some t/\T<t.a) (tn:Int) (F:Gp.Wh.Fs):
  Good c Z {v with now:=T,wn:=T,l:=l',tn:=tn,F:=F} (D.map Tm.id):=by
 refine⟨g.inv,g.ns,rfl,g.li,g.ld,g.kk,g.ii,g.eb,g.ex,g.ir,λid=> ?_,λx hx t ht=>g.wt x hx t ((hl x.id t).1 ht).1⟩;show (kT l' id).isSome=true↔∃x∈v.L,x.id=id/\id∉D.map Tm.id;constructor
 ·intro h;obtain⟨t,ht⟩:=Option.isSome_iff_exists.1 h;obtain⟨h1,h2⟩:=(hl id t).1 ht;obtain⟨x,hx,I,_⟩:=(g.wl id).1 (by rw[h1];rfl);refine⟨x,hx,I,λhm=> ?_⟩;obtain⟨u,hu,N⟩:=List.mem_map.1 hm;obtain⟨h3,h4⟩:=(hD u).1 hu;rw[N,h1] at h3
  cases h3
  omega
 ·rintro⟨x,hx,I,hn⟩;have h1:=(g.wl id).2 ⟨x,hx,I,by simp⟩;obtain⟨t,ht⟩:=Option.isSome_iff_exists.1 h1;have J:=hp id t ht;have:T<t.a:=by
   refine Nat.lt_of_not_le λO=>hn ?_;exact List.mem_map.2 ⟨t,(hD t).2 ⟨by rw[J];exact ht,O⟩,J⟩
  rw[(hl id t).2 ⟨ht,this⟩];rfl
theorem Good.find {P:List Int} (g:Good c Z v P) {x:iR} (hx:x∈v.L):kT v.LD x.id=some x.blk:=(g.ld _ _).2 ⟨x,hx,rfl,rfl⟩
theorem UR {n:Nat}:∀{L:List iR},(L.map (·.blk)).Nodup->n∈L.map (·.blk)->(L.filter λy=> !(y.blk==n)).length+1=L.length
 |[],_,h=>by simp at h
 |z::L,h,hm=>by
  rw[map_cons,List.nodup_cons] at h;rw[map_cons,mem_cons] at hm;by_cases e:z.blk=n
  ·have:(L.filter λy=> !(y.blk==n))=L:=by
    rw[List.filter_eq_self];intro y hy;have:y.blk≠n:=λhe=>h.1 (by rw[e,<- he];exact List.mem_map.2 ⟨y,hy,rfl⟩);simpa using this
   rw[filter_cons,if_neg (by simp[e]),this];rfl
  ·rw[filter_cons,if_pos (by simpa using e),length_cons,length_cons,UR h.2 (hm.resolve_left λhe=>e he.symm)]
theorem Xy {D:List Tm} {l:WN.PL} {T:Nat} (hs:D.Pairwise WN.ltT) (hD:∀t,t∈D↔kT l t.id=some t/\t.a<=T):(D.map Tm.id).Nodup:=by
 refine List.pairwise_map.2 (hs.imp_of_mem λ{x y} hx hy h he=> ?_);have h1:=((hD x).1 hx).1;have h2:=((hD y).1 hy).1;rw[he,h2] at h1
 cases h1
 unfold WN.ltT at h;omega
theorem aa_ (h:Srv w A c v) (g:Good c Z v []) (ag:∀x∈v.L,x.un<=1099511627776) (a:Int) {T:Nat} (hT:T=max v.now (min a 1099511627776).toNat):
  jO (some ⟨A.s,0,none⟩) a w λn w'=>iG w w' (jS A v.L)/\∃A' v',Srv w' A' c v'/\Good c Z v' []/\A'.s=A.s/\A'.a=A.a/\(∀b,jS A' v'.L b->jS A v.L b\/w.heap.size<=b)/\
   v'.now=T/\(∀x,x∈v'.L↔x∈v.L/\(T:Int)<x.un)/\v'.tn=v.tn/\v'.most=v.most/\v'.nx=v.nx/\n=((v.L.length:Int) - v'.L.length):=by
 apply Ac;have hnw:=h.wh.wi.nw;have hwn:=g.wn;refine nV (Ad h) ?_;rintro r w1 ⟨rfl,hw⟩;subst hw;simp only[Bool.not_true,cond_false,sx,h.hd.cell];have e1:(if (if (1099511627776:Int)<a then 1099511627776 else a)>(v.now:Int) then (if (1099511627776:Int)<a then 1099511627776 else a) else (v.now:Int))=(T:Int):=by omega
 rw[e1];refine iK h.hd rfl (by simp) λw2 r2 f2' z2=> ?_;have f2:iG w1 w2 (·=A.s):=f2' _ rfl;have h2:=(h.ad_ f2 r2).ext (Ext.drew w2);simp only[sx,h2.hd.cell];have hT2:T=max v.wn (min (T:Int) 1099511627776).toNat:=by omega
 refine oU (WN.Fp h2.wh (T:Int) hT2) ?_;rintro s w3 ⟨f3,D,ao,hD,ab,ac,ss,l',F,hw3,hl',hlen,ah,aq⟩;have h3:=h2.setW f3 hw3 ah;have g3:=g.off (λid t ht=>(h.wh.wi.pl id t ht).1) hD hl' v.tn F;have hD:∀t,t∈D↔kT v.l t.id=some t/\t.a<=T:=hD;have hlen:l'.length+D.length=v.l.length:=hlen;have ar:=Xy ao hD;have hlen2:(D.length:Int)<=1048576:=by have:=h.wh.mo;omega
 have ed:w2.drew.heap.size=w2.heap.size:=rfl;have g0:iG w1 w3 (jS A v.L):=((f2.mono λb hb=>⟨0,hb⟩).ext (Ext.drew w2)).trans f3 λb _ hb=>⟨2,hb⟩;refine iE (λst W=>∃(k:Nat) (A2:SA) (v2:SV),k<=D.length/\st.2.1=(k:Int)/\st.1=(k:Int)/\Srv W A2 c v2/\Good c Z v2 ((D.drop k).map Tm.id)/\A2.s=A.s/\A2.a=A.a/\v2.now=T/\v2.tn=v.tn/\v2.most=v.most/\v2.nx=v.nx/\
   (∀x,x∈v2.L↔x∈v.L/\x.id∉(D.take k).map Tm.id)/\v2.L.length+k=v.L.length/\iW 1 WN.eI W s (D.map Tm.id)/\iG w1 W (jS A v.L)/\(∀b,jS A2 v2.L b->(jS A v.L b\/w1.heap.size<=b)/\¬iq.at s b))
  (λst _=>D.length - st.2.1.toNat) ⟨0,{A with ss:=ss},_,by omega,rfl,rfl,h3,g3,rfl,rfl,rfl,rfl,rfl,rfl,by simp,rfl,ab,g0,?_⟩ ?_
 ·rintro b ⟨k,hk⟩;by_cases hk2:k=2
  ·subst hk2;refine⟨?_,λhs=>aq b hs hk⟩;rcases ah b hk with hb|hb
   ·exact .inl ⟨2,hb⟩
   ·exact .inr (by omega)
  ·have ai:own A v.L k b:=by
    match k,hk with
    |0,ho=>exact ho
    |1,ho=>exact ho
    |2,_=>exact absurd rfl hk2
    |3,ho=>exact ho
    |4,ho=>exact ho
    |5,ho=>exact ho
    |(n+6),ho=>exact ho
   exact⟨.inl ⟨k,ai⟩,λhs=>by have:=ac b hs;have:=h.lt k b ai;omega⟩
 rintro⟨gn,ix,⟨⟩⟩ W ⟨k,A2,v2,hk,aj,ak,hS,hG,hs2,ha2,hn2,ht2,hm2,hx2,hL2,hc2,hb2,hf2,ho2⟩ next J
 simp only at aj ak;subst aj ak;have hslen:s.len=D.length:=by rw[hb2.sl WN.kN (by omega)|>.len,List.length_map]
 by_cases N:k<D.length
 ·have I:((k:Int)<(s.len:Int)):=by omega
  simp only[I,decide_true,cond_true];have al:(D.drop k).map Tm.id=D[k].id::(D.drop (k+1)).map Tm.id:=by rw[List.drop_eq_getElem_cons N,map_cons]
  obtain⟨am,hla⟩:=(hD D[k]).1 (List.getElem_mem N);obtain⟨x,hx,O,_⟩:=(g.wl D[k].id).1 (by rw[am];rfl);have au:x.id∉(D.take k).map Tm.id:=by
   rw[O];intro hm;have:=ar;rw[<- List.take_append_drop k D,map_append,al,List.nodup_append] at this;exact this.2.2 _ hm _ mem_cons_self rfl
  have hx2':x∈v2.L:=(hL2 x).2 ⟨hx,au⟩;refine SN.ER (hb2.sl WN.kN (by omega)) (z:=x.id) (by rw[List.getElem?_map,List.getElem?_eq_getElem N,Option.map_some,O]) λad R=> ?_;simp only[Uc,R,iy,iF,<- hs2,sx,hS.hd.cell];have an:=hG.find hx2';refine DX (k:= .ptr) (enc:=Dq) (ev:=Xp) hS.ld eqN x.id (Z_ _) (λhc=>by rw[an] at hc;cases hc) (λb hb=> ?_);rw[an] at hb
  cases hb
  have aa:=hS.ext (Ext.drew W);have rx:=aa.rw x hx2';simp only[iR.v] at rx;simp only[Xp,sx,rx.cell,aa.hd.cell];have ae:¬(x.un>((v2.now:Nat):Int)):=by
   have h5:=g.wt x hx D[k] (by rw[O];exact am);have:=ag x hx;rw[hn2];omega
  simp only[ae,decide_false,cond_false];obtain⟨av,i,hi⟩:=hG.eb x hx2';refine xB (La aa hG.inv hG.ns hx2' hi av) ?_;rintro W2 ⟨fd,ss',F',Mi,Mo,Q,G,af,U,hS'⟩;have hG':=hG.drop aa hx2' hi (P':=(D.drop (k+1)).map Tm.id) (λid Y=>by rw[al,mem_cons];exact⟨.inr,λh=>h.resolve_left (by rw[<- O];exact Y)⟩) F' U;rw[wrap_i64 (by omega) (by omega)];have aw:(D.take (k+1)).map Tm.id=(D.take k).map Tm.id++[x.id]:=by
   rw[List.take_succ_eq_append_getElem N,map_append,O];rfl
  have hWs:w1.heap.size<=W.heap.size:=hf2.size;have hWd:W.drew.heap.size=W.heap.size:=rfl;refine J _ _ ⟨k+1,{A2 with ss:=ss'},_,by omega,by simp,by simp,hS',hG',hs2,ha2,hn2,ht2,hm2,hx2,λy=> ?_,?_,?_,?_,?_⟩ (by simp only;omega)
  ·show y∈(v2.L.filter λy=> !(y.blk==x.blk))↔_;rw[aw,List.mem_append,mem_singleton,List.mem_filter,hL2];constructor
   ·rintro⟨⟨h1,h2⟩,h3⟩;refine⟨h1,λhc=>hc.elim h2 λhe=> ?_⟩;have:=g.ii y h1 x hx he;subst this;simp at h3
   ·rintro⟨h1,h2⟩;refine⟨⟨h1,λhc=>h2 (.inl hc)⟩,?_⟩;have:y.blk≠x.blk:=λhe=>h2 (.inr (by rw[ET hS.bn hx2' ((hL2 y).2 ⟨h1,λhc=>h2 (.inl hc)⟩) he]));simpa using this
  ·have:=UR hS.bn (List.mem_map.2 ⟨x,hx2',rfl⟩);show (v2.L.filter λy=> !(y.blk==x.blk)).length+(k+1)=_;omega
  ·exact(hb2.ext (Ext.drew W)).fr fd λb hb ho=>(ho2 b ho).2 hb
  ·refine(hf2.ext (Ext.drew W)).trans fd λb hb ho=> ?_;rcases(ho2 b ho).1 with h1|h1
   ·exact h1
   ·omega
  ·rintro b ⟨j,hj⟩;by_cases hj2:j=2
   ·subst hj2;rcases af b hj with hb|hb
    ·exact ho2 b ⟨2,hb⟩
    ·exact⟨.inr (by omega),λhs=>by have:=hb2.lt hs;omega⟩
   ·refine ho2 b ⟨j,?_⟩
    match j,hj with
    |0,ho=>exact ho
    |1,ho=>exact ho
    |2,_=>exact absurd rfl hj2
    |3,ho=>exact ho
    |4,ho=>exact ho
    |5,⟨y,hy,e⟩=>exact⟨y,(List.mem_filter.1 hy).1,e⟩
    |(n+6),ho=>exact ho
 ·have hk3:k=D.length:=by omega
  subst hk3;have I:¬(((D.length:Nat):Int)<(s.len:Int)):=by omega
  simp only[I,decide_false,cond_false];rw[List.drop_length,List.map_nil] at hG;refine⟨hf2,A2,v2,hS,hG,hs2,ha2,λb hb=>(ho2 b hb).1,hn2,λx=> ?_,ht2,hm2,hx2,by omega⟩;rw[hL2,List.take_length];have key:x∈v.L->∃t,kT v.l x.id=some t/\t.id=x.id/\(t.a:Int)=x.un:=by
   intro hx;have h1:=(g.wl x.id).2 ⟨x,hx,rfl,by simp⟩;obtain⟨t,ht⟩:=Option.isSome_iff_exists.1 h1;have h2:=g.wt x hx t ht;have h3:=ag x hx;exact⟨t,ht,(h.wh.wi.pl _ _ ht).1,by omega⟩
  constructor
  ·rintro⟨hx,hn⟩;obtain⟨t,ht,Y,ax⟩:=key hx;refine⟨hx,?_⟩;have:¬t.a<=T:=λae=>hn (List.mem_map.2 ⟨t,(hD t).2 ⟨by rw[Y];exact ht,ae⟩,Y⟩);omega
  ·rintro⟨hx,N⟩;obtain⟨t,ht,Y,ax⟩:=key hx;refine⟨hx,λhm=> ?_⟩;obtain⟨u,hu,ay⟩:=List.mem_map.1 hm;obtain⟨h3,h4⟩:=(hD u).1 hu;rw[ay,ht] at h3
   cases h3
   omega
end Go.Proofs.PS
end
section
namespace Go.Proofs.PS
open Gp Go.Proofs Go.Proofs.EN
open Gp.Bind (Bnd Slots live GoodB freeN getS In64)
open Gp.Wh (Tm)
variable {w w':World} {a:EA} {c:Cf} {e:ES} {Z:Bnd->Prop}
theorem agZ (h:wQ w a c e):qO (some ⟨a.x,0,none⟩) w λn w'=>n=(e.now:Int)/\w'=w:=by
 apply Ou;refine lV (DN h) ?_;rintro r w1 ⟨rfl,hw⟩;subst hw;simp only[Bool.not_true,cond_false,sx,h.c41];exact⟨by trivial,by trivial⟩
theorem Q5 (h:wQ w a c e) (hi:Inv c e) (hs:NoS e) (hn:e.now<=2^40) {n:Int} (h1:1<=n) (h2:n<=4096) (hz:∀(j:Nat) (b:Bnd),e.S[j]? =some (some b)->Z b):
  vO (some ⟨a.x,0,none⟩) n w λp r w'=>r=0/\Ext w w'/\∃A v,p=some ⟨A.s,0,none⟩/\A.a=a/\Srv w' A c v/\Good c Z v []/\v.L=[]/\v.now=e.now/\v.nx=0/\v.most=n/\v.e=e/\v.tn=0/\∀b,jS A v.L b->GU a b\/w.heap.size<=b:=by
 apply Sv;intro J3;have c1:¬(n<1):=by omega
 have c2:¬(n>4096):=by omega
 simp -zeta only[Option.isNone_some,cond_false,c1,c2,decide_false];simp only[J3,cond_false];refine Po (WN.ac7 n ⟨by omega,by omega⟩ w) ?_;rintro p r w1 ⟨f1,rfl,d,m,ss,rfl,hw1,u⟩;have f1:Ext w w1:=f1;have hE1:=h.ext f1;simp only[show ((0:Int) !=0)=false from rfl,cond_false];refine NK (agZ hE1) ?_;rintro n2 w2 ⟨rfl,hw⟩;subst hw;refine iI λs w3 r3 e3 z3 f3=> ?_;refine SN.G7 (enc:=encI) (ev:=Xp) λw4 m4 z4 f4=> ?_;refine SN.G7 (enc:=Dq) (ev:=Xp) λw5 m5 z5 f5=> ?_;simp only[sx];refine iK ((r3.ext f4).ext f5) rfl (by simp) λw6 r6 f6' z6=> ?_;have f6:iG w5 w6 (·=s):=f6' _ rfl;refine iK r6 rfl (by simp) λw7 r7 f7' z7=> ?_;have f7:iG w6 w7 (·=s):=f7' _ rfl;have f67:iG w5 w7 (·=s):=f6.trans f7 λb _ hb=>hb;simp only[sx,r7.cell,List.set];have x5:=(f3.trans f4).trans f5;have hd2:d<w2.heap.size:=hw1.wm.lt (.inl rfl);have hw7:=(hw1.ext x5).fr f67 λb hb he=>by have:=hw1.wm.lt hb;omega
 refine oU (WN.Fp hw7 (e.now:Int) (T:=e.now) (by omega)) ?_;rintro rr w8 ⟨f8,D,hDs,hD,hbuf,hnew,ss',l',F',hw8,hl',hlen,I,hap⟩;have hlen:l'.length+D.length=0:=hlen;obtain rfl:l'=[]:=List.length_eq_zero_iff.1 (by omega);have s1:=f1.size;have g5:Ext w w5:=f1.trans x5;have g7:Ext w w7:=g5.new f67 λb hb he=>by omega
 have g8:Ext w w8:=g7.new f8 λb hb hf=>by have:=u b hf;omega
 have nf:∀b,w2.heap.size<=b->¬WN.pz d m ss b:=λb hb hf=>by have:=hw1.wm.lt hf;omega
 have s8:=f8.size;have key:∀k b,own {s:=s,a:=a,d:=d,m:=m,ss:=ss',ml:=w3.heap.size,mi:=w4.heap.size} [] k b->(k=0/\b=s)\/(k=1/\b<w.heap.size/\GU a b)\/(k=2/\((w.heap.size<=b/\b<w2.heap.size)\/w7.heap.size<=b)/\b<w8.heap.size)\/(k=3/\b=w3.heap.size)\/(k=4/\b=w4.heap.size):=by
  intro k b ho
  match k,ho with
  |0,ho=>exact .inl ⟨rfl,ho⟩
  |1,⟨j,hj⟩=>exact .inr (.inl ⟨rfl,h.lt j b hj,j,hj⟩)
  |2,ho=>
   refine .inr (.inr (.inl ⟨rfl,?_,hw8.wm.lt ho⟩));rcases I b ho with hb|hb
   ·exact .inl ⟨u b hb,hw1.wm.lt hb⟩
   ·exact .inr hb
  |3,ho=>exact .inr (.inr (.inr (.inl ⟨rfl,ho⟩)))
  |4,ho=>exact .inr (.inr (.inr (.inr ⟨rfl,ho⟩)))
  |5,⟨x,hx,_⟩=>cases hx
  |(n+6),ho=>exact ho.elim
 refine⟨by trivial,g8,{s:=s,a:=a,d:=d,m:=m,ss:=ss',ml:=w3.heap.size,mi:=w4.heap.size},{e:=e,now:=e.now,wn:=e.now,nx:=0,most:=n,L:=[],LI:=[],LD:=[],l:=[],tn:=0,F:=F'},rfl,rfl,⟨?_,h.ext g8,hw8,?_,?_,nodup_nil,nodup_nil,(λx hx=>by cases hx),?_,?_,nodup_nil⟩,?_,rfl,rfl,rfl,rfl,rfl,rfl,?_⟩
 ·exact r7.fr f8 (nf _ (by omega))
 ·exact((m4.ext f5).fr f67 (by omega)).fr f8 (nf _ (by omega))
 ·exact(m5.fr f67 (by omega)).fr f8 (nf _ (by omega))
 ·intro k k' b q1 q2;have k1:=key k b q1;have k2:=key k' b q2;omega
 ·intro k b q1;have k1:=key k b q1;omega
 ·exact⟨hi,hs,rfl,(λk n=>by simp[kT]),(λi n=>by simp[kT]),(λx hx=>by cases hx),(λx hx=>by cases hx),(λx hx=>by cases hx),(λj b hj=> .inr (hz j b hj)),(λx hx=>by cases hx),(λid=>by simp[kT]),(λx hx=>by cases hx)⟩
 ·rintro b ⟨k,q⟩;have k1:=key k b q;rcases k1 with ⟨_,k1⟩|⟨_,_,k1⟩|⟨_,k1,_⟩|⟨_,k1⟩|⟨_,k1⟩
  ·exact .inr (by omega)
  ·exact .inl k1
  ·exact .inr (by omega)
  ·exact .inr (by omega)
  ·exact .inr (by omega)
end Go.Proofs.PS
end
section
namespace Go.Proofs.PS
open Gp Go.Proofs Go.Proofs.EN
open Gp.Bind (Bnd Slots live GoodB freeN getS In64)
open Gp.Wh (Tm)
variable {c:Cf} {Z:Bnd->Prop} {v:SV}
theorem Good.add (g:Good c Z v []) {x:iR} (hk:∀y∈v.L,y.k≠x.k) (I:∀y∈v.L,y.id≠x.id) (J:x.b.st=true) (N:0<=x.id/\x.id<8192) {i:Nat} (hf:freeN v.e.S=some i)
  {Mi Mo:ByteArray->Option Int} {Q:List Int} {G:List (PN.O3×Unit)} (hi:Inv c {v.e with S:=v.e.S.set i (some x.b),Mi:=Mi,Mo:=Mo,Q:=Q,G:=G}):
  Good c Z {v with e:={v.e with S:=v.e.S.set i (some x.b),Mi:=Mi,Mo:=Mo,Q:=Q,G:=G},L:=x::v.L,LI:=IB v.LI x.k x.blk,LD:=IB v.LD x.id x.blk} [x.id]:=by
 obtain⟨O,R,_⟩:=Gp.Bind.yQ 0 hf;have u:∀j,(v.e.S.set i (some x.b))[j]? =if j=i then some (some x.b) else v.e.S[j]? :=by
  intro j;rw[getElem?_set];by_cases h:i=j
  ·subst h;simp[O]
  ·have:¬j=i:=λe=>h e.symm;simp[h,this]
 refine⟨hi,g.ns,g.wn,λk n=> ?_,λj n=> ?_,?_,?_,?_,λj b hj=> ?_,?_,λid=> ?_,λy hy t ht=> ?_⟩
 ·show kT (IB v.LI x.k x.blk) k=some n↔∃y∈x::v.L,y.k=k/\y.blk=n;rw[Np];split
  ·rename_i h;subst h;constructor
   ·intro h;cases h;exact⟨x,mem_cons_self,rfl,rfl⟩
   ·rintro⟨y,hy,h1,h2⟩;rcases List.mem_cons.1 hy with rfl|hy
    ·rw[h2]
    ·exact absurd h1 (hk y hy)
  ·rename_i h;rw[g.li];constructor
   ·rintro⟨y,hy,h1⟩;exact⟨y,mem_cons_of_mem _ hy,h1⟩
   ·rintro⟨y,hy,h1,h2⟩;rcases List.mem_cons.1 hy with rfl|hy
    ·exact absurd h1.symm h
    ·exact⟨y,hy,h1,h2⟩
 ·show kT (IB v.LD x.id x.blk) j=some n↔∃y∈x::v.L,y.id=j/\y.blk=n;rw[Np];split
  ·rename_i h;subst h;constructor
   ·intro h;cases h;exact⟨x,mem_cons_self,rfl,rfl⟩
   ·rintro⟨y,hy,h1,h2⟩;rcases List.mem_cons.1 hy with rfl|hy
    ·rw[h2]
    ·exact absurd h1 (I y hy)
  ·rename_i h;rw[g.ld];constructor
   ·rintro⟨y,hy,h1⟩;exact⟨y,mem_cons_of_mem _ hy,h1⟩
   ·rintro⟨y,hy,h1,h2⟩;rcases List.mem_cons.1 hy with rfl|hy
    ·exact absurd h1.symm h
    ·exact⟨y,hy,h1,h2⟩
 ·intro y hy z hz e;rcases List.mem_cons.1 hy with h1|h1<;>rcases List.mem_cons.1 hz with h2|h2
  ·rw[h1,h2]
  ·exact absurd (by rw[<- e,h1]) (hk z h2)
  ·exact absurd (by rw[e,h2]) (hk y h1)
  ·exact g.kk y h1 z h2 e
 ·intro y hy z hz e;rcases List.mem_cons.1 hy with h1|h1<;>rcases List.mem_cons.1 hz with h2|h2
  ·rw[h1,h2]
  ·exact absurd (by rw[<- e,h1]) (I z h2)
  ·exact absurd (by rw[e,h2]) (I y h1)
  ·exact g.ii y h1 z h2 e
 ·intro y hy;rcases List.mem_cons.1 hy with rfl|hy
  ·exact⟨J,i,(u i).trans (if_pos rfl)⟩
  ·obtain⟨h1,j,hj⟩:=g.eb y hy;refine⟨h1,j,(u j).trans ?_⟩;rw[if_neg (λe=>by rw[e,R] at hj;cases hj)];exact hj
 ·have hj2:=(u j).symm.trans hj;clear hj;split at hj2
  ·have:x.b=b:=by simpa using hj2
   exact .inl ⟨x,mem_cons_self,this⟩
  ·rcases g.ex j b hj2 with ⟨y,hy,h⟩|h
   ·exact .inl ⟨y,mem_cons_of_mem _ hy,h⟩
   ·exact .inr h
 ·intro y hy;rcases List.mem_cons.1 hy with rfl|hy
  ·exact N
  ·exact g.ir y hy
 ·show (kT v.l id).isSome=true↔∃y∈x::v.L,y.id=id/\id∉[x.id];rw[g.wl];constructor
  ·rintro⟨y,hy,h1,_⟩;exact⟨y,mem_cons_of_mem _ hy,h1,by rw[mem_singleton,<- h1];exact I y hy⟩
  ·rintro⟨y,hy,h1,h2⟩;rcases List.mem_cons.1 hy with rfl|hy
   ·exact absurd (List.mem_singleton.2 h1.symm) h2
   ·exact⟨y,hy,h1,by simp⟩
 ·have ht:kT v.l y.id=some t:=ht;rcases List.mem_cons.1 hy with rfl|hy
  ·obtain⟨z,hz,h1,_⟩:=(g.wl y.id).1 (by rw[ht];rfl);exact absurd h1 (I z hz)
  ·exact g.wt y hy t ht
end Go.Proofs.PS
end
section
namespace Go.Proofs.PS
open Gp Go.Proofs Go.Proofs.EN
open Gp.Bind (Bnd Slots live GoodB freeN getS In64)
open Gp.Wh (Tm)
variable {w:World} {A:SA} {c:Cf} {Z:Bnd->Prop} {v:SV}
theorem yA {n:Nat} {un:Int} {L:List iR} {y:iR}:y∈GX n un L↔∃z∈L,y=if z.blk=n then {z with un:=un} else z:=by
 unfold GX;rw[mem_map];exact⟨λ⟨z,h1,h2⟩=>⟨z,h1,h2.symm⟩,λ⟨z,h1,h2⟩=>⟨z,h1,h2.symm⟩⟩
theorem TT {n:Nat} {un:Int} {L:List iR} {p:iR->Prop} (hp:∀z:iR,p {z with un:=un}↔p z):(∃y∈GX n un L,p y)↔∃y∈L,p y:=by
 constructor
 ·rintro⟨y,hy,h⟩;obtain⟨z,hz,rfl⟩:=yA.1 hy;refine⟨z,hz,?_⟩;split at h
  ·exact(hp z).1 h
  ·exact h
 ·rintro⟨z,hz,h⟩;refine⟨_,yA.2 ⟨z,hz,rfl⟩,?_⟩;split
  ·exact(hp z).2 h
  ·exact h
theorem Good.arm {P:List Int} {x:iR} (g:Good c Z v P) (hm:Srv w A c v) (hx:x∈v.L) (hP:∀id,id∈P->id=x.id) {un:Int} (hun:(v.now:Int)<=un) (hn:v.now<=2^40) (tn:Int) (F:Gp.Wh.Fs):
  Good c Z {v with L:=GX x.blk un v.L,l:=IB v.l x.id ⟨x.id,max (min un 1099511627776).toNat v.wn,tn⟩,tn:=tn,F:=F} []:=by
 have hwn:=g.wn;refine⟨g.inv,g.ns,g.wn,λk n=> ?_,λj n=> ?_,?_,?_,?_,λj b hj=> ?_,?_,λid=> ?_,λy hy t ht=> ?_⟩
 ·exact(g.li k n).trans (TT (p:=λy=>y.k=k/\y.blk=n) λz=>Iff.rfl).symm
 ·exact(g.ld j n).trans (TT (p:=λy=>y.id=j/\y.blk=n) λz=>Iff.rfl).symm
 ·intro y hy z hz e;obtain⟨y0,hy0,rfl⟩:=yA.1 hy;obtain⟨z0,hz0,rfl⟩:=yA.1 hz;have e0:y0.k=z0.k:=by
   have h1:∀u:iR,(if u.blk=x.blk then {u with un:=un} else u:iR).k=u.k:=λu=>by split<;>rfl
   rw[<- h1 y0,<- h1 z0];exact e
  rw[g.kk y0 hy0 z0 hz0 e0]
 ·intro y hy z hz e;obtain⟨y0,hy0,rfl⟩:=yA.1 hy;obtain⟨z0,hz0,rfl⟩:=yA.1 hz;have e0:y0.id=z0.id:=by
   have h1:∀u:iR,(if u.blk=x.blk then {u with un:=un} else u:iR).id=u.id:=λu=>by split<;>rfl
   rw[<- h1 y0,<- h1 z0];exact e
  rw[g.ii y0 hy0 z0 hz0 e0]
 ·intro y hy;obtain⟨y0,hy0,rfl⟩:=yA.1 hy;have h1:(if y0.blk=x.blk then {y0 with un:=un} else y0:iR).b=y0.b:=by split<;>rfl
  rw[h1];exact g.eb y0 hy0
 ·rcases g.ex j b hj with h|h
  ·exact .inl ((TT (p:=λy=>y.b=b) λz=>Iff.rfl).2 h)
  ·exact .inr h
 ·intro y hy;obtain⟨y0,hy0,rfl⟩:=yA.1 hy;have h1:(if y0.blk=x.blk then {y0 with un:=un} else y0:iR).id=y0.id:=by split<;>rfl
  rw[h1];exact g.ir y0 hy0
 ·show (kT (IB v.l x.id _) id).isSome=true↔∃y∈GX x.blk un v.L,y.id=id/\id∉[];rw[TT (p:=λy=>y.id=id/\id∉[]) λz=>Iff.rfl,Np];split
  ·rename_i h;exact⟨λ_=>⟨x,hx,h.symm,by simp⟩,λ_=>rfl⟩
  ·rename_i h;rw[g.wl];exact⟨λ⟨y,hy,h1,_⟩=>⟨y,hy,h1,by simp⟩,λ⟨y,hy,h1,_⟩=>⟨y,hy,h1,λhp=>h (hP id hp)⟩⟩
 ·obtain⟨y0,hy0,rfl⟩:=yA.1 hy;have ht2:kT (IB v.l x.id ⟨x.id,max (min un 1099511627776).toNat v.wn,tn⟩) (if y0.blk=x.blk then {y0 with un:=un} else y0:iR).id=some t:=ht
  clear ht;rw[Np] at ht2;by_cases hb:y0.blk=x.blk
  ·obtain rfl:=ET hm.bn hx hy0 hb;simp only[if_true] at ht2 ⊢
   cases ht2
   simp only;omega
  ·simp only[hb,if_false] at ht2 ⊢;have I:y0.id≠x.id:=λe=>hb (by rw[g.ii y0 hy0 x hx e]);rw[if_neg I] at ht2;exact g.wt y0 hy0 t ht2
end Go.Proofs.PS
end
section
namespace Go.Proofs.PM
open Gp Gp.V4 Go.Proofs
open Gp.Bind (In64)
def mapped (a:Int):List UInt8:=List.replicate 10 0++([255,255]++beN 4 (a % 4294967296).toNat)
theorem yR (a:Int):(mapped a).length=16:=by simp[mapped,lZ]
theorem XI {w:World} {K:Int->Int->Int->Int->Int->Int->Int->Int->Int->Int->Int->Int->Int->Int->Int->Int->b_} (h:∀w',Ext w w'->K 0 0 0 0 0 0 0 0 0 0 255 255 0 0 0 0 w'):Dk w K:=by
 apply WO;refine iI λa w1 r1 e1 z1 f1=> ?_;refine iJ r1 rfl rfl λw2 r2 f2 z2=> ?_;simp only[sx,r2.cell];exact h _ (f1.new (f2 (·=a) rfl) λy hy e=>by omega)
theorem BD {w:World} {b o:Nat} {L A C:List Value} {m:List UInt8} {K:Int->Int->Int->Int->Int->Int->Int->Int->Int->Int->Int->Int->Int->Int->Int->Int->Prop} (hr:Row w b L) (hL:L=A++(bytesV m++C)) (ho:A.length=o) (hm:m.length=16) (h:∀x0 x1 x2 x3 x4 x5 x6 x7 x8 x9 u I J N O R,[x0,x1,x2,x3,x4,x5,x6,x7,x8,x9,u,I,J,N,O,R]=bi m->K x0 x1 x2 x3 x4 x5 x6 x7 x8 x9 u I J N O R):oV w ⟨b,o,none⟩ K:=by
 obtain⟨x0,x1,x2,x3,x4,x5,x6,x7,x8,x9,u,I,J,N,O,R,hb,hv⟩:=ag1 hm;have hc:∀j,j<16->w.cell? ⟨b,o+j,none⟩=(bytesV m)[j]? :=λj hj=>by
  rw[hr.cell,hL,List.getElem?_append_right (by omega),List.getElem?_append_left (by rw[jg];omega)];congr 1;omega
 have c0:=hc 0 (by omega);have c1:=hc 1 (by omega);have c2:=hc 2 (by omega);have c3:=hc 3 (by omega);have c4:=hc 4 (by omega);have c5:=hc 5 (by omega);have c6:=hc 6 (by omega);have c7:=hc 7 (by omega);have c8:=hc 8 (by omega);have c9:=hc 9 (by omega);have U:=hc 10 (by omega);have Y:=hc 11 (by omega);have aa:=hc 12 (by omega);have ab:=hc 13 (by omega);have ac:=hc 14 (by omega);have ae:=hc 15 (by omega);rw[hv] at c0 c1 c2 c3 c4 c5 c6 c7 c8 c9 U Y aa ab ac ae;simp only[Nat.add_zero] at c0;simp only[sx,c0,c1,c2,c3,c4,c5,c6,c7,c8,c9,U,Y,aa,ab,ac,ae];exact h _ _ _ _ _ _ _ _ _ _ _ _ _ _ _ _ hb.symm
theorem mask32 {a:Int} (h:In64 a):DY .i64 a 4294967295=(((a % 4294967296).toNat:Nat):Int)/\(a % 4294967296).toNat<4294967296:=by
 obtain⟨_,h2⟩:=Go.Proofs.ah1 h;unfold In64 at h;refine⟨?_,by omega⟩;rw[h2];omega
theorem QV {w:World} {a:Int} (ha:In64 a) {K:Int->Int->Int->Int->Int->Int->Int->Int->Int->Int->Int->Int->Int->Int->Int->Int->b_} (h:∀x0 x1 x2 x3 x4 x5 x6 x7 x8 x9 u I J N O R w',[x0,x1,x2,x3,x4,x5,x6,x7,x8,x9,u,I,J,N,O,R]=bi (mapped a)->Ext w w'->K x0 x1 x2 x3 x4 x5 x6 x7 x8 x9 u I J N O R w'):zA a w K:=by
 apply WL;refine iI λa3 w1 r1 e1 z1 f1=> ?_;refine XI λw2 f2=> ?_;refine iI λb w3 r3 e3 z3 f3=> ?_;refine iJ r3 rfl rfl λw4 r4 f4 z4=> ?_;have x4:Ext w1 w4:=(f2.trans f3).new (f4 (·=b) rfl) λy hy e=>by have:=f2.size;omega
 refine⟨by omega,by omega,by omega,?_⟩;obtain⟨hm,hlt⟩:=mask32 ha;rw[hm];have hd:Ext w1 w4.drew:=x4.trans (Ext.drew w4);refine KW (Rw qy.nil (by simp) _ _) ?_;rintro r w5 ⟨b5,f5,n5⟩;have hp:wo [] (((a % 4294967296).toNat:Nat):Int) 4=beN 4 (a % 4294967296).toNat:=by
  unfold wo;rw[if_pos ⟨by unfold sizeOk;omega,by omega,by show _<(256:Int)^4;omega⟩];rfl
 rw[hp] at b5;have hs5:=qy.zZ b5;have hl5:=hs5.1;rw[lZ] at hl5;have r5:=(r4.drew).ext f5;have U:(if 16=(12:Int).toNat then (⟨b,0,none⟩:Addr) else (⟨b,0,none⟩:Addr).add ((12:Int).toNat * 1))=⟨b,12,none⟩:=by
  rw[if_neg (by decide)];exact kK _ _ _
 rw[U];refine G8 (n:=1) (m:=4) (vs:=bytesV (beN 4 (a % 4294967296).toNat)) (by rw[hl5];rfl) (by have:=hs5.2.1;rw[hl5] at this;simpa using this) r5 (by rw[jg,lZ];simp) (Aw _) λw6 r6 f6=> ?_;have x6:Ext w1 w6:=(hd.trans f5).new f6 λy hy e=>by have:=f2.size;omega
 refine BD (A:=[]) (C:=[]) (m:=mapped a) r6 ?_ rfl (yR a) λu0 u1 u2 u3 u4 u5 u6 u7 u8 u9 u10 u11 u12 u13 u14 u15 hx=> ?_
 ·have:=jg (beN 4 (a % 4294967296).toNat);unfold spl mapped;rw[DZ,DZ,this,lZ];simp[bytesV]
 refine iJ (r1.ext x6) rfl rfl λw7 r7 f7 z7=> ?_;simp only[sx,r7.cell];exact h _ _ _ _ _ _ _ _ _ _ _ _ _ _ _ _ _ hx ((f1.trans x6).new (f7 (·=a3) rfl) λy hy e=>by omega)
end Go.Proofs.PM
end
section
namespace Go.Proofs.PM
open Gp Gp.V4 Go.Proofs Go.Proofs.CN
open Gp.Bind (In64)
abbrev K2:List Kind:=[.int .i64,.int .i64]
abbrev T2:=Int×Int×Unit
abbrev e2 (x:T2):List Value:=Wx K2 x
theorem abo (x:T2):(e2 x).length=2:=rfl
theorem aha {w:World} {s:iq} {xs:List T2} {v:Value} {p:T2->Bool} {C:b_} (hs:mY 2 e2 w s xs) (hl:s.len<=2^62) (hp:SH v (λx:T2=>Value.agg ⟨e2 x⟩) [.one .bool] C λx=> .bool (p x)) (hC:∀W,Ext w W->C W):
  jC s v w λr w'=>(r>=0↔xs.any p=true)/\Ext w w':=by
 apply vC;refine iE (λst W=>∃j:Nat,j<=xs.length/\st.1=(j:Int)/\Ext w W/\(xs.take j).any p=false) (λst _=>(s.len - st.1).toNat) ⟨0,by omega,rfl,Ext.refl _,by simp⟩ ?_;rintro⟨i,⟨⟩⟩ W ⟨j,hj,hi,hw,hm⟩ next u
 simp only at hi;subst hi;have hlen:=hs.len;by_cases J:(j:Int)<(s.len:Int)
 ·simp only[J,decide_true,cond_true];have hx:=List.getElem?_eq_getElem (show j<xs.length by omega);have N:=Gp.Cfg.take_snoc hx;have I:=List.getElem_mem (show j<xs.length by omega);generalize xs[j]=x at hx N I;refine SlN_ix abo (by omega) (hs.ext hw) (by omega) (by rw[toNat_natCast];exact hx) λa hc=> ?_;have hp:=hp x;dsimp only at hp;by_cases he:p x=true
  ·rw[he] at hp;obtain⟨x0,x1,⟨⟩⟩:=x;have c0:=hc 0 _ rfl;have c1:=hc 1 _ rfl
   skip
   simp only[sx,c0,c1];refine hp W _ (hC W hw) λW' hf=>⟨true,rfl,?_⟩;simp only[cond_true];exact⟨⟨λ_=>List.any_eq_true.2 ⟨_,I,he⟩,λ_=>by omega⟩,hw.trans hf⟩
  ·have he:p x=false:=by simpa only [Bool.not_eq_true] using he
   rw[he] at hp;obtain⟨x0,x1,⟨⟩⟩:=x;have c0:=hc 0 _ rfl;have c1:=hc 1 _ rfl
   skip
   simp only[sx,c0,c1];refine hp W _ (hC W hw) λW' hf=>⟨false,rfl,?_⟩;simp only[cond_false];rw[wrap_i64 (by omega) (by omega)];refine u _ _ ⟨j+1,by omega,by simp,hw.trans hf,?_⟩ (by simp only;omega);rw[N,List.any_append,hm,List.any_cons,he,List.any_nil];rfl
 ·simp only[J,decide_false,cond_false];rw[List.take_of_length_le (by omega)] at hm;exact⟨⟨λh=>by omega,λh=>by rw[hm] at h;cases h⟩,hw⟩
theorem abg {w:World} {s:iq} {xs:List T2} {v:Value} {p:T2->Bool} {C:b_} (hs:mY 2 e2 w s xs) (hl:s.len<=2^62) (hp:SH v (λx:T2=>Value.agg ⟨e2 x⟩) [.one .bool] C λx=> .bool (p x)) (hC:∀W,Ext w W->C W):
  jm s v w λr w'=>r=xs.any p/\Ext w w':=by
 apply tZ;refine vk (aha hs hl hp hC) ?_;rintro r w' ⟨h,hf⟩;refine⟨?_,hf⟩
 cases hb:xs.any p with
 |true=>exact decide_eq_true (h.2 hb)
 |false=>exact decide_eq_false λhh=>by rw[h.1 hh] at hb;cases hb
theorem aiA:SH (.func (.func aaj) #[] #[]) (λx:T2=>Value.agg ⟨e2 x⟩) [.one .bool] (λ_=>True) (λx:T2=> .bool (!decide (fitsP x.1 x.2.1))):=by
 rintro⟨x,y,⟨⟩⟩ W K _ hK;refine qj (by kernel_rfl) ?_;refine Calls.mono (YW (A0:=x) (A1:=y) (w:=W) (K:=λr W'=>r= !decide (fitsP x y)/\Ext W W') ?_) ?_
 ·refine iI λa w1 r1 e1 z1 f1=> ?_;simp only[sx,r1.cell];refine Ur (acH x y w1) ?_;rintro _ w' ⟨rfl,rfl⟩;exact⟨rfl,f1⟩
 ·rintro e W' ⟨r,he,rfl,hf⟩;exact⟨_,he,hK W' hf⟩
theorem afg {w:World} {s:iq} {fs:List T2} (hs:mY 2 e2 w s fs) (hl:s.len<=2^62):DK s w λr w'=>r=decide (∀f∈fs,fitsP f.1 f.2.1)/\Ext w w':=by
 apply abU;refine tN (abg hs hl aiA λ_ _=>trivial) ?_;rintro r w' ⟨rfl,hf⟩;refine⟨?_,hf⟩;by_cases h:∀f∈fs,fitsP f.1 f.2.1
 ·rw[decide_eq_true h,Bool.not_eq_true',List.any_eq_false];intro f hf;simp[h f hf]
 ·rw[decide_eq_false h,Bool.not_eq_false',List.any_eq_true];simp only[Classical.not_forall] at h;obtain⟨f,hf,hn⟩:=h;exact⟨f,hf,by simp[hn]⟩
def sU (l:List UInt8) (fs:List T2):List UInt8:=fs.foldl (λm f=>wo m f.1 f.2.1) l
theorem KH (l:List UInt8) (n k:Int):(wo l n k).length<=l.length+4:=by
 unfold wo;split
 ·rename_i h;obtain⟨⟨h1,h2⟩,_⟩:=h;rw[length_append,lZ];omega
 ·omega
theorem Bg:∀(fs:List T2) (l:List UInt8),(sU l fs).length<=l.length+4 * fs.length
 |[],l=>by simp[sU]
 |f::fs,l=>by
  have h1:=Bg fs (wo l f.1 f.2.1);have h2:=KH l f.1 f.2.1;show (sU (wo l f.1 f.2.1) fs).length<=_;rw[length_cons];omega
theorem PU {w:World} {s t:iq} {l:List UInt8} {fs:List T2} (hs:Buf w s (bytesV l)) (ht:mY 2 e2 w t fs) (J:fs≠[]) (hl:l.length+4 * fs.length<=2^40):
  wE s t w λr w'=>Buf w' r (bytesV (sU l fs))/\Ext w w'/\∀b,iq.at r b->w.heap.size<=b:=by
 apply abV;have hlen:=ht.len;refine iE (λst W=>∃j:Nat,j<=fs.length/\st.2.1=(j:Int)/\Ext w W/\Buf W st.1 (bytesV (sU l (fs.take j)))/\(0<j->∀b,iq.at st.1 b->w.heap.size<=b)) (λst _=>(t.len - st.2.1).toNat) ⟨0,by omega,rfl,Ext.refl _,by simpa [sU] using hs,by omega⟩ ?_;rintro⟨r,i,⟨⟩⟩ W ⟨j,hj,hi,hx,hb,hn⟩ next h
 simp only at hi hb hn;subst hi;by_cases u:(j:Int)<(t.len:Int)
 ·simp only[u,decide_true,cond_true];have hg:=List.getElem?_eq_getElem (show j<fs.length by omega);have I:=Gp.Cfg.take_snoc hg;generalize fs[j]=f at hg I;refine SlN_ix abo (by omega) (ht.ext hx) (by omega) (by rw[toNat_natCast];exact hg) λa hc=> ?_;obtain⟨f0,f1,⟨⟩⟩:=f;have c0:=hc 0 _ rfl;have c1:=hc 1 _ rfl;simp only[sx,c0,c1,PD];refine iI λb w2 r2 e2 z2 g2=> ?_;refine iJ r2 rfl rfl λw3 r3 g3 z3=> ?_;have x3:Ext W w3:=g2.new (g3 (·=b) rfl) λy hy e=>by omega
  simp only[sx,r3.cell];have hpl:=Bg (fs.take j) l;have htl:(fs.take j).length<=j:=List.length_take_le _ _;refine KW (Rw (qy.zZ (hb.ext x3)) (by omega) f0 f1) ?_;rintro r' w4 ⟨b4,g4,n4⟩;rw[wrap_i64 (by omega) (by omega)];refine h _ _ ⟨j+1,by omega,by simp,(hx.trans x3).trans g4,?_,λ_ b hb'=> ?_⟩ (by simp only;omega)
  ·rw[I];unfold sU at b4 ⊢;rw[List.foldl_append];exact b4
  ·have h1:=n4 b hb';have h2:=(hx.trans x3).size;omega
 ·simp only[u,decide_false,cond_false];rw[List.take_of_length_le (by omega)] at hb;exact⟨hb,hx,hn (by have:=List.length_pos_iff.2 J;omega)⟩
theorem NV {w:World} {b:Nat} {fs:List T2} {L:List Value} (hr:Row w b L) (hL:L=fs.flatMap e2) {n:Nat} (hn:n=fs.length):mY 2 e2 w ⟨some ⟨b,0,none⟩,n,n⟩ fs:=by
 subst hn hL;exact(iW.row hr).sl abo (by omega)
structure PA where
 lf:Int
 pr:Int
 po:Int
 ou:Int
 ad:Int
def PA.may (p:PA):Prop:=fitsP p.lf 4/\fitsP p.pr 1/\fitsP p.po 2/\fitsP p.ou 2/\fitsP p.ad 4
instance (p:PA):Decidable p.may:=inferInstanceAs (Decidable (_/\_))
theorem acU {w:World} {d0 d1 d2 d3 d4 d5 d6 d7 d8 d9 d10 d11 d12 d13 d14 d15 d16 d17 d18 d19 d20 d21 d22 d23 d24 d25 d26 d27 d28 h u I J:Int}:uM d0 d1 d2 d3 d4 d5 d6 d7 d8 d9 d10 d11 d12 d13 d14 d15 d16 d17 d18 d19 d20 d21 d22 d23 d24 d25 d26 d27 d28 h u I J w λr w'=>r=decide (PA.may ⟨d0,h,u,I,J⟩)/\Ext w w':=by
 apply Vm;refine iI λa w1 r1 e1 z1 f1=> ?_;simp only[sx,r1.cell];refine iI λb w2 r2 e2 z2 f2=> ?_;refine Ux (afg (fs:=[(d0,4,()),(h,1,()),(u,2,()),(I,2,()),(J,4,())]) (NV r2 rfl rfl) (by simp)) ?_;rintro r w3 ⟨rfl,f3⟩;refine⟨decide_eq_decide.2 ?_,(f1.trans f2).trans f3⟩;unfold PA.may;simp
def Fj (l no:List UInt8) (p:PA):List UInt8:=sU (l++no) [(p.pr,1,()),(0,3,()),(p.po,2,()),(p.ou,2,())]++mapped p.ad
theorem XR {w w0 w':World} {s:iq} (hs:∀b,iq.at s b->w0.heap.size<=b) (hx:Ext w0 w) (hf:iG w w' (iq.at s)):Ext w0 w':=hx.new hf λb hb ha=>by have:=hs b ha;omega
theorem ac0 {w w0:World} {s:iq} {l no:List UInt8} {d0 d1 d2 d3 d4 d5 d6 d7 d8 d9 d10 d11 d12 d13 d14 d15 d16 d17 d18 d19 d20 d21 d22 d23 d24 d25 d26 d27 d28 u I N O:Int} (hs:Buf w s (bytesV l)) (hw:Ext w0 w) (hn:∀b,iq.at s b->w0.heap.size<=b) (hl:l.length<=1000) (R:no.length=12) (hd:[d17,d18,d19,d20,d21,d22,d23,d24,d25,d26,d27,d28]=bi no) (hp:PA.may ⟨d0,u,I,N,O⟩):
  rX d0 d1 d2 d3 d4 d5 d6 d7 d8 d9 d10 d11 d12 d13 d14 d15 d16 d17 d18 d19 d20 d21 d22 d23 d24 d25 d26 d27 d28 u I N O s w λr w'=>Buf w' r (bytesV (Fj l no ⟨d0,u,I,N,O⟩))/\Ext w0 w'/\∀b,iq.at r b->w0.heap.size<=b:=by
 apply TI;have ac:In64 O:=by
  obtain⟨_,_,_,_,⟨_,h1,h2⟩⟩:=hp;unfold In64;have:(256:Int)^(4:Int).toNat=4294967296:=by decide
  simp only at h1 h2;omega
 refine iI λa w1 r1 e1 z1 f1=> ?_;simp -zeta only[sx,r1.cell];refine QV ac λu0 u1 u2 u3 u4 u5 u6 u7 u8 u9 ae af ag ah ai aj w2 hx f2=> ?_;refine iI λb w3 r3 e3 z3 f3=> ?_;refine iJ r3 rfl rfl λw4 r4 f4 z4=> ?_;have f4:=f4 (·=b) rfl;have x4:Ext w1 w4:=(f2.trans f3).new f4 λy hy e=>by have:=f2.size;omega
 have xw:Ext w w4:=f1.trans x4;intro J;have hL:bytesV no=[.int .u8 d17,.int .u8 d18,.int .u8 d19,.int .u8 d20,.int .u8 d21,.int .u8 d22,.int .u8 d23,.int .u8 d24,.int .u8 d25,.int .u8 d26,.int .u8 d27,.int .u8 d28]:=by
  rw[uH,<- hd];rfl
 have r1d:=r1.ext (x4.trans (Ext.drew w4));have U:qy w4.drew ⟨some ⟨a,17,none⟩,12,12⟩ no:=EP (o:=17) r1d (A:= .int .i64 d0::[.int .u8 d1,.int .u8 d2,.int .u8 d3,.int .u8 d4,.int .u8 d5,.int .u8 d6,.int .u8 d7,.int .u8 d8,.int .u8 d9,.int .u8 d10,.int .u8 d11,.int .u8 d12,.int .u8 d13,.int .u8 d14,.int .u8 d15,.int .u8 d16]) (C:=[.int .i64 u,.int .i64 I,.int .i64 N,.int .i64 O]) (by rw[hL];rfl) rfl R.symm;refine Nw (n:=12) (by decide) ?_;simp only[sx,r1d.cell];have hsz:w0.heap.size<=w.heap.size:=hw.size;have hJ:∀s' W,Buf W s' (bytesV (sU (l++no) [(u,1,()),(0,3,()),(I,2,()),(N,2,())]))->Row W b (jH u0 u1 u2 u3 u4 u5 u6 u7 u8 u9 ae af ag ah ai aj)->Ext w0 W->(∀c,iq.at s' c->w0.heap.size<=c)->J s' W:=by
  intro s' W hb hr hx0 aa;simp only[J];refine F9 ?_;have hm:qy W ⟨some ⟨b,0,none⟩,16,16⟩ (mapped O):=EP (o:=0) hr (A:=[]) (C:=[]) (by rw[uH,<- hx];rfl) rfl (yR _).symm;have ak:=Bg [(u,1,()),(0,3,()),(I,2,()),(N,2,())] (l++no);simp only[length_append,length_cons,length_nil] at ak;refine nC hb hm (by have:=yR O;omega) λs2 W2 b2 g2 n2 _=> ?_;refine⟨b2,XR aa hx0 g2,λc hc=> ?_⟩;rcases n2 c hc with h|h
  ·exact aa c h
  ·have:=hx0.size;omega
 clear_value J;have ab:=(hs.ext xw).ext (Ext.drew w4);have xd:Ext w w4.drew:=xw.trans (Ext.drew w4);have Y:∀c,iq.at s c->c<w.heap.size:=λc hc=>hs.lt hc;have hbw:w.heap.size<=b:=by have:=f1.size;have:=f2.size;omega
 refine⟨?_,?_⟩
 ·refine nC ab U (by rw[R];omega) λs5 w5 b5 g5 n5 _=> ?_;have x5:Ext w0 w5:=XR hn (hw.trans xd) g5;have hn5:∀c,iq.at s5 c->w0.heap.size<=c:=λc hc=>by
   rcases n5 c hc with h|h
   ·exact hn c h
   ·have:=(hw.trans xd).size;omega
  have r5:=r1d.fr g5 (λh=>by have:=Y _ h;omega);have q5:=r4.drew.fr g5 (λh=>by have:=Y _ h;omega);simp only[sx,r5.cell,true_and];refine iI λt w6 r6 e6 z6 f6=> ?_;refine Ec (PU (fs:=[(u,1,()),(0,3,()),(I,2,()),(N,2,())]) (b5.ext f6) (NV r6 rfl rfl) (by simp) (by simp[R];omega)) ?_;rintro r w7 ⟨b7,f7,n7⟩;exact hJ _ _ b7 ((q5.ext f6).ext f7) (x5.trans (f6.trans f7)) λc hc=>by have:=n7 c hc;have:=(x5.trans f6).size;omega
 ·refine iI λt w5 r5 e5 z5 f5=> ?_;refine nC (ab.ext f5) (U.ext f5) (by rw[R];omega) λs6 w6 b6 g6 n6 _=> ?_;have x6:Ext w0 w6:=XR hn ((hw.trans xd).trans f5) g6;have zd:w4.drew.heap.size=w4.heap.size:=rfl;have z4':=xw.size;have r6:=(r1d.ext f5).fr g6 (λh=>by have:=Y _ h;omega);have q6:=(r4.drew.ext f5).fr g6 (λh=>by have:=Y _ h;omega);have t6:=r5.fr g6 (λh=>by have:=Y _ h;omega);simp only[sx,r6.cell,true_and];refine Ec (PU (fs:=[(u,1,()),(0,3,()),(I,2,()),(N,2,())]) b6 (NV t6 rfl rfl) (by simp) (by simp[R];omega)) ?_;rintro r w7 ⟨b7,f7,n7⟩;exact hJ _ _ b7 (q6.ext f7) (x6.trans f7) λc hc=>by have:=n7 c hc;have:=x6.size;omega
def Hg (r ep:Int) (no:List UInt8) (p:PA):List UInt8:=
 Fj (sU (sU [] [(2,1,()),(129,1,()),(0,1,()),(r,1,())]) [(p.lf,4,()),(ep,4,()),(0,4,()),(0,4,()),(0,4,())]) no p
def Dj (r ep:Int) (p:PA):Prop:=p.may/\fitsP r 1/\fitsP ep 4
instance (r ep:Int) (p:PA):Decidable (Dj r ep p):=inferInstanceAs (Decidable (_/\_))
theorem adr {w:World} {no:List UInt8} {r ep d0 d1 d2 d3 d4 d5 d6 d7 d8 d9 d10 d11 d12 d13 d14 d15 d16 d17 d18 d19 d20 d21 d22 d23 d24 d25 d26 d27 d28 u I N O:Int} (U:no.length=12) (hd:[d17,d18,d19,d20,d21,d22,d23,d24,d25,d26,d27,d28]=bi no):
  wC r ep d0 d1 d2 d3 d4 d5 d6 d7 d8 d9 d10 d11 d12 d13 d14 d15 d16 d17 d18 d19 d20 d21 d22 d23 d24 d25 d26 d27 d28 u I N O w λs e w'=>Ext w w'/\e=(if Dj r ep ⟨d0,u,I,N,O⟩ then 0 else 1)/\Buf w' s (bytesV (if Dj r ep ⟨d0,u,I,N,O⟩ then Hg r ep no ⟨d0,u,I,N,O⟩ else []))/\∀b,iq.at s b->w.heap.size<=b:=by
 apply WJ;refine iI λa w1 r1 e1 z1 f1=> ?_;intro J;have R:∀W,Ext w1 W->¬Dj r ep ⟨d0,u,I,N,O⟩->J true W:=by
  intro W hx hn;simp only[J,cond_true];rw[if_neg hn,if_neg hn];exact⟨f1.trans hx,rfl,Buf.nil,λb ⟨o,hb⟩=>by cases hb⟩
 have Y:∀W,Ext w1 W->Dj r ep ⟨d0,u,I,N,O⟩->J false W:=by
  intro W hx hp;simp only[J,cond_false];rw[if_pos hp,if_pos hp];have rW:=r1.ext hx;simp only[sx,rW.cell];refine iI λb w2 r2 e2 z2 f2=> ?_;refine Ec (PU (l:=[]) (fs:=[(2,1,()),(129,1,()),(0,1,()),(r,1,())]) Buf.nil (NV r2 rfl rfl) (by simp) (by simp)) ?_;rintro s3 w3 ⟨b3,f3,n3⟩;have r3:=(rW.ext f2).ext f3;have x3:=(f1.trans hx).trans (f2.trans f3);have l3:=Bg [(2,1,()),(129,1,()),(0,1,()),(r,1,())] [];simp only[length_cons,length_nil] at l3;simp only[sx,r3.cell];refine iI λc w4 r4 e4 z4 f4=> ?_;refine Ec (PU (fs:=[(d0,4,()),(ep,4,()),(0,4,()),(0,4,()),(0,4,())]) (b3.ext f4) (NV r4 rfl rfl) (by simp) (by simp only[length_cons,length_nil];omega)) ?_;rintro s5 w5 ⟨b5,f5,n5⟩;have l5:=Bg [(d0,4,()),(ep,4,()),(0,4,()),(0,4,()),(0,4,())] (sU [] [(2,1,()),(129,1,()),(0,1,()),(r,1,())]);simp only[length_cons,length_nil] at l5;have r5:=(r3.ext f4).ext f5;have x5:=x3.trans (f4.trans f5);simp only[sx,r5.cell];refine Iq (ac0 (w0:=w) b5 x5 (λy hy=>by have:=n5 y hy;have:=(x3.trans f4).size;omega) (by omega) U hd hp.1) ?_;rintro s6 w6 ⟨b6,f6,n6⟩;exact⟨f6,by trivial,b6,n6⟩
 clear_value J;simp only[sx,r1.cell];refine Jo acU ?_;rintro _ w2 ⟨rfl,f2⟩;by_cases hm:PA.may ⟨d0,u,I,N,O⟩;rotate_left
 ·rw[decide_eq_false hm,Bool.not_false,cond_true];exact R _ f2 λh=>hm h.1
 rw[decide_eq_true hm,Bool.not_true,cond_false];have r2:=r1.ext f2;simp only[sx,r2.cell];refine iI λb w3 r3 e3 z3 f3=> ?_;refine Ux (afg (fs:=[(r,1,()),(ep,4,())]) (NV r3 rfl rfl) (by simp)) ?_;rintro _ w4 ⟨rfl,f4⟩;by_cases hf:fitsP r 1/\fitsP ep 4
 ·have:(∀f∈[((r,1,()):T2),(ep,4,())],fitsP f.1 f.2.1):=by simpa using hf
  rw[decide_eq_true this];exact Y _ (f2.trans (f3.trans f4)) ⟨hm,hf⟩
 ·have:¬(∀f∈[((r,1,()):T2),(ep,4,())],fitsP f.1 f.2.1):=λh=>hf (by simpa using h);rw[decide_eq_false this];exact R _ (f2.trans (f3.trans f4)) λh=>hf h.2
end Go.Proofs.PM
end
