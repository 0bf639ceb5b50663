import Derived.Test.YtdmbjlliegbpcaaGreatDoorW9
import Derived.Test.YtdmbjlliegbpcaaGreatDoorW5
import Derived.Test.YtdmbjlliegbpcaaGreatDoorW3
import Derived.Test.YtdmbjlliegbpcaaGreatDoorW2
open List (length_drop length_take mem_cons not_mem_nil take_length take_succ_eq_append_getElem)
set_option maxRecDepth 100000
set_option maxHeartbeats 1000000
section
namespace Go.Proofs.EN
open Gp Go.Proofs
open Gp.Bind (Bnd Slots live GoodB freeN getS In64)
open Gp.Ses (Ses)
variable {w w':θ} {a:EA} {c:Cf} {e:ES}
structure Yq (c:Cf):Prop where
 p1:1<=c.pl.length
 l1:1<=c.lo
 lh:c.lo<=c.hi
 h1:c.hi<65536
 wt:∃A0 A1 A2 A3 A4 A5 A6 A7 A8 A9 A10 A11 A12 A13 A14 A15 A16 A17 A18 A19 A20 A21 A22 A23 A24 A25 A26 A27 A28 A29 A30 A31 A32 A33 A34 A35,c.C=jO A0 A1 A2 A3 A4 A5 A6 A7 A8 A9 A10 A11 A12 A13 A14 A15 A16 A17 A18 A19 A20 A21 A22 A23 A24 A25 A26 A27 A28 A29 A30 A31 A32 A33 A34 A35/\
  (1<=A30/\A30<=2^40)/\(1<=A31/\A31<=2^40)/\(1<=A32/\A32<=2^40)/\(1<=A33/\A33<=2^40)
structure Gd (c:Cf) (e:ES):Prop where
 inv:Inv c e
 sb:∀(k:Nat) (s:Ses),e.SS[k]? =some (some s)->∃(j:Nat) (b:Bnd),s.bd=(j:Int)/\e.S[j]? =some (some b)
 ts:∀id t,vw e.l id=some t->∃(k:Nat) (s:Ses),id=(k:Int)/\e.SS[k]? =some (some s)/\(t.a:Int)=s.un
 st:∀(k:Nat) (s:Ses),e.SS[k]? =some (some s)->∃t,vw e.l (k:Int)=some t
 lc:e.l.length=(Gp.Ses.live 0 e.SS).length
 wn:e.wn=e.now
 le:e.now<=2^40
theorem Rh (h:nH w a c e):mM (some ⟨a.x,0,none⟩) w λr w'=>r=decide (((Gp.Ses.live 0 e.SS).length:Int)>=c.ns)/\Ext w w':=by
 apply EM;have hd:=h.ext (Ext.drew w);simp only[sx,hd.c3,hd.c27];refine cmS1 (SN.agN hd.se) ?_;rintro n w1 ⟨rfl,hw⟩;subst hw;exact⟨hd.c27,rfl,Ext.drew w⟩
theorem O1 (pr ad po:Int) (w:θ):tJ pr ad po w λx y w'=>x=ad/\y=(if pr=1 then 0 else po)/\Ext w w':=by
 apply S9;refine gq λp w1 r1 e1 z1 f1=> ?_;intro J;have hJ:∀v,v=(if pr=1 then 0 else po)->J v:=λv hv=>by
  simp only[J];refine gY r1 rfl rfl λw2 r2 f2 z2=> ?_;simp only[sx,r2.cell];exact⟨by trivial,hv,f1.new (f2 (·=p) rfl) λy hy he=>by omega⟩
 clear_value J;by_cases hp:pr=1
 ·subst hp;exact hJ 0 (by simp)
 ·have:(pr==1)=false:=by simpa using hp
  rw[this,cond_false];exact hJ po (by rw[if_neg hp])
def TR (e:ES) (bound:Bool) (bd ra rp:Int):Option Int:=if bound then e.M (Bind.keyS [bd,ra,rp]) else none
def agK (e:ES) (o:Option Int):Int:=match o with
 |none=>0
 |some id=>((Gp.Ses.getS e.SS id).getD SN.ϙ).st
theorem find_ok (h:nH w a c e) (bd:Int) (bound:Bool) (ra rp:Int) (hq:∀n∈[bd,ra,rp],In64 n) {K:Int->Bool->Int->Bool->Int->Int->Int->b_}
  (hK:∀w',Ext w w'->K bd bound ((TR e bound bd ra rp).getD 0) (TR e bound bd ra rp).isSome (agK e (TR e bound bd ra rp)) ra rp w'):
  pz (some ⟨a.x,0,none⟩) bd bound 0 false 0 ra rp w K:=by
 apply Jq;refine gq λp w1 r1 e1 z1 f1=> ?_;refine gq λq w2 r2 e2 z2 f2=> ?_;have O:=r1.ext f2;have x2:=f1.trans f2;have za:=f1.size;have zb:=f2.size;simp -zeta only[sx,Ci,Cs,O.cell]
 cases bound
 ·simp only[Bool.not_false,cond_true];refine gY r2 rfl rfl λw3 r3 f3 z3=> ?_;simp only[sx,r3.cell];exact hK w3 (x2.new (f3 (·=q) rfl) λy hy he=>by omega)
 simp -zeta only[Bool.not_true,cond_false];have xd:=x2.trans (Ext.drew w2);have hd:=h.ext xd;have r1d:=O.drew;simp -zeta only[sx,hd.c3,r1d.cell];refine cmS4 (SN.Μ hd.se bd ra rp hq) ?_;rintro n t w3 ⟨rfl,rfl,f3⟩;have U:=r1d.ext f3;have e0:TR e true bd ra rp=e.M (Bind.keyS [bd,ra,rp]):=rfl;rw[e0] at hK;generalize e.M (Bind.keyS [bd,ra,rp])=o at hK ⊢;refine g_ U rfl (by simp) λw4 r4 f4 z4=> ?_;refine g_ r4 rfl (by simp) λw5 r5 f5 z5=> ?_;simp only[List.set_cons_succ,List.set_cons_zero] at r5;have f5':gW w3 w5 (·=p):=(f4 (·=p) rfl).trans (f5 (·=p) rfl) λ_ _ h=>h;have N:Ext w w5:=((xd.trans f3).new f5' λy hy he=>by omega);have R:=(((r2.drew).ext f3).fr f5' (by omega));have hE:=h.ext N;intro J;have hJ:∀v W,Ext w W->v=agK e o->Row W p [Β bd,.bool true,Β (o.getD 0),.bool o.isSome,Β v,Β ra,Β rp]->Row W q abQ->J W:=by
  intro v W hx hv hp hq';simp only[J,sx,hp.cell];refine gY hq' rfl rfl λw6 r6 f6 z6=> ?_;simp only[sx,r6.cell];rw[hv];exact hK w6 (hx.new (f6 (·=q) rfl) λy hy he=>by omega)
 clear_value J;simp -zeta only[sx,r5.cell]
 cases o with
 |none=>
  simp only[Option.isSome_none,cond_false];exact hJ 0 w5 N rfl r5 R
 |some id=>
  simp -zeta only[Option.isSome_some,cond_true];intro J2;have hJ2:∀(u:Nat) W,Ext w5 W->Row W u [Β ((Gp.Ses.getS e.SS id).getD SN.ϙ).bd,Β ((Gp.Ses.getS e.SS id).getD SN.ϙ).st,Β ((Gp.Ses.getS e.SS id).getD SN.ϙ).un,Β ((Gp.Ses.getS e.SS id).getD SN.ϙ).ra,Β ((Gp.Ses.getS e.SS id).getD SN.ϙ).rp]->J2 ⟨u,0,none⟩ W:=by
   intro u W hx hr;simp only[J2,sx,hr.cell];refine g_ (r5.ext hx) rfl (by simp) λw6 r6 f6 z6=> ?_;simp only[List.set_cons_succ,List.set_cons_zero] at r6;exact hJ _ w6 ((N.trans hx).new (f6 (·=p) rfl) λy hy he=>by omega) rfl r6 ((R.ext hx).fr (f6 (·=p) rfl) (by omega))
  clear_value J2;have I:=Ext.drew w5;have hE5:=hE.ext I;simp only[sx,hE5.c3,r5.drew.cell,Option.getD_some];refine⟨?_,?_⟩
  ·refine cmS20 (SN.abz hE5.se id) ?_;rintro a1 a2 a3 a4 a5 r w6 ⟨_,⟨rfl,rfl,rfl,rfl,rfl⟩,f6⟩;refine gq λu w7 r7 e7 z7 f7=> ?_;have x7:=(I.trans f6).trans f7;refine⟨by rw[(r5.ext x7).cell];rfl,(hE.ext x7).c3,?_⟩;refine gY r7 rfl rfl λw8 r8 f8 z8=> ?_;exact hJ2 u w8 (x7.new (f8 (·=u) rfl) λy hy he=>by have:=(I.trans f6).size;omega) r8
  ·refine gq λu w7 r7 e7 z7 f7=> ?_;have x7:=I.trans f7;refine⟨by rw[(r5.ext x7).cell];rfl,(hE.ext x7).c3,?_⟩;refine cmS20 (SN.abz (hE.ext x7).se id) ?_;rintro a1 a2 a3 a4 a5 r w6 ⟨_,⟨rfl,rfl,rfl,rfl,rfl⟩,f6⟩;refine gY (r7.ext f6) rfl rfl λw8 r8 f8 z8=> ?_;exact hJ2 u w8 ((x7.trans f6).new (f8 (·=u) rfl) λy hy he=>by have:=I.size;omega) r8
end Go.Proofs.EN
end
section
namespace Go.Proofs.AN
open Gp Go.Proofs
theorem iH {k:Kind} {w:θ} {ad:Addr} {y:k.T} {K:k.T->Prop} (h:w.cell? ad=some (k.enc y)) (hK:K y):Ld k w ad K:=⟨y,h,hK⟩
theorem VP {w:θ} {ad:Addr} {A0 A1 A2 A3 A4 A5 A6 A7 A8 A9 u I J N O R:Int} {U Y:fU} {Z aa ac af ag ah ai aj ak am an ao aq ar au av aw:Int} {ax:fU} {K:Int->Int->Int->Int->Int->Int->Int->Int->Int->Int->Int->Int->Int->Int->Int->Int->fU->fU->Int->Int->Int->Int->Int->Int->Int->Int->Int->Int->Int->Int->Int->Int->Int->Int->Int->fU->Prop} (hc:∀j,j<36->w.cell? (ad.add j)=(jO A0 A1 A2 A3 A4 A5 A6 A7 A8 A9 u I J N O R U Y Z aa ac af ag ah ai aj ak am an ao aq ar au av aw ax)[j]?) (hK:K A0 A1 A2 A3 A4 A5 A6 A7 A8 A9 u I J N O R U Y Z aa ac af ag ah ai aj ak am an ao aq ar au av aw ax):uS w ad K:=by
 unfold uS;refine⟨A0,hc 0 (by omega),?_⟩;refine⟨A1,hc 1 (by omega),?_⟩;refine⟨A2,hc 2 (by omega),?_⟩;refine⟨A3,hc 3 (by omega),?_⟩;refine⟨A4,hc 4 (by omega),?_⟩;refine⟨A5,hc 5 (by omega),?_⟩;refine⟨A6,hc 6 (by omega),?_⟩;refine⟨A7,hc 7 (by omega),?_⟩;refine⟨A8,hc 8 (by omega),?_⟩;refine⟨A9,hc 9 (by omega),?_⟩;refine⟨u,hc 10 (by omega),?_⟩;refine⟨I,hc 11 (by omega),?_⟩;refine⟨J,hc 12 (by omega),?_⟩;refine⟨N,hc 13 (by omega),?_⟩;refine⟨O,hc 14 (by omega),?_⟩;refine⟨R,hc 15 (by omega),?_⟩;refine⟨U,hc 16 (by omega),?_⟩;refine⟨Y,hc 17 (by omega),?_⟩;refine⟨Z,hc 18 (by omega),?_⟩;refine⟨aa,hc 19 (by omega),?_⟩;refine⟨ac,hc 20 (by omega),?_⟩;refine⟨af,hc 21 (by omega),?_⟩;refine⟨ag,hc 22 (by omega),?_⟩;refine⟨ah,hc 23 (by omega),?_⟩;refine⟨ai,hc 24 (by omega),?_⟩;refine⟨aj,hc 25 (by omega),?_⟩;refine⟨ak,hc 26 (by omega),?_⟩;refine⟨am,hc 27 (by omega),?_⟩;refine⟨an,hc 28 (by omega),?_⟩;refine⟨ao,hc 29 (by omega),?_⟩;refine⟨aq,hc 30 (by omega),?_⟩;refine⟨ar,hc 31 (by omega),?_⟩;refine⟨au,hc 32 (by omega),?_⟩;refine⟨av,hc 33 (by omega),?_⟩;refine⟨aw,hc 34 (by omega),?_⟩;refine⟨ax,hc 35 (by omega),?_⟩;exact hK
end Go.Proofs.AN
namespace Go.Proofs.EN
open Gp Go.Proofs Go.Proofs.AN
open Gp.Bind (Bnd Slots live GoodB freeN getS In64)
open Gp.Ses (Ses)
variable {w w':θ} {a:EA} {c:Cf} {e:ES}
def ci (c:Cf) (j:Nat):Int:=match c.C[j]? with
 |some (.int _ x)=>x
 |_=>0
def Ii (c:Cf) (pr st:Int):Int:=if pr=17 then ci c 30 else if pr=1 then ci c 33 else if pr=6 then (if st=3 then ci c 31 else ci c 32) else 0
theorem ϋ (hm:Yq c) {pr st:Int} (hp:pr=1\/pr=6\/pr=17):1<=Ii c pr st/\Ii c pr st<=2^40:=by
 obtain⟨A0,A1,A2,A3,A4,A5,A6,A7,A8,A9,A10,A11,A12,A13,A14,A15,A16,A17,A18,A19,A20,A21,A22,A23,A24,A25,A26,A27,A28,A29,u,I,J,N,A34,A35,hC,h1,h2,h3,h4⟩:=hm.wt;have O:ci c 30=u:=by unfold ci;rw[hC];rfl
 have R:ci c 31=I:=by unfold ci;rw[hC];rfl
 have U:ci c 32=J:=by unfold ci;rw[hC];rfl
 have Y:ci c 33=N:=by unfold ci;rw[hC];rfl
 unfold Ii;rw[O,R,U,Y];rcases hp with rfl|rfl|rfl
 ·exact h4
 ·rw[if_neg (by decide),if_neg (by decide),if_pos rfl];split
  ·exact h2
  ·exact h3
 ·exact h1
theorem agY {ad:Addr} (hm:Yq c) (hc:∀j,j<36->w.cell? (ad.add j)=c.C[j]?) (pr st:Int) {K:Int->b_} (hK:∀w',Ext w w'->K (Ii c pr st) w'):
  uS w ad λR U Y Z aa ac af ag ah ai aj ak am an ao aq ar au av aw ax ay az aA aB aC aD aE aF aG aH aI aJ aK aL aM=>BQ R U Y Z aa ac af ag ah ai aj ak am an ao aq ar au av aw ax ay az aA aB aC aD aE aF aG aH aI aJ aK aL aM pr st w K:=by
 obtain⟨A0,A1,A2,A3,A4,A5,A6,A7,A8,A9,A10,A11,A12,A13,A14,A15,A16,A17,A18,A19,A20,A21,A22,A23,A24,A25,A26,A27,A28,A29,I,J,N,O,A34,A35,hC,h1,h2,h3,h4⟩:=hm.wt;rw[hC] at hc;refine VP hc ?_;apply SQ;refine gq λp w1 r1 e1 z1 f1=> ?_;have aN:ci c 30=I:=by unfold ci;rw[hC];rfl
 have aO:ci c 31=J:=by unfold ci;rw[hC];rfl
 have aP:ci c 32=N:=by unfold ci;rw[hC];rfl
 have aQ:ci c 33=O:=by unfold ci;rw[hC];rfl
 have hK:=hK w1 f1;unfold Ii at hK;rw[aN,aO,aP,aQ] at hK;have aR:w1.cell? ((⟨p,0,none⟩:Addr).add 30)=some (Β I):=by rw[gy,r1.cell];rfl
 have aS:w1.cell? ((⟨p,0,none⟩:Addr).add 31)=some (Β J):=by rw[gy,r1.cell];rfl
 have aT:w1.cell? ((⟨p,0,none⟩:Addr).add 32)=some (Β N):=by rw[gy,r1.cell];rfl
 have aU:w1.cell? ((⟨p,0,none⟩:Addr).add 33)=some (Β O):=by rw[gy,r1.cell];rfl
 by_cases u:pr=17
 ·subst u;exact iH (k:= .int .i64) aR hK
 have aV:(pr==17)=false:=by simpa using u
 rw[if_neg u] at hK;rw[aV,cond_false];by_cases p1:pr=1
 ·subst p1;exact iH (k:= .int .i64) aU hK
 have b1:(pr==1)=false:=by simpa using p1
 rw[if_neg p1] at hK;rw[b1,cond_false];by_cases p6:pr=6
 ·subst p6;rw[if_pos rfl] at hK;by_cases s3:st=3
  ·subst s3;exact iH (k:= .int .i64) aS hK
  ·have b3:(st==3)=false:=by simpa using s3
   rw[if_neg s3] at hK;rw[b3];exact iH (k:= .int .i64) aT hK
 ·have b6:(pr==6)=false:=by simpa using p6
  rw[if_neg p6] at hK;rw[b6,cond_false];exact hK
theorem EK:∀{S:Gp.Ses.Slots} {i:Nat} {b b':Ses} (k:Nat),S[i]? =some (some b)->(Gp.Ses.live k (S.set i (some b'))).length=(Gp.Ses.live k S).length
 |[],_,_,_,_,h=>by simp at h
 |x::r,0,b,b',k,h=>by
  simp at h;subst h;simp[Gp.Ses.live]
 |none::r,i+1,b,b',k,h=>by
  rw[List.set_cons_succ,Gp.Ses.live,Gp.Ses.live];exact EK (k+1) (by simpa using h)
 |some x::r,i+1,b,b',k,h=>by
  rw[List.set_cons_succ,Gp.Ses.live,Gp.Ses.live,List.length_cons,List.length_cons,EK (k+1) (by simpa using h)]
theorem aaQ {l:WN.PL} (id:Int) (t:Gp.Wh.Tm):(zn l id t).length=if id∈l.map (·.1) then l.length else l.length+1:=by
 have h:=congrArg List.length (QC l id t);rw[List.length_map] at h;rw[h];split<;>simp
theorem TS:∀{S:Gp.Ses.Slots} (k:Nat),Gp.Ses.freeN S=none->(Gp.Ses.live k S).length=S.length
 |[],_,_=>rfl
 |none::r,_,h=>by simp[Gp.Ses.freeN] at h
 |some b::r,k,h=>by
  have:=TS (S:=r) (k+1) (by simpa [Gp.Ses.freeN] using h);simp[Gp.Ses.live,this]
end Go.Proofs.EN
end
section
namespace Go.Proofs.EN
open Gp Go.Proofs Go.Proofs.AN
open Gp.Bind (Bnd Slots live GoodB freeN getS In64)
open Gp.Ses (Ses)
variable {w w':θ} {a:EA} {c:Cf} {e:ES}
theorem ahs (h:nH w a c e) {id u:Int} (h0:0<=id) (h1:id<=4096) (u0:0<=u) (u1:u<=1099511627776) (hr:vw e.l id≠none\/(e.l.length:Int)<c.ns) (ht:e.tn<2^62) {K:Int->b_}
  (hK:∀r w' ss' F',gW w w' (own a 5)->nH w' {a with ss:=ss'} c {e with l:=zn e.l id ⟨id,max u.toNat e.wn,e.tn+1⟩,tn:=e.tn+1,F:=F'}->(∀x,WN.Fz a.d a.m ss' x->WN.Fz a.d a.m a.ss x\/w.heap.size<=x)->K r w'):
  qC (some ⟨a.d,0,none⟩) id u w K:=by
 refine cmS1 (WN.ag0 h.wh id u ht) ?_;rintro r w1 ⟨_,f1,ss',F',hs,hw⟩;have hE:WN.Wy e.l c.ns id u=0:=by
  unfold WN.Wy;rw[if_neg (by omega),if_neg ?_];rintro⟨q1,q2⟩;rcases hr with hr|hr
  ·exact hr q1
  ·omega
 rw[hE,if_pos rfl,if_pos rfl] at hw;exact hK r w1 ss' F' f1 (h.setW f1 hw hs) hs
def NK (c:Cf) (e:ES) (pr nx:Int):Int:=if (1099511627776:Int)<(e.now:Int)+Ii c pr nx then 1099511627776 else (e.now:Int)+Ii c pr nx
theorem ah_ (hg:Gd c e) (hm:Yq c) {pr nx:Int} (hp:pr=1\/pr=6\/pr=17):0<=NK c e pr nx/\NK c e pr nx<=1099511627776/\(e.now:Int)<=NK c e pr nx/\ο.wrap ((e.now:Int)+Ii c pr nx)=(e.now:Int)+Ii c pr nx:=by
 obtain⟨h1,h2⟩:=ϋ hm (st:=nx) hp;have:=hg.le;refine⟨?_,?_,?_,?_⟩
 ·unfold NK;split<;>omega
 ·unfold NK;split<;>omega
 ·unfold NK;split<;>omega
 ·rw[Α]
theorem Gd.note (hg:Gd c e) (_:(e.l.map (·.1)).Nodup) {k:Nat} {s:Ses} {M:ByteArray->Option Int} {F:Gp.Wh.Fs} {u:Int} {t:Int} (hu:s.un=u) (u0:0<=u) (un:(e.now:Int)<=u)
  (hb:∃(j:Nat) (b:Bnd),s.bd=(j:Int)/\e.S[j]? =some (some b))
  (hk:(∃s0,e.SS[k]? =some (some s0))\/Gp.Ses.freeN e.SS=some k):
  Gd c {e with SS:=e.SS.set k (some s),M:=M,l:=zn e.l (k:Int) ⟨(k:Int),max u.toNat e.wn,t⟩,tn:=t,F:=F}:=by
 have N:k<e.SS.length:=by
  rcases hk with ⟨s0,h0⟩|h0
  ·exact(List.getElem?_eq_some_iff.1 h0).1
  ·exact(Gp.Ses.jr 0 h0).1
 have I:∀(j:Nat) (x:Ses),(e.SS.set k (some s))[j]? =some (some x)↔(j=k/\x=s)\/(j≠k/\e.SS[j]? =some (some x)):=by
  intro j x;rw[Gp.Ses.iO N];by_cases hj:k=j
  ·subst hj;simp[eq_comm]
  ·have:j≠k:=λh=>hj h.symm;simp[hj,this]
 refine⟨⟨hg.inv.ql,hg.inv.cn,hg.inv.gv,hg.inv.mp⟩,λj x hx=> ?_,λid x hx=> ?_,λj x hx=> ?_,?_,hg.wn,hg.le⟩
 ·rcases(I j x).1 hx with ⟨_,rfl⟩|⟨_,h2⟩
  ·exact hb
  ·exact hg.sb j x h2
 ·rw[Ar] at hx;split at hx
  ·rename_i J
   cases hx
   refine⟨k,s,J,(I k s).2 (.inl ⟨rfl,rfl⟩),?_⟩;rw[hg.wn,hu];show ((max u.toNat e.now:Nat):Int)=u;omega
  ·rename_i J;obtain⟨j,y,h1,h2,h3⟩:=hg.ts id x hx;exact⟨j,y,h1,(I j y).2 (.inr ⟨λhj=>J (by rw[h1,hj]),h2⟩),h3⟩
 ·rcases(I j x).1 hx with ⟨rfl,_⟩|⟨hj,h2⟩
  ·exact⟨_,by rw[Ar,if_pos rfl]⟩
  ·obtain⟨y,hy⟩:=hg.st j x h2;exact⟨y,by rw[Ar,if_neg (by omega)];exact hy⟩
 ·rw[aaQ];rcases hk with ⟨s0,h0⟩|h0
  ·obtain⟨y,hy⟩:=hg.st k s0 h0;have:(k:Int)∈e.l.map (·.1):=Classical.byContradiction λhn=>by rw[Bz.2 hn] at hy;cases hy
   rw[if_pos this,EK 0 h0];exact hg.lc
  ·have hn:(k:Int)∉e.l.map (·.1):=Bz.1 (by
    cases hl:vw e.l (k:Int) with
    |none=>rfl
    |some y=>
     obtain⟨j,z,h1,h2,_⟩:=hg.ts _ y hl;have:j=k:=by omega
     subst this;rw[(Gp.Ses.jr 0 h0).2.1] at h2
     cases h2)
   rw[if_neg hn];have h7:=(Gp.Ses.jr 0 h0).2.2.2.2.2.2 s;have h4:=(Gp.Ses.jr 0 h0).2.2.2.1;rw[h7,List.length_append,List.length_cons,length_take,length_drop];have:=hg.lc;omega
theorem nH.sl (h:nH w a c e):e.SS.length=c.ns.toNat:=h.se.len
theorem abl (h:nH w a c e) (hg:Gd c e) (hm:Yq c) {bd sid st0 ra rp pr nx:Int} {kn:Bool} (hp:pr=1\/pr=6\/pr=17) (ht:e.tn<2^62)
  (hk:(kn=true/\∃(k:Nat) (s0:Ses),sid=(k:Int)/\e.SS[k]? =some (some s0))\/
   (kn=false/\e.M (Bind.keyS [bd,ra,rp])=none/\((Gp.Ses.live 0 e.SS).length:Int)<c.ns/\(∃(j:Nat) (b:Bnd),bd=(j:Int)/\e.S[j]? =some (some b))/\(In64 bd/\In64 ra/\In64 rp)))
  {K:b_}
  (hK:∀w' a' M F (k:Nat) (s:Ses),gW w w' (jK a)->(k:Int)<=4096->s.un=NK c e pr nx->s.st=nx->
   ((kn=true/\sid=(k:Int)/\∃s0,e.SS[k]? =some (some s0)/\s={s0 with st:=nx,un:=NK c e pr nx})\/(kn=false/\Gp.Ses.freeN e.SS=some k/\s=⟨bd,nx,NK c e pr nx,ra,rp⟩))->
   nH w' a' c {e with SS:=e.SS.set k (some s),M:=M,l:=zn e.l (k:Int) ⟨(k:Int),max (NK c e pr nx).toNat e.wn,e.tn+1⟩,tn:=e.tn+1,F:=F}->
   Gd c {e with SS:=e.SS.set k (some s),M:=M,l:=zn e.l (k:Int) ⟨(k:Int),max (NK c e pr nx).toNat e.wn,e.tn+1⟩,tn:=e.tn+1,F:=F}->Grow a a' w.heap.size->a'.x=a.x->K w'):
  kW (some ⟨a.x,0,none⟩) bd true sid kn st0 ra rp pr nx w K:=by
 apply Js;refine gq λp w1 r1 e1 z1 f1=> ?_;have x1:=f1.trans (Ext.drew w1);have h1:=h.ext x1;obtain⟨u0,u1,un,uw⟩:=ah_ hg hm (nx:=nx) hp;obtain⟨v0,v1⟩:=ϋ hm (st:=nx) hp;have ns1:=h.cf.s1;have hsl:=h.sl;refine iI.2 (iH (k:= .int .i64) (y:=(e.now:Int)) (by rw[gy];exact h1.c41) (iI.2 ?_));refine agY hm (λj hj=>by rw[gy,gy];have:=h1.cC hj;simpa using this) pr nx λw2 f2=> ?_;have x2:=x1.trans f2;have h2:=h.ext x2;have r2:=(r1.drew).ext f2;have hz:w.heap.size<=p:=by omega
 refine⟨by rw[gy];exact h2.c41,?_⟩;intro J;rw[uw];have eu:(if (1099511627776:Int)<(e.now:Int)+Ii c pr nx then 1099511627776 else (e.now:Int)+Ii c pr nx)=NK c e pr nx:=rfl
 rw[eu];have hJ:∀(W:θ) (A:SN.Qm) (M:ByteArray->Option Int) (k:Nat) (s:Ses),gW w W (λb=>SN.fp a.T b)->nH W {a with T:=A} c {e with SS:=e.SS.set k (some s),M:=M}->(∀x,SN.fp A x->SN.fp a.T x\/w.heap.size<=x)->
   W.cell? ⟨p,2,none⟩=some (Β (k:Int))->s.un=NK c e pr nx->s.st=nx->
   ((kn=true/\sid=(k:Int)/\∃s0,e.SS[k]? =some (some s0)/\s={s0 with st:=nx,un:=NK c e pr nx})\/(kn=false/\Gp.Ses.freeN e.SS=some k/\((Gp.Ses.live 0 e.SS).length:Int)<c.ns/\s=⟨bd,nx,NK c e pr nx,ra,rp⟩))->
   (∃(j:Nat) (b:Bnd),s.bd=(j:Int)/\e.S[j]? =some (some b))->J W:=by
  intro W A M k s hf hE hA hc Z ag u R;have aa:=hE.ext (Ext.drew W);simp only[J];refine iI.2 (iH (k:= .ptr) (y:=some ⟨a.d,0,none⟩) (by rw[gy];exact aa.c4) (iH (k:= .int .i64) (y:=(k:Int)) (by rw[gy];exact hc) ?_));rw[uw,eu];have hkl:k<e.SS.length:=by
   rcases u with ⟨_,_,s0,h0,_⟩|⟨_,h0,_⟩
   ·exact(List.getElem?_eq_some_iff.1 h0).1
   ·exact(Gp.Ses.jr 0 h0).1
  have hk4:(k:Int)<=4096:=by omega
  refine ahs aa (by omega) hk4 u0 u1 ?_ ht λr w3 ss' F' f3 hE3 hs3=> ?_
  ·rcases u with ⟨_,_,s0,h0,_⟩|⟨_,h0,ac,_⟩
   ·obtain⟨y,hy⟩:=hg.st k s0 h0;left;show vw e.l (k:Int)≠none;rw[hy];simp
   ·right;have:=hg.lc;show (e.l.length:Int)<c.ns;omega
  ·have I:(∃s0,e.SS[k]? =some (some s0))\/Gp.Ses.freeN e.SS=some k:=by
    rcases u with ⟨_,_,s0,h0,_⟩|⟨_,h0,_⟩
    ·exact .inl ⟨s0,h0⟩
    ·exact .inr h0
   have ah:=hg.note h.ndl (M:=M) (F:=F') (t:=e.tn+1) Z u0 un R I;refine hK w3 _ M F' k s ?_ hk4 Z ag ?_ hE3 ah ?_ rfl
   ·have g1:gW w W (jK a):=hf.mono λy hy=>⟨4,hy⟩;exact(g1.ext (Ext.drew W)).trans f3 λy _ hy=>⟨5,hy⟩
   ·rcases u with ⟨q1,q2,q3⟩|⟨q1,q2,_,q3⟩
    ·exact .inl ⟨q1,q2,q3⟩
    ·exact .inr ⟨q1,q2,q3⟩
   ·have g1:Grow a {a with T:=A} w.heap.size:=VX hA;refine g1.trans (aeZ (n:=W.drew.heap.size) hs3) ?_;have:=hf.size;show w.heap.size<=W.heap.size;exact this
 clear_value J;have U:∀{b:Nat},SN.fp a.T b->b≠p:=λ{b} hb he=>by have:=h.lt 4 b hb;omega
 simp only[sx,r2.cell];have h2d:=h2.ext (Ext.drew w2);have x2d:=x2.trans (Ext.drew w2);have r2d:=r2.drew;rcases hk with ⟨rfl,k,s0,rfl,hs0⟩|⟨rfl,hM,ac,R,i1,i2,i3⟩
 ·simp only[cond_true,sx,h2d.c3,r2d.cell];have ai:Gp.Ses.getS e.SS (k:Int)=some s0:=Gp.Ses.rH.2 ⟨by omega,by rw[Int.toNat_natCast];exact hs0⟩;refine cmS0 (SN.agS h2d.se _ _ _) ?_;rintro r w3 ⟨_,f3,S',hT,hS'⟩;rw[ai] at hS';simp only[Int.toNat_natCast] at hS';subst hS';have hE3:=h2d.aiV (A:=a.T) (M:=e.M) f3 hT rfl (λx hx=> .inl hx) (λx hx=>hT.lt hx);refine hJ w3 a.T e.M k _ (x2d.fr f3) hE3 (λx hx=> .inl hx) ?_ rfl rfl (.inl ⟨rfl,rfl,s0,hs0,rfl⟩) (hg.sb k s0 hs0);have r3:=r2d.fr f3 (λhb=>U hb rfl);rw[r3.cell];rfl
 ·simp only[cond_false,sx,h2d.c3,r2d.cell];have N:∃i,Gp.Ses.freeN e.SS=some i:=by
   cases aj:Gp.Ses.freeN e.SS with
   |some i=>exact⟨i,rfl⟩
   |none=>
    have:=TS 0 aj;omega
  obtain⟨k,af⟩:=N;have Y:SN.vG e.SS e.M ⟨bd,nx,NK c e pr nx,ra,rp⟩=((k:Int),0):=by
   unfold SN.vG;have:Gp.Ses.Ses.k ⟨bd,nx,NK c e pr nx,ra,rp⟩=[bd,ra,rp]:=rfl;rw[this,hM,af];rfl
  have ak:Gp.Ses.Ses.ok ⟨bd,nx,NK c e pr nx,ra,rp⟩:=by
   intro n hn;simp only[Gp.Ses.Ses.k,mem_cons,not_mem_nil,or_false] at hn;rcases hn with rfl|rfl|rfl
   ·exact i1
   ·exact i2
   ·exact i3
  refine cmS9 (SN.agL h2d.se ⟨bd,nx,NK c e pr nx,ra,rp⟩ ak) ?_;rintro n m w3 ⟨hr,f3,A,S',M',hT,am,O,hS'⟩;rw[Y] at hr hS';simp only[if_true,Int.toNat_natCast] at hS'
  cases hr
  subst hS';have r3:=r2d.fr f3 (λhb=>U hb rfl);refine g_ r3 rfl (by simp) λw4 r4 f4 z4=> ?_;simp only[List.set_cons_succ,List.set_cons_zero] at r4;have an:¬SN.fp A p:=λhc=>(O p hc).elim (λhb=>U hb rfl) λhb=>by
   have h9:p<w1.heap.size:=by omega
   have:=f2.size;have ao:w2.drew.heap.size=w2.heap.size:=rfl;have aq:w1.drew.heap.size=w1.heap.size:=rfl;omega
  have hT4:=hT.fr (f4 (·=p) rfl) (λb hb he=>an (he ▸ hb));have f34:gW w2.drew w4 (λb=>SN.fp a.T b\/b=p):=(f3.mono λb hb=> .inl hb).trans ((f4 (·=p) rfl).mono λb hb=> .inr hb) λ_ _ h=>h;have hE3:=(h2d.aiV f3 hT am O (λx hx=>hT.lt hx)).fr (f4 (·=p) rfl) (λkk b hb he=>by
   subst he;rcases VX (a:=a) (n:=w2.drew.heap.size) O b ⟨kk,hb⟩ with ⟨k2,hb2⟩|hb2
   ·have:=h.lt k2 b hb2;omega
   ·have h9:b<w1.heap.size:=by omega
    have:=f2.size;have ao:w2.drew.heap.size=w2.heap.size:=rfl;have aq:w1.drew.heap.size=w1.heap.size:=rfl;omega)
  have ar:gW w w4 (λb=>SN.fp a.T b):=by
   have g:=x2d.fr (f34);refine⟨g.size,λb hb hn=>g.same b hb ?_,g.io⟩;rintro(hc|hc)
   ·exact hn hc
   ·omega
  refine hJ w4 A M' k _ ar hE3 (λx hx=>(O x hx).imp id λhx=> ?_) ?_ rfl rfl (.inr ⟨rfl,af,ac,rfl⟩) R
  ·have:=x2d.size;omega
  ·rw[r4.cell];rfl
end Go.Proofs.EN
end
section
namespace Go.Proofs.EN
open Gp Go.Proofs Go.Proofs.AN
open Gp.Bind (Bnd Slots live GoodB freeN getS In64)
open Gp.Ses (Ses)
variable {w w':θ} {a:EA} {c:Cf} {e:ES}
abbrev Pm (d:Int):Value:=Value.iface 271 (Β d)
def Full (c:Cf) (e:ES) (sw pr po d:Int):Prop:=(d=5/\c.q<=QN.at_ e.Q sw)\/(d=6/\(c.nb<=((live 0 e.S).length:Int)\/c.ns<=((Gp.Ses.live 0 e.SS).length:Int)))\/(d=7/\PN.yH pr po sw c.lo c.hi c.pl e.G=none)
theorem aeR (h:nH w a c e) (hg:Gd c e) (hm:Yq c) {sw pr ad po:Int} (aa:RV c sw) (hp:pr=1\/pr=6\/pr=17) (ar:0<=ad/\ad<=4294967295) (O:0<=po/\po<=65535) (au:e.Mi (Bind.keyS [sw,pr,ad,po])=none)
  {K:Int->Value->b_}
  (hD:∀d w',Full c e sw pr po d->Ext w w'->K 0 (Pm d) w')
  (hK:∀w' a' (i:Nat) (o:PN.O3) Mi Mo,gW w w' (jK a)->freeN e.S=some i->PN.yH pr po sw c.lo c.hi c.pl e.G=some o->QN.at_ e.Q sw<c.q->
   nH w' a' c {e with S:=e.S.set i (some ⟨sw,pr,ad,po,o.1,o.2.1,o.2.2,false⟩),Mi:=Mi,Mo:=Mo,Q:=e.Q.set sw.toNat (QN.at_ e.Q sw+1),G:=zn e.G o ()}->
   Gd c {e with S:=e.S.set i (some ⟨sw,pr,ad,po,o.1,o.2.1,o.2.2,false⟩),Mi:=Mi,Mo:=Mo,Q:=e.Q.set sw.toNat (QN.at_ e.Q sw+1),G:=zn e.G o ()}->Grow a a' w.heap.size->a'.x=a.x->
   K (i:Int) .nilIface w'):
  uF (some ⟨a.x,0,none⟩) sw pr ad po w K:=by
 apply Jp;refine gq λt w1 r1 e1 z1 f1=> ?_;have x1:=f1.trans (Ext.drew w1);have h1:=h.ext x1;have r1d:=r1.drew;simp -zeta only[sx,Ci,Cw,h1.c1,h1.c25,r1d.cell];refine cmS1 (QN.YT h1.qr _) ?_;rintro n w2 ⟨rfl,hw⟩;subst hw;have ao:QN.ϸ e.Q sw:=⟨aa.1,by rw[hg.inv.ql];exact aa.2⟩;have ai:QN.CO e.Q sw=QN.at_ e.Q sw:=by unfold QN.CO;rw[if_pos ao]
 refine⟨h1.c25,?_⟩;by_cases hq:QN.CO e.Q sw>=c.q
 ·simp only[hq,decide_true,cond_true];exact hD 5 _ (.inl ⟨rfl,by rw[<- ai];exact hq⟩) x1
 simp -zeta only[hq,decide_false,cond_false];refine cmS0 (Qx h1) ?_;rintro n w2 ⟨rfl,f2⟩;by_cases I:((live 0 e.S).length:Int)>=c.nb
 ·simp only[I,decide_true,cond_true];exact hD 6 w2 (.inr (.inl ⟨rfl,.inl I⟩)) (x1.trans f2)
 simp -zeta only[I,decide_false,cond_false];have x2:=(x1.trans f2).trans (Ext.drew w2);have h2:=h.ext x2;have r2:=(r1d.ext f2).drew;have hne:∀{b:Nat},jK a b->b≠t:=λ{b} ⟨k,hb⟩ he=>by have:=h.lt k b hb;omega
 have htz:w.heap.size<=t:=by omega
 intro J;have ql:QN.at_ e.Q sw<c.q:=by rw[<- ai];omega
 have hJ0:∀(u:Nat) (W:θ) (v:Int),v≠0->PN.yH pr po sw c.lo c.hi c.pl e.G=none->Ext w W->J ⟨u,0,none⟩ v W:=by
  intro u W v hv R hx;have hv':(v !=0)=true:=by simpa using hv
  simp only[J,hv',cond_true];exact hD 7 W (.inr (.inr ⟨rfl,R⟩)) hx
 have hJ1:∀(u:Nat) (W:θ) (o:PN.O3),PN.yH pr po sw c.lo c.hi c.pl e.G=some o->gW w W (λb=>b=a.g)->PN.PL W a.p a.g a.ps c.lo c.hi c.pl (zn e.G o ())->Row W t [Β sw,Β pr,Β ad,Β po]->Row W u [Β o.1,Β o.2.1,Β o.2.2]->w.heap.size<=u->J ⟨u,0,none⟩ 0 W:=by
  intro u W o ho hf U ac aj hu;have h0:((0:Int) !=0)=false:=rfl;simp only[J,h0,cond_false];have hE:=(h.aiR hf U).ext (Ext.drew W);have ac:=ac.drew;have aj:=aj.drew;simp only[sx,hE.c1,ac.cell];have ak:QN.DV e.Q c.q sw=(0,e.Q.set sw.toNat (QN.at_ e.Q sw+1)):=by
   unfold QN.DV;rw[if_pos ao,if_neg (by rw[<- ai];exact hq)]
  refine cmS1 (QN.NG hE.qr hE.qo _) ?_;rintro n w7 ⟨rfl,q7,f7⟩;have q7':QN.QR w7 a.qb a.qs (e.Q.set sw.toNat (QN.at_ e.Q sw+1)) c.q:=by
   have:QN.DV e.Q c.q sw=_:=ak;rw[show (QN.DV ({e with G:=zn e.G o ()}:ES).Q c.q sw)=_ from ak] at q7;exact q7
  have o7:QN.QOk (e.Q.set sw.toNat (QN.at_ e.Q sw+1)) c.q:=by
   have:=QN.Λ h.qo sw;rw[ak] at this;exact this
  have h7:=(hE.aiS f7 q7' o7).ext (Ext.drew w7);have nq:a.qs≠t/\a.qs≠u:=by have:=h.lt 2 a.qs (.inr rfl);omega
  have rt7:=(ac.fr f7 (λhe=>nq.1 he.symm)).drew;have ru7:=(aj.fr f7 (λhe=>nq.2 he.symm)).drew;simp only[sx,h7.c2,rt7.cell,ru7.cell];obtain⟨o1,o2,o3,o4⟩:=PN.TW ho;have av:aeO c ⟨sw,pr,ad,po,o.1,o.2.1,o.2.2,false⟩:=⟨hp,ar,o2,O,⟨by have:=hm.l1;show 0<=o.2.2;omega,by have:=hm.h1;show o.2.2<=65535;omega⟩,o1.symm,aa⟩;have bok:Bnd.ok ⟨sw,pr,ad,po,o.1,o.2.1,o.2.2,false⟩:=by
   have hh:=h.cf.hp _ o2;have hl:=h.cf.sw;obtain⟨s0,s1⟩:=aa;have g1:=hm.l1;have g2:=hm.h1;constructor
   ·intro n hn;simp only[Bnd.i,mem_cons,not_mem_nil,or_false] at hn;unfold In64;rcases hn with rfl|rfl|rfl|rfl<;>omega
   ·intro n hn;simp only[Bnd.o,mem_cons,not_mem_nil,or_false] at hn;unfold In64;have hh1:=hh.1;have hh2:=hh.2.1;rcases hn with rfl|rfl|rfl<;>omega
  have aw:e.Mo (Bind.keyS [o.1,o.2.1,o.2.2])=none:=by
   cases ax:e.Mo (Bind.keyS [o.1,o.2.1,o.2.2]) with
   |none=>rfl
   |some v=>
    obtain⟨j,b,hb,hk,_⟩:=(h.db.good.o _ _).1 ax;exfalso;apply o4;refine(hg.inv.gv o).2 ⟨j,b,hb,?_⟩;have hb2:=(h.db.good.ok j b hb).2;have:=Gp.Bind.keyS_inj (by simp[Bnd.o]) hb2 bok.2 hk;simp only[Bnd.o,List.cons.injEq,and_true] at this;rw[this.1,this.2.1,this.2.2]
  have Y:∃i,freeN e.S=some i:=by
   cases ay:freeN e.S with
   |some i=>exact⟨i,rfl⟩
   |none=>
    have h10:=KF 0 ay;have h11:=h.db.len;have:=h.cf.b1;omega
  obtain⟨i,af⟩:=Y;have Z:vG e.S e.Mi e.Mo ⟨sw,pr,ad,po,o.1,o.2.1,o.2.2,false⟩=((i:Int),0):=by
   unfold vG;have k1:e.Mi (Bind.keyS (Bnd.i ⟨sw,pr,ad,po,o.1,o.2.1,o.2.2,false⟩))=none:=au;have k2:e.Mo (Bind.keyS (Bnd.o ⟨sw,pr,ad,po,o.1,o.2.1,o.2.2,false⟩))=none:=aw;rw[k1,k2,af];rfl
  refine cmS9 (aa5 h7.db ⟨sw,pr,ad,po,o.1,o.2.1,o.2.2,false⟩ bok (h7.lt 3)) ?_;rintro n m w9 ⟨hr,f9,A,S',Mi',Mo',d9,az,aq,am,hS'⟩;have ha9:vG ({e with Q:=e.Q.set sw.toNat (QN.at_ e.Q sw+1),G:=zn e.G o ()}:ES).S ({e with Q:=e.Q.set sw.toNat (QN.at_ e.Q sw+1),G:=zn e.G o ()}:ES).Mi ({e with Q:=e.Q.set sw.toNat (QN.at_ e.Q sw+1),G:=zn e.G o ()}:ES).Mo ⟨sw,pr,ad,po,o.1,o.2.1,o.2.2,false⟩=((i:Int),0):=Z;rw[ha9] at hr hS';simp only[if_true,Int.toNat_natCast] at hS'
  cases hr
  subst hS';have h9:=h7.setB f9 d9 az (λx hx=>aq x hx) am;have hz7:=f7.size;have hzW:=hf.size;have hxz:w.heap.size<=w7.drew.heap.size:=by
   have q1:w7.drew.heap.size=w7.heap.size:=rfl;have q2:W.drew.heap.size=W.heap.size:=rfl;omega
  refine hK w9 _ i o Mi' Mo' ?_ af ho ql h9 ?_ (acL λx hx=>(aq x hx).imp id λhx=>by omega) rfl
  ·have g1:gW w W (jK a):=hf.mono λy hy=>⟨1,.inr (.inl hy)⟩;have g2:gW w w7 (jK a):=(g1.ext (Ext.drew _)).trans f7 λy _ hy=>⟨2,.inr hy⟩;exact(g2.ext (Ext.drew _)).trans f9 λy _ hy=>⟨3,hy⟩
  ·have an:=hg.inv.add af av Mi' Mo';refine⟨an,λk s hs=> ?_,hg.ts,hg.st,hg.lc,hg.wn,hg.le⟩;obtain⟨j,b,hj1,hj2⟩:=hg.sb k s hs;refine⟨j,b,hj1,?_⟩;show (e.S.set i _)[j]? =_;rw[List.getElem?_set];have:¬i=j:=λhc=>by
    rw[<- hc,(Gp.Bind.jr 0 af).2.1] at hj2;cases hj2
   rw[if_neg this];exact hj2
 clear_value J;simp only[sx,h2.c0,r2.cell];have hl1:=hm.l1;have hlh:=hm.lh;have hh1:=hm.h1;have ip1:PO.vg c.lo:=⟨by omega,by omega⟩;have ip2:PO.vg c.hi:=⟨by omega,by omega⟩;refine⟨?_,?_⟩
 ·refine cmS12 (PN.NG h2.pl hp ip1 ip2 O.1 O.2 hm.p1 (f:=sw)) ?_;rintro x y z v w5 ⟨f5,N⟩;refine gq λu w6 r6 e6 z6 f6=> ?_;have aA:a.g<w.heap.size:=h.lt 1 a.g (.inr (.inl rfl));have ag:=(r2.fr f5 (λhe=>by omega)).ext f6;have hE0:w6.cell? ⟨a.x,0,none⟩=some (.pointer (some ⟨a.p,0,none⟩)):=by
   have:=LQ (S:=(·=a.g)) h2.c0 f5 (λhe=>by have:=h.off (j:=1) (k:=0) (b:=a.x) rfl (by decide);exact this (.inr (.inl he)));exact mJ this f6
  have hz:=x2.size;have hz5:=f5.size;have aB:=r2.lt;refine⟨by rw[ag.cell];rfl,by rw[ag.cell];rfl,by rw[ag.cell];rfl,hE0,?_⟩;refine gY r6 rfl rfl λw8 r8 f8 z8=> ?_;have f68:gW w6 w8 (·=u):=f8 (·=u) rfl;rcases N with ⟨o,ho,rfl,rfl,rfl,rfl,U⟩|⟨R,rfl,hx⟩
  ·refine hJ1 u w8 o ho ((x2.fr (f5.ext f6)).trans f68 λy hy he=>by omega) ?_ (ag.fr f68 (by omega)) r8 (by omega);exact(U.ext f6).fr f68 λb hb he=>by
    have:jK a b:=⟨1,hb⟩;obtain⟨k,hk⟩:=this;have:=h.lt k b hk;omega
  ·exact hJ0 u w8 12 (by decide) R (((x2.trans hx).trans f6).nw f68)
 ·refine gq λu w6 r6 e6 z6 f6=> ?_;have h6:=h2.ext f6;have ah:=r2.ext f6;have aA:a.g<w.heap.size:=h.lt 1 a.g (.inr (.inl rfl));have hz:=x2.size;have aB:=r2.lt;refine⟨by rw[ah.cell];rfl,by rw[ah.cell];rfl,by rw[ah.cell];rfl,h6.c0,?_⟩;refine cmS12 (PN.NG h6.pl hp ip1 ip2 O.1 O.2 hm.p1 (f:=sw)) ?_;rintro x y z v w7 ⟨f7,N⟩;have aC:=r6.fr f7 (λhe=>by omega);refine gY aC rfl rfl λw8 r8 f8 z8=> ?_;have f78:gW w7 w8 (·=u):=f8 (·=u) rfl;have aD:=(ah.fr f7 (λhe=>by omega)).fr f78 (by omega);have x6:=x2.trans f6;rcases N with ⟨o,ho,rfl,rfl,rfl,rfl,U⟩|⟨R,rfl,hx⟩
  ·refine hJ1 u w8 o ho ((x6.fr f7).trans f78 λy hy he=>by omega) ?_ aD r8 (by omega);exact U.fr f78 λb hb he=>by
    have:jK a b:=⟨1,hb⟩;obtain⟨k,hk⟩:=this;have:=h.lt k b hk;omega
  ·exact hJ0 u w8 12 (by decide) R ((x6.trans hx).nw f78)
end Go.Proofs.EN
end
section
open List (length_cons)
namespace Gp.V4
theorem MK (l:List UInt8):nN l<256^l.length:=by
 induction l with
 |nil=>simp[nN]
 |cons b l ih=>
  rw[SA,length_cons,Nat.pow_succ];have:=b.toNat_lt;have h2:b.toNat * 256^l.length<=255 * 256^l.length:=Nat.mul_le_mul_right _ (by omega);omega
theorem Ua:∀l:List UInt8,tot l<=65535 * l.length
 |[]=>by simp[tot]
 |[a]=>by have:=a.toNat_lt;simp[tot];omega
 |a::b::r=>by
  have:=a.toNat_lt;have:=b.toNat_lt;have:=Ua r;simp only[tot,length_cons];omega
theorem T_:∀(l m:List UInt8),l.length % 2=0->tot (l++m)=tot l+tot m
 |[],m,_=>by simp[tot]
 |[a],m,h=>by simp at h
 |a::b::r,m,h=>by
  simp only[List.cons_append,tot];rw[T_ r m (by simp at h;omega)];omega
theorem MG (n:Nat):fold n<65536:=by unfold fold;split<;>omega
theorem RI {n:Nat} (h:n<65536):fold n=n:=by unfold fold;split<;>omega
theorem VE {n:Nat} (h:65535<n):fold (n % 65536+n / 65536)=fold n:=by
 unfold fold;rw[if_neg (by omega),if_neg (by omega)];omega
def jG.check (p:jG):Int:=if p.fine then if p.short then 0 else 6 else 1
theorem vX (p:jG) (s:Nat):(p.head s).length=20+p.opts.length:=by
 simp only[jG.head,List.length_append,iG]
def ver (b:List UInt8):Nat:=((b[0]?).getD 0).toNat / 16
def nC (b:List UInt8) (quoted:Bool):Int:=
 if b.length<20 then 3
 else if ver b≠4\/hlen b<20 then 4
 else if b.length<hlen b\/(b.length<num b 2 2/\quoted=false) then 3
 else if num b 2 2<hlen b\/32768<=num b 6 2 then 4
 else 0
def uY (b:List UInt8) (quoted:Bool):Int:=
 if nC b quoted≠0 then nC b quoted
 else if quoted then 0
 else if fold (tot (b.take (hlen b)))≠65535 then 5
 else if (field b).check≠0 then 4
 else 0
def read (b:List UInt8) (quoted:Bool):jG:=if uY b quoted=0 then field b else jG.zero
theorem lN {p:jG} (h:p.check=0):p.fine/\p.short:=by
 unfold jG.check at h;split at h
 ·split at h
  ·exact⟨by assumption,by assumption⟩
  ·omega
 ·omega
theorem Dw {n:Int} (h:iK n 1):0<=n/\n<256:=⟨h.2.1,by have:=h.2.2;simpa using this⟩
theorem head_eq (p:jG) (s:Nat):p.head s=UInt8.ofNat (64+(20+p.opts.length) / 4)::UInt8.ofNat p.tos.toNat::UInt8.ofNat ((20+p.opts.length+p.data.length) / 256)::UInt8.ofNat (20+p.opts.length+p.data.length)::
  UInt8.ofNat (p.id.toNat / 256)::UInt8.ofNat p.id.toNat::UInt8.ofNat (p.bits / 256)::UInt8.ofNat p.bits::UInt8.ofNat p.ttl.toNat::UInt8.ofNat p.proto.toNat::UInt8.ofNat (s / 256)::UInt8.ofNat s::
  UInt8.ofNat (p.src.toNat / 16777216)::UInt8.ofNat (p.src.toNat / 65536)::UInt8.ofNat (p.src.toNat / 256)::UInt8.ofNat p.src.toNat::
  UInt8.ofNat (p.dst.toNat / 16777216)::UInt8.ofNat (p.dst.toNat / 65536)::UInt8.ofNat (p.dst.toNat / 256)::UInt8.ofNat p.dst.toNat::p.opts:=by
 simp[jG.head,jD]
theorem WJ {p:jG} (h:p.fine):p.bits<32768:=by
 obtain⟨_,_,⟨h1,h2,h3,_⟩,_⟩:=h;unfold jG.bits;split<;>split<;>omega
end Gp.V4
end
section
open List (getElem?_cons_zero)
open Option (map_some)
namespace Go.Proofs.VN
open Gp Gp.V4
theorem V_ {w:θ} {s:fU} {l:List UInt8} (h:iq w s l) (hl:l.length<=2^62) (at_ k:Int):Ba s at_ k w λr e w'=>w'=w/\
  if ¬mg k\/at_<0 then e=1/\r=⟨none,0,0⟩ else if (l.length:Int)<at_+k then e=3/\r=⟨none,0,0⟩ else e=0/\iq w r ((l.drop at_.toNat).take k.toNat)/\∀a,s.a=some a->r.a=some (a.add at_.toNat):=by
 apply XD;have hlen:=h.1;refine cmS0 (DT k w) ?_;rintro r w1 ⟨rfl,rfl⟩;by_cases hk:mg k
 ·have hk1:=hk.1;have hk2:=hk.2;by_cases ha:at_<0
  ·simp only[hk,ha,decide_true,Bool.not_true,cond_true,cond_false];exact⟨by trivial,by simp⟩
  ·have hno:¬(¬mg k\/at_<0):=by rintro(h|h)<;>contradiction
   simp only[hk,ha,decide_true,decide_false,Bool.not_true,cond_false,not_true_eq_false,or_self,if_false];by_cases h1:((s.len:Int)<k)
   ·simp only[h1,decide_true,cond_true];exact⟨by trivial,by rw[if_pos (by omega)];exact⟨by trivial,by trivial⟩⟩
   ·simp only[h1,decide_false,cond_false];rw[Α (n:=(s.len:Int) - k) (by omega) (by omega)];by_cases h2:at_>(s.len:Int) - k
    ·simp only[h2,decide_true,cond_true];exact⟨by trivial,by rw[if_pos (by omega)];exact⟨by trivial,by trivial⟩⟩
    ·simp only[h2,decide_false,cond_false];rw[Α (n:=at_+k) (by omega) (by omega)];have hcap:=h.2.2;refine⟨by omega,by omega,by omega,by omega,by trivial,?_⟩;rw[if_neg (by omega)];have hc:=h.cut (lo:=at_.toNat) (hi:=(at_+k).toNat) (by omega) (by omega) (at_+k).toNat (Nat.le_refl _) (at_+k).toNat (λe=>by omega);rw[List.drop_take,show (at_+k).toNat - at_.toNat=k.toNat by omega] at hc;refine⟨by trivial,?_,λa u=> ?_⟩
     ·rw[show (at_+k).toNat - at_.toNat=k.toNat by omega];exact hc
     ·have I:¬((at_+k).toNat=at_.toNat):=by omega
      simp only[qm,I,if_false,u,map_some,Nat.mul_one]
 ·simp only[hk,decide_false,Bool.not_false,cond_true];exact⟨by trivial,by simp⟩
theorem ZN {n x:Nat} (hn:n<2^40) (hx:x<256):Ql .i64 (FU .i64 (n:Int) 8) (x:Int)=((n * 256+x:Nat):Int):=by
 have e0:FU .i64 (n:Int) 8=((n * 256:Nat):Int):=by
  unfold FU;have:(2:Int)^(min (8:Int).toNat (IntKind.bits .i64))=256:=by decide
  rw[this,Α];omega
 rw[e0];unfold Ql;have eb:IntKind.bits .i64=64:=rfl;have h1:(BitVec.ofInt (IntKind.bits .i64) ((n * 256:Nat):Int)).toNat=n * 256:=by
  rw[eb,BitVec.toNat_ofInt];omega
 have h2:(BitVec.ofInt (IntKind.bits .i64) (x:Int)).toNat=x:=by
  rw[eb,BitVec.toNat_ofInt];omega
 rw[BitVec.toNat_or,h1,h2];have h3:n * 256|||x=n * 256+x:=by
  have:=Nat.two_pow_add_eq_or_of_lt (i:=8) (b:=x) (by omega) n;rw[show (2:Nat)^8=256 by decide] at this;rw[Nat.mul_comm n 256,this]
 rw[h3,Α]
theorem SB {l:List UInt8} (h:l.length<=4):nN l<2^32:=by
 have h1:=MK l;have:(256:Nat)^l.length<=256^4:=Nat.pow_le_pow_right (by omega) h;have e:(256:Nat)^4=4294967296:=by decide
 omega
theorem aat (l:List UInt8) {i:Nat} (h:i<l.length):nN (l.take (i+1))=nN (l.take i) * 256+l[i].toNat:=by
 unfold nN;rw[take_succ_eq_append_getElem h,List.foldl_append];rfl
def Ot (l:List UInt8) (at_ k:Int) (n e:Int):Prop:=
 if ¬mg k\/at_<0 then e=1/\n=0 else if (l.length:Int)<at_+k then e=3/\n=0 else e=0/\n=(num l at_.toNat k.toNat:Int)
theorem GK {w:θ} {s:fU} {l:List UInt8} (h:iq w s l) (hl:l.length<=2^62) (at_ k:Int):tC s at_ k w λn e w'=>w'=w/\Ot l at_ k n e:=by
 apply acG;refine cmS3 (V_ h hl at_ k) ?_;rintro r e w1 ⟨rfl,hr⟩;have main:∀(m:List UInt8),iq w1 r m->m.length<=4->∀(K:Int->Prop),K (nN m:Int)->iW (S:=Int×Int×Unit) (λs7 w8 next9=>
   (bif (decide (s7.2.1<(r.len:Int))) then
    iM r 1 s7.2.1 λN=>Ld (.int .u8) w8 N λO=>0<=(8:Int)/\next9 ((Ql .i64 (FU .i64 s7.1 8) (ο.wrap O)),(ο.wrap (s7.2.1+1)),()) w8
   else (w8=w1/\K s7.1))) (0,0,()) w1:=by
  intro m hm hm4 K hK;have hml:=hm.1;refine gX (λst W=>W=w1/\∃i:Nat,i<=m.length/\st.2.1=i/\st.1=(nN (m.take i):Int)) (λst _=>m.length - st.2.1.toNat) ⟨rfl,0,by omega,rfl,rfl⟩ ?_;rintro⟨n,j,⟨⟩⟩ W ⟨rfl,i,hi,rfl,rfl⟩ next I
  by_cases J:i<m.length
  ·have u:((i:Int)<(r.len:Int)):=by omega
   simp only[u,decide_true,cond_true];obtain⟨a,ha,hc⟩:=hm.at_ (List.getElem?_eq_getElem J);refine⟨a,ha,by omega,by omega,?_⟩;simp only[sx,Int.toNat_natCast,Nat.mul_one,hc];refine⟨by omega,?_⟩;have hb:=m[i].toNat_lt;have hn2:nN (m.take i)<2^32:=SB (by simp;omega);rw[Α (n:=((m[i].toNat:Nat):Int)) (by omega) (by omega),ZN (by omega) (by omega),Α];refine I _ _ ⟨rfl,i+1,by omega,by simp,?_⟩ (by simp only;omega);simp only[aat _ J]
  ·have u:¬((i:Int)<(r.len:Int)):=by omega
   simp only[u,decide_false,cond_false];have:i=m.length:=by omega
   subst this;rw[take_length];exact⟨trivial,hK⟩
 by_cases c1:¬mg k\/at_<0
 ·rw[if_pos c1] at hr;obtain⟨rfl,rfl⟩:=hr;exact main [] iq.nil (by simp) (λn=>Ot l at_ k n 1) (by unfold Ot;rw[if_pos c1];exact⟨rfl,rfl⟩)
 ·rw[if_neg c1] at hr;by_cases c2:(l.length:Int)<at_+k
  ·rw[if_pos c2] at hr;obtain⟨rfl,rfl⟩:=hr;exact main [] iq.nil (by simp) (λn=>Ot l at_ k n 3) (by unfold Ot;rw[if_neg c1,if_pos c2];exact⟨rfl,rfl⟩)
  ·rw[if_neg c2] at hr;obtain⟨rfl,hr,_⟩:=hr;refine main _ hr ?_ (λn=>Ot l at_ k n 0) (by unfold Ot;rw[if_neg c1,if_neg c2];exact⟨rfl,rfl⟩);have hk:mg k:=Classical.byContradiction λh=>c1 (.inl h);have:=hk.2;simp;omega
theorem Xf {l:List UInt8} {at_ k:Nat} {n e:Int} (hk:1<=k/\k<=4) (h:at_+k<=l.length) (hr:Ot l at_ k n e):n=(num l at_ k:Int):=by
 unfold Ot at hr;rw[if_neg (by unfold mg;omega),if_neg (by omega)] at hr;simpa using hr.2
theorem D8 {w0 w:θ} {s:fU} {v:Value} {l m:List UInt8} (hs:Buf w s (bytesV l)) (hv:Qs w0 w v m) (hd:∀b,fU.at s b->¬(w0.heap.size<=b/\b<w.heap.size)) (hl:l.length+m.length<=2^46):
  jA s v w λr w'=>Buf w' r (bytesV (l++m))/\gW w w' (fU.at s)/\(∀b,fU.at r b->fU.at s b\/w.heap.size<=b)/\(r.a=none->l++m=[]/\s.a=none):=by
 obtain⟨C,hi,hC⟩:=hv;apply oO;refine⟨rfl,gq λa w1 r1 e1 z1 f1=> ?_⟩;have hlen:(yB m).length=m.length:=by simp[yB]
 have u:∀b,fU.at s b->b<w.heap.size:=λb hb=>hs.lt hb;refine wz hi (λi W=>∃t:fU,Row W a [Δ t]/\Buf W t (bytesV (l++m.take i))/\gW w W (fU.at s)/\(∀b,fU.at t b->fU.at s b\/(w.heap.size<=b/\b≠a/\b≠lC none w1/\b≠w1.heap.size))/\(t.a=none->l++m.take i=[]/\s.a=none)/\lC none w1<W.heap.size)
  (λ_ _=>False) (by simp) ?_ ?_ ?_ (by intro e W W' h;exact h.elim) (by intro e W h;exact h.elim) ?_ ?_ (by intro W h;exact h.elim) (by intro id W h;exact h.elim)
 ·intro w2 f2 z2;refine⟨s,r1.ext f2,by simpa using (hs.ext f1).ext f2,(f1.trans f2) _,λb hb=> .inl hb,?_,by omega⟩;simp only[List.take_zero,List.append_nil];intro ha;obtain⟨_,⟨_,h2,_⟩|⟨c,pad,h2,_⟩⟩:=hs
  ·exact⟨by simpa [bytesV] using h2,ha⟩
  ·rw[ha] at h2;cases h2
 ·rintro i W ⟨t,_,_,hf,_⟩;exact hC W _ hf λb h1 h2 h3=>hd b h3 ⟨h1,h2⟩
 ·rintro i W W' ⟨t,h1,h2,h3,h4,h5,h6⟩ hf;have J:lC none w1=w1.heap.size+1:=rfl;refine⟨t,h1.fr hf (by omega),h2.fr hf λb hb e=> ?_,h3.trans hf (λb hb e=>by omega),h4,h5,by have:=hf.size;omega⟩;rcases h4 b hb with h|h
  ·have:=u b h;omega
  ·omega
 ·intro i x W Kb hx ⟨t,h1,h2,h3,h4,h5,h6⟩ hlt I _;refine⟨rfl,?_⟩;have J:lC none w1=w1.heap.size+1:=rfl;rw[aaS] at hx
  cases hb:m[i]? with
  |none=>rw[hb] at hx;simp at hx
  |some y=>
  rw[hb] at hx;simp only[map_some,Option.some.injEq] at hx;subst hx;have fb:=gW.gG W (lC none w1);have h1':=h1.fr fb (by omega);have h2':Buf (gG W (lC none w1)) t (bytesV (l++m.take i)):=h2.fr fb λb hb e=>by
   rcases h4 b hb with h|h
   ·have:=u b h;omega
   ·omega
  simp only[sx,getElem?_cons_zero,h1'.cell];have N:i<m.length:=(List.getElem?_eq_some_iff.1 hb).1;refine gq λc w3 r3 e3 z3 f3=> ?_;have hz3:w3.heap.size=W.heap.size+1:=by rw[z3,e3];simp[gG]
  have hx3:iq w3 ⟨some ⟨c,0,none⟩,1,1⟩ [y]:= .iD (iq.row (l:=[y]) (by simpa [bytesV] using r3));have h2'':=h2'.ext f3;refine jd h2'' hx3 (by simp;omega) λs' w4 b4 f4 p4 n4=> ?_;have O:¬fU.at t a:=λh=>by
   rcases h4 a h with h|h
   ·have:=u a h;omega
   ·exact h.2.1 rfl
  have h1'':=(h1'.ext f3).fr f4 O;refine g_ h1'' rfl (by simp) λw5 r5 f5 z5=> ?_;simp only[List.set_cons_zero] at r5;have hbz:(gG W (lC none w1)).heap.size=W.heap.size:=by simp[gG]
  have R:∀b,fU.at s' b->b≠a:=λb hb e=>by
   rcases p4 b hb with h|h
   ·exact O (e ▸ h)
   ·have:=h1.lt;omega
  refine I w5 (λb=>fU.at t b\/b=a) ?_ ?_ ⟨s',r5,?_,?_,?_,?_,?_⟩
  ·exact((f3 _).trans (f4.mono λb h=> .inl h) λ_ _ e=>e).trans (f5 (λb=>fU.at t b\/b=a) (.inr rfl)) λ_ _ e=>e
  ·rintro b hb1 hb2 (h|h)
   ·rcases h4 b h with h|h
    ·have:=u b h;omega
    ·rcases Nat.lt_or_ge b (lC none w1) with hx|hx<;>omega
   ·omega
  ·have e:l++m.take (i+1)=l++m.take i++[y]:=by
    rw[take_succ_eq_append_getElem N];have:m[i]=y:=by rw[List.getElem?_eq_getElem N] at hb;simpa using hb
    simp[this]
   rw[e];exact b4.fr (f5 (·=a) rfl) λb hb e=>R b hb e
  ·refine((h3.trans fb λb hb e=>by omega).ext f3).trans (S':=λb=>fU.at t b\/b=a) ((f4.mono λb h=> .inl h).trans (f5 (λb=>fU.at t b\/b=a) (.inr rfl)) λ_ _ e=>e) ?_;rintro b hb (h|h)
   ·rcases h4 b h with h|h
    ·exact h
    ·omega
   ·omega
  ·intro b hb;rcases p4 b hb with h|h
   ·exact h4 b h
   ·refine .inr ⟨by have:=h3.size;omega,R b hb,?_,?_⟩<;>omega
  ·intro ha;obtain⟨h1,h2⟩:=n4 ha;simp at h1
  ·have:=f4.size;omega
 ·rintro W ⟨t,h1,h2,h3,h4,h5,h6⟩ hm;have J:lC none w1=w1.heap.size+1:=rfl;simp only[sx,getElem?_cons_zero,h1.cell];rw[hlen,take_length] at h2 h5;refine⟨hm rfl,?_,?_,?_,h5⟩
  ·exact h2.fr (gW.qV _ _ _) λb hb e=>by
    rcases h4 b hb with h|h
    ·have:=u b h;omega
    ·omega
  ·exact h3.trans (gW.qV _ _ _) λb hb e=>by omega
  ·intro b hb;rcases h4 b hb with h|h
   ·exact .inl h
   ·exact .inr h.1
end Go.Proofs.VN
end
section
open List (getElem?_eq_getElem map_cons)
open Int (toNat_natCast)
namespace Go.Proofs.VN
open Gp Gp.V4
theorem Ϧ {w0 w:θ} {v:Value} {m:List UInt8} (hv:Qs w0 w v m) (hl:m.length<=2^46):
  qh v w λr w'=>Buf w' r (bytesV m)/\Ext w w'/\(∀b,fU.at r b->w.heap.size<=b):=by
 apply EY;refine cmS2 (D8 (l:=[]) Buf.nil hv (by rintro b ⟨o,h⟩;cases h) (by simpa using hl)) ?_;rintro r w1 ⟨h1,f1,h2,_⟩;refine⟨by simpa using h1,f1.new ?_,λb hb=> ?_⟩
 ·rintro b _ ⟨o,h⟩;cases h
 ·rcases h2 b hb with ⟨o,h⟩|h
  ·cases h
  ·exact h
theorem set_mid {α:Type} (A:List α) (ys:List α) (R:List α) {i:Nat} {y:α} (hi:ys[i]? =some y) (hR:0<R.length):
  (A++ys.take i++R).set (A.length+i) y=A++ys.take (i+1)++R.drop 1:=by
 have u:=(List.getElem?_eq_some_iff.1 hi).1;have e:(A++ys.take i).length=A.length+i:=by simp;omega
 rw[List.set_append_right _ _ (by omega),e,Nat.sub_self]
 cases R with
 |nil=>simp at hR
 |cons r R=>
  simp only[List.set_cons_zero,List.drop_succ_cons,List.drop_zero];rw[take_succ_eq_append_getElem u];have:ys[i]=y:=by rw[getElem?_eq_getElem u] at hi;simpa using hi
  simp[this]
structure aiT (l:List UInt8) (at_ n k:Int) (w:θ) (r:fU) (e:Int):Prop where
 out:if ¬iK n k\/at_<0 then e=1/\r=⟨none,0,0⟩ else if (l.length:Int)<at_+k then e=3/\r=⟨none,0,0⟩ else e=0/\Buf w r (bytesV (l.take at_.toNat++jD k.toNat n.toNat++l.drop (at_.toNat+k.toNat)))
theorem O5 {w:θ} {s:fU} {l:List UInt8} (hs:iq w s l) (hl:l.length<=2^46) (at_ n k:Int):
  vH s at_ n k w λr e w'=>aiT l at_ n k w' r e/\Ext w w'/\(∀b,fU.at r b->w.heap.size<=b):=by
 apply acI;refine cmS0 (mO n k w) ?_;rintro _ _ ⟨rfl,rfl⟩;by_cases hf:iK n k
 ·simp only[hf,decide_true,Bool.not_true,cond_false];refine cmS2 (kC hs (by omega)) ?_;rintro r w1 ⟨b1,_,f1,n1⟩;have hk:=hf.1;refine cmS3 (V_ (iq.iD b1) (by omega) at_ k) ?_;rintro r2 e w2 ⟨rfl,hr⟩;by_cases c1:at_<0
  ·rw[if_pos (.inr c1)] at hr;obtain⟨rfl,rfl⟩:=hr;refine⟨?_,f1,by rintro b ⟨o,h⟩;cases h⟩;refine⟨?_⟩;rw[if_pos (.inr c1)];exact⟨rfl,rfl⟩
  have c1':¬(¬mg k\/at_<0):=by rintro(h|h)<;>contradiction
  have c1'':¬(¬iK n k\/at_<0):=by rintro(h|h)<;>contradiction
  rw[if_neg c1'] at hr;by_cases c2:(l.length:Int)<at_+k
  ·rw[if_pos c2] at hr;obtain⟨rfl,rfl⟩:=hr;refine⟨?_,f1,by rintro b ⟨o,h⟩;cases h⟩;refine⟨?_⟩;rw[if_neg c1'',if_pos c2];exact⟨rfl,rfl⟩
  rw[if_neg c2] at hr;obtain⟨rfl,hr,ha⟩:=hr;simp only[show ((0:Int) !=0)=false from rfl,cond_false];refine cmS5 (Vx hk hf.2.1 _) ?_;rintro v w3 ⟨f3,hv⟩;refine cmS2 (Ϧ hv (by rw[iG];have:=hk.2;omega)) ?_;rintro q w4 ⟨b4,f4,n4⟩;obtain⟨m,rfl⟩:∃m:Nat,k=(m:Int):=⟨k.toNat,by have:=hk.1;omega⟩;obtain⟨o,rfl⟩:∃o:Nat,at_=(o:Int):=⟨at_.toNat,by omega⟩;simp only[toNat_natCast] at hr ha b4;have hq:=b4.1;rw[iU,iG] at hq;have N:(jD m n.toNat).length=m:=iG _ _;have O:=hr.1;simp only[length_take,length_drop] at O;have R:∀b,fU.at q b->¬fU.at r b:=λb h1 h2=>by
   have:=n4 b h1;have:=b1.lt h2;have:=f3.size;omega
  refine gX (λst W=>∃i:Nat,i<=m/\st.1=i/\Buf W r (bytesV (l.take o++(jD m n.toNat).take i++l.drop (o+i)))/\Buf W q (bytesV (jD m n.toNat))/\gW w4 W (fU.at r))
   (λst _=>m - st.1.toNat) ⟨0,by omega,rfl,by simpa using (b1.ext f3).ext f4,b4,gW.refl _ _⟩ ?_
  rintro⟨x,⟨⟩⟩ W ⟨i,hi,rfl,h1,h2,h3⟩ next I
  by_cases U:i<m
  ·have u:((i:Int)<(q.len:Int)):=by omega
   simp only[u,decide_true,cond_true];have hy:(jD m n.toNat)[i]? =some (jD m n.toNat)[i]:=getElem?_eq_getElem (by rw[N];exact U);obtain⟨a,Y,hc⟩:=(iq.iD h2).at_ hy;refine⟨a,Y,by omega,by omega,?_⟩;simp only[sx,toNat_natCast,Nat.mul_one,hc];have hol:o+i<l.length:=by omega
   obtain⟨b,hb,J⟩:=h1.set (i:=o+i) (by simp[iU,N];omega);have Z:=ha _ hb;refine⟨_,Z,by omega,by omega,?_⟩;rw[NQ];simp only[sx,toNat_natCast,Nat.mul_one];refine J _ _ rfl λw5 b5 f5 z5=> ?_;rw[Α];refine I _ _ ⟨i+1,by omega,by simp,?_,h2.fr f5 (λb hb h=>R b hb h),h3.trans f5 λ_ _ h=>h⟩ (by simp only;omega);have e:=set_mid (l.take o) (jD m n.toNat) (l.drop (o+i)) hy (by simp;omega);rw[length_take,Nat.min_eq_left (by omega)] at e;have e':(bytesV (l.take o++(jD m n.toNat).take i++l.drop (o+i))).set (o+i) (.int .u8 (jD m n.toNat)[i].toNat)=bytesV (l.take o++(jD m n.toNat).take (i+1)++l.drop (o+(i+1))):=by
    rw[show l.drop (o+(i+1))=(l.drop (o+i)).drop 1 by rw[List.drop_drop];rfl,<- e];unfold bytesV;rw[List.map_set]
   rw[e'] at b5;exact b5
  ·have u:¬((i:Int)<(q.len:Int)):=by omega
   simp only[u,decide_false,cond_false];have:i=m:=by omega
   subst this;refine⟨?_,((f1.trans f3).trans f4).new h3 λb hb h=>by have:=n1 b h;omega,n1⟩;refine⟨?_⟩;rw[if_neg c1'',if_neg c2];refine⟨rfl,?_⟩;rw[List.take_of_length_le (l:=jD i n.toNat) (by omega)] at h1;simpa using h1
 ·simp only[hf,decide_false,Bool.not_false,cond_true];refine⟨?_,Ext.refl _,by rintro b ⟨o,h⟩;cases h⟩;refine⟨?_⟩;rw[if_pos (.inl hf)];exact⟨rfl,rfl⟩
theorem Nz {l:List UInt8} {at_ n k:Int} {w:θ} {r:fU} {e:Int} (h1:iK n k) (h2:0<=at_) (h3:at_+k<=l.length) (h:aiT l at_ n k w r e):e=0/\Buf w r (bytesV (l.take at_.toNat++jD k.toNat n.toNat++l.drop (at_.toNat+k.toNat))):=by
 have:=h.out
 rwa [if_neg (by rintro(h|h);exact h h1;omega),if_neg (by omega)] at this
def wordAt (l:List UInt8) (j:Nat):Nat:=((l[j]?).getD 0).toNat * 256+((l[j+1]?).getD 0).toNat
def wB (l:List UInt8):List (yu [.one ν,.one ν]):=(List.range ((l.length+1) / 2)).map λi=>(((2 * i:Nat):Int),((wordAt l (2 * i):Nat):Int),())
theorem O_ (l:List UInt8):(wB l).length=(l.length+1) / 2:=by simp[wB]
theorem Yn (l:List UInt8) {i:Nat} (h:2 * i<l.length):(wB l)[i]? =some (((2 * i:Nat):Int),((wordAt l (2 * i):Nat):Int),()):=by
 simp only[wB,List.getElem?_map];rw[List.getElem?_range (by omega)];rfl
theorem Τ (l:List UInt8) {i:Nat} (h:2 * i<l.length):tot (l.take (2 * (i+1)))=tot (l.take (2 * i))+wordAt l (2 * i):=by
 have e:l.take (2 * (i+1))=l.take (2 * i)++(l.drop (2 * i)).take 2:=by
  rw[Nat.mul_add,List.take_add]
 rw[e,T_ _ _ (by simp;omega)];congr 1;unfold wordAt;rw[<- List.getElem?_drop,show l[2 * i]? =(l.drop (2 * i))[0]? by simp]
 match hd:l.drop (2 * i) with
 |[]=>have h3:=congrArg List.length hd;rw[length_drop] at h3;simp only[List.length_nil] at h3;omega
 |[a]=>simp[tot]
 |a::b::r=>simp[tot]
theorem DW (l:List UInt8) (j:Nat):wordAt l j<65536:=by
 unfold wordAt;have h1:=((l[j]?).getD 0).toNat_lt;have h2:=((l[j+1]?).getD 0).toNat_lt;omega
theorem LC {s:fU} {f0:Nat} {l:List UInt8} (hl:l.length<=2^46):
  oP υ [.one ν,.one ν] (Value.func (.func Xz) #[] #[(Value.pointer (some ⟨f0,0,none⟩))])
   (λW=>Row W f0 [Δ s]/\iq W s l) (wB l):=by
 refine⟨by kernel_rfl,λn Q D hC hQ hD hy w h0=> ?_⟩;refine Calls.mono (UH (a0:= .func (.yield n) #[] #[]) (f0:=⟨f0,0,none⟩) (K:=λw'=>Q (wB l).length w'\/D w') ?_) (λe w' h=>h);rw[O_];refine gX (λst W=>∃i:Nat,i<=(l.length+1) / 2/\st.1=((2 * i:Nat):Int)/\Q i W) (λst _=>l.length+1 - st.1.toNat) ⟨0,by omega,rfl,h0⟩ ?_;rintro⟨x,⟨⟩⟩ W ⟨i,hi,rfl,hq⟩ next J
 obtain⟨r0,hs⟩:=hC _ _ hq;have hsl:=hs.1;simp only[sx,r0.cell];by_cases O:2 * i<l.length
 ·have I:(((2 * i:Nat):Int)<(s.len:Int)):=by omega
  simp only[I,decide_true,cond_true];obtain⟨a,ha,hc⟩:=hs.at_ (getElem?_eq_getElem O);refine⟨a,ha,by omega,by omega,?_⟩;rw[toNat_natCast];simp only[Nat.mul_one,f_,gJ,hc];refine⟨by omega,?_⟩;have hb:=l[2 * i].toNat_lt;have fin:jy υ [.one .bool] (.func (.yield n) #[] #[]) [Β ((2 * i:Nat):Int),Β ((wordAt l (2 * i):Nat):Int)] W (λY R=>
    ∃U:Bool,Y=(Value.bool U)/\(bif (!U) then (Q ((l.length+1) / 2) R\/D R) else next ((ο.wrap (((2 * i:Nat):Int)+2)),()) R)):=by
   refine kR (hy i (((2 * i:Nat):Int),((wordAt l (2 * i):Nat):Int),()) W _ (Yn l O) hq ?_ ?_)
   ·intro W' hq';refine⟨true,rfl,?_⟩;simp only[Bool.not_true,cond_false];rw[Α];exact J _ _ ⟨i+1,by omega,by simp only;omega,hq'⟩ (by simp only;omega)
   ·intro W' hd;refine⟨false,rfl,?_⟩;simp only[Bool.not_false,cond_true];exact .inr hd
  rw[Α (n:=((2 * i:Nat):Int)+1) (by omega) (by omega),Α (n:=(l[2 * i].toNat:Int)) (by omega) (by omega)];by_cases N:2 * i+1<l.length
  ·have u:(((2 * i:Nat):Int)+1<(s.len:Int)):=by omega
   simp only[u,decide_true,cond_true];obtain⟨a',ha',hc'⟩:=hs.at_ (getElem?_eq_getElem N);refine⟨a',ha',by omega,by omega,?_⟩;rw[show (((2 * i:Nat):Int)+1).toNat=2 * i+1 by omega];simp only[Nat.mul_one,f_,gJ,hc'];have hb':=l[2 * i+1].toNat_lt;rw[Α (n:=(l[2 * i+1].toNat:Int)) (by omega) (by omega),ZN (by omega) (by omega)];have e:wordAt l (2 * i)=l[2 * i].toNat * 256+l[2 * i+1].toNat:=by
    unfold wordAt;rw[getElem?_eq_getElem O,getElem?_eq_getElem N];rfl
   rw[e] at fin;exact fin
  ·have u:¬(((2 * i:Nat):Int)+1<(s.len:Int)):=by omega
   simp only[u,decide_false,cond_false];have e0:FU .i64 (l[2 * i].toNat:Int) 8=((l[2 * i].toNat * 256:Nat):Int):=by
    have:=abv (a:=l[2 * i].toNat) (k:=8) (by omega) (by omega);simpa using this
   rw[e0];have e:wordAt l (2 * i)=l[2 * i].toNat * 256:=by
    unfold wordAt;rw[getElem?_eq_getElem O,List.getElem?_eq_none (by omega)];simp
   rw[e] at fin;exact fin
 ·have I:¬(((2 * i:Nat):Int)<(s.len:Int)):=by omega
  simp only[I,decide_false,cond_false];have:i=(l.length+1) / 2:=by omega
  subst this;exact .inl hq
def Parts (w:θ) (s:fU) (ps:List (fU×List UInt8)):Prop:=
 s.len=ps.length/\(∀i p,ps[i]? =some p->∃b o,s.a=some ⟨b,o,none⟩/\w.cell? ⟨b,o+i,none⟩=some (.slice p.1.a p.1.len p.1.cap)/\iq w p.1 p.2)
theorem Parts.fr {w w':θ} {s:fU} {ps:List (fU×List UInt8)} (h:Parts w s ps) (hf:Ext w w'):Parts w' s ps:=
 ⟨h.1,λi p hi=>by obtain⟨b,o,h1,h2,h3⟩:=h.2 i p hi;exact⟨b,o,h1,mJ h2 hf,h3.ext hf⟩⟩
def qE (ps:List (fU×List UInt8)):Nat:=(ps.map λp=>tot p.2).foldr (·+·) 0
theorem V7 {ps:List (fU×List UInt8)} {i:Nat} {p:fU×List UInt8} (h:ps[i]? =some p):qE (ps.take (i+1))=qE (ps.take i)+tot p.2:=by
 have u:=(List.getElem?_eq_some_iff.1 h).1;rw[take_succ_eq_append_getElem u];have:ps[i]=p:=by rw[getElem?_eq_getElem u] at h;simpa using h
 rw[this];unfold qE;generalize ps.take i=q
 induction q with
 |nil=>simp
 |cons x q ih=>simp only[List.map_append,List.cons_append,map_cons,List.foldr_cons,List.foldr_append] at ih ⊢;simp at ih ⊢;omega
theorem abB {ps:List (fU×List UInt8)} {n:Nat} (h:∀p∈ps,p.2.length<=n):qE ps<=ps.length * (65535 * n):=by
 unfold qE
 induction ps with
 |nil=>simp
 |cons p ps ih=>
  simp only[map_cons,List.foldr_cons,List.length_cons];have h1:=Ua p.2;have h2:=h p (List.mem_cons_self ..);have h3:=ih λq hq=>h q (List.mem_cons_of_mem _ hq);have h4:65535 * p.2.length<=65535 * n:=Nat.mul_le_mul_left _ h2;rw[Nat.add_mul];omega
theorem Υ {w:θ} {s:fU} {ps:List (fU×List UInt8)} (hs:Parts w s ps) (hn:ps.length<=64) (hl:∀p∈ps,p.2.length<=2^40):
  Bl s w λr w'=>r=(qE ps:Int)/\Ext w w':=by
 apply XR;refine gq λa w1 r1 e1 z1 f1=> ?_;refine g_ r1 rfl (by simp) λw2 r2 f2 z2=> ?_;have hsl:=hs.1;have x2:Ext w w2:=f1.new (f2 (·=a) rfl) λb hb e=>by omega
 have N:∀i,qE (ps.take i)<=2^62:=λi=>by
  have h1:=abB (ps:=ps.take i) (n:=2^40) λp hp=>hl p (List.mem_of_mem_take hp);have h2:(ps.take i).length<=64:=by simp;omega
  have h3:(ps.take i).length * (65535 * 2^40)<=64 * (65535 * 2^40):=Nat.mul_le_mul_right _ h2;omega
 refine gX (λst W=>∃i:Nat,i<=ps.length/\st.1.1=i/\Row W a [Β (qE (ps.take i):Int)]/\Ext w W/\(∀d∈st.2,w2.heap.size<=d/\d<W.heap.size/\W.heap[d]? =some (.deferred (some [])))/\st.2.Nodup/\w2.heap.size<=W.heap.size)
  (λst _=>ps.length - st.1.1.toNat) ⟨0,by omega,rfl,by simpa [qE] using r2,x2,by simp,by simp,Nat.le_refl _⟩ ?_
 rintro⟨⟨x,⟨⟩⟩,ds⟩ W ⟨i,hi,rfl,h1,h2,h3,h4,h5⟩ next I
 by_cases R:i<ps.length
 ·have u:((i:Int)<(s.len:Int)):=by omega
  simp only[u,decide_true,cond_true];obtain⟨b,o,ha,hc,hb⟩:=(hs.fr h2).2 i _ (getElem?_eq_getElem R);refine⟨_,ha,by omega,by omega,?_⟩;simp only[sx,toNat_natCast,Nat.mul_one,hc];generalize hp:ps[i]=p at hc hb;have O:ps[i]? =some p:=by rw[getElem?_eq_getElem R,hp]
  have hpl:=hl p (List.mem_of_getElem? O);apply G6;refine⟨rfl,gq λc w3 r3 e3 z3 f3=> ?_⟩;have U:∀j,tot (p.2.take j)<=2^60:=λj=>by
   have:=Ua (p.2.take j);have e:(p.2.take j).length<=2^40:=by simp;omega
   have:65535 * (p.2.take j).length<=65535 * 2^40:=Nat.mul_le_mul_left _ e;omega
  have haw:a<w2.heap.size:=by omega
  have hla:lC none w3=w3.heap.size+1:=rfl;have hsz:=h2.size;have Y:∀a',p.1.a=some a'->0<p.2.length->a'.block<w.heap.size:=λa' h h'=>by
   obtain⟨b',o',_,_,hb'⟩:=hs.2 i p O;exact hb'.lt h h'
  refine wz (LC (s:=p.1) (l:=p.2) (by omega)) (λj W'=>Row W' a [Β ((qE (ps.take i)+tot (p.2.take (2 * j)):Nat):Int)]/\gW w3 W' (·=a)/\w3.heap.size+2<=W'.heap.size)
   (λ_ _=>False) (by simp) ?_ ?_ ?_ (by intro e W W' h;exact h.elim) (by intro e W h;exact h.elim) ?_ ?_ (by intro W h;exact h.elim) (by intro id W h;exact h.elim)
  ·intro w4 f4 z4;exact⟨by simpa [tot] using (h1.ext f3).ext f4,f4 _,by omega⟩
  ·exact λj W' h=>⟨r3.fr h.2.1 (by omega),(hb.ext f3).fr h.2.1 λa' ha' hl' e=>by have:=Y a' ha' hl';omega⟩
  ·rintro j W' W'' ⟨g1,g5,g6⟩ hf;exact⟨g1.fr hf (by omega),g5.trans hf λb hb e=>by omega,by have:=hf.size;omega⟩
  ·intro j x W' Kb hx ⟨g1,g5,g6⟩ hlt3 J _;refine⟨by trivial,?_⟩;have hj:2 * j<p.2.length:=by
    have:=(List.getElem?_eq_some_iff.1 hx).1;rw[O_] at this;omega
   rw[Yn _ hj] at hx;simp only[Option.some.injEq] at hx;subst hx;have fb:=gW.gG W' (lC none w3);have g1':=g1.fr fb (by omega);simp only[List.getElem?_cons_zero,f_,gJ,g1'.cell];refine g_ g1' rfl (by simp) λw5 r5 f5 z5=> ?_;refine J w5 (·=a) (f5 _ rfl) (λb hb1 hb2 e=>by omega) ⟨?_,(g5.trans fb λb hb e=>by omega).trans (f5 (·=a) rfl) λb hb e=>e,by simp[gG] at z5;omega⟩;simp only[List.set_cons_zero] at r5;have:=N i;have:=U (2 * j);have:=DW p.2 (2 * j);rw[Α] at r5;rw[Τ _ hj];have e:((qE (ps.take i)+tot (p.2.take (2 * j)):Nat):Int)+((wordAt p.2 (2 * j):Nat):Int)=((qE (ps.take i)+(tot (p.2.take (2 * j))+wordAt p.2 (2 * j)):Nat):Int):=by omega
   rw[e] at r5;exact r5
  ·rintro W' ⟨g1,g5,g6⟩ hm;have Z:=hm rfl;rw[O_,List.take_of_length_le (l:=p.2) (by omega)] at g1;rw[Α];have hx:Ext w W':=(h2.trans f3).new g5 λb hb e=>by omega
   refine I _ _ ⟨i+1,by omega,by simp,by rw[V7 O];exact g1,hx,?_,?_,by omega⟩ (by simp only;omega)
   ·intro d hd;rcases List.mem_cons.1 hd with rfl|hd
    ·exact⟨by omega,by omega,Z⟩
    ·obtain⟨q1,q2,q3⟩:=h3 d hd;refine⟨q1,by omega,?_⟩;rw[g5.same d (by omega) (by omega),(f3 λ_=>False).same d (by omega) (by simp)];exact q3
   ·refine List.nodup_cons.2 ⟨λhd=> ?_,h4⟩;have:=(h3 _ hd).2.1;omega
 ·have u:¬((i:Int)<(s.len:Int)):=by omega
  simp only[u,decide_false,cond_false];have:i=ps.length:=by omega
  subst this;rw[take_length] at h1;simp only[sx,h1.cell];refine Dq (n:=w2.heap.size) ds W (λd hd=>⟨(h3 d hd).1,(h3 d hd).2.2⟩) h4 λw6 f6 z6=>⟨by trivial,h2.new f6 λb hb e=>by omega⟩
end Go.Proofs.VN
end
section
namespace Go.Proofs.VN
open Gp Gp.V4
theorem abb {m:Nat} (hm:m<2^62) (w:θ):EC (m:Int) w λr w'=>r=(fold m:Int)/\w'=w:=by
 apply ZB;have h0:¬((0:Int)>(m:Int)):=by omega
 simp only[h0,if_false];refine gX (λst W=>W=w/\∃x:Nat,x<2^62/\st.1=(x:Int)/\fold x=fold m) (λst _=>st.1.toNat) ⟨rfl,m,hm,rfl,rfl⟩ ?_;rintro⟨x,⟨⟩⟩ W ⟨rfl,n,hn,rfl,hf⟩ next I
 by_cases J:65535<n
 ·have u:((n:Int)>65535):=by omega
  simp only[u,decide_true,cond_true];refine⟨by omega,?_⟩;have e1:kF .i64 (n:Int) 65535=((n % 65536:Nat):Int):=by
   have:=D7 (a:=n) (b:=65535) (by omega) (by omega);rw[show (65535:Nat)=2^16 - 1 by decide,AZ] at this;exact this
  have e2:jH .i64 (n:Int) 16=((n / 65536:Nat):Int):=xM (a:=n) (k:=16) (by omega);rw[e1,e2,Α];exact I _ _ ⟨rfl,n % 65536+n / 65536,by omega,by simp only;omega,by rw[VE J,hf]⟩ (by simp only;omega)
 ·have u:¬((n:Int)>65535):=by omega
  simp only[u,decide_false,cond_false];exact⟨by rw[<- hf,RI (by omega)],by trivial⟩
theorem Yh {ps:List (fU×List UInt8)} (hn:ps.length<=64) (hl:∀p∈ps,p.2.length<=2^40) (i:Nat):qE (ps.take i)<2^62:=by
 have h1:=abB (ps:=ps.take i) (n:=2^40) λp hp=>hl p (List.mem_of_mem_take hp);have h2:(ps.take i).length<=64:=by simp;omega
 have h3:(ps.take i).length * (65535 * 2^40)<=64 * (65535 * 2^40):=Nat.mul_le_mul_right _ h2;omega
theorem Ο {ps:List (fU×List UInt8)} (hn:ps.length<=64) (hl:∀p∈ps,p.2.length<=2^40):qE ps<2^62:=by
 have:=Yh hn hl ps.length
 rwa [take_length] at this
theorem adB {w:θ} {s:fU} {ps:List (fU×List UInt8)} (hs:Parts w s ps) (hn:ps.length<=64) (hl:∀p∈ps,p.2.length<=2^40):
  Iq s w λr w'=>r=(fold (qE ps):Int)/\Ext w w':=by
 apply aaw;refine cmS1 (Υ hs hn hl) ?_;rintro _ w1 ⟨rfl,f1⟩;refine cmS1 (abb (Ο hn hl) w1) ?_;rintro _ _ ⟨rfl,rfl⟩;exact⟨by trivial,f1⟩
theorem SC {w:θ} {s:fU} {ps:List (fU×List UInt8)} (hs:Parts w s ps) (hn:ps.length<=64) (hl:∀p∈ps,p.2.length<=2^40):
  Dl s w λr w'=>r=((65535 - fold (qE ps):Nat):Int)/\Ext w w':=by
 apply acJ;refine cmS1 (adB hs hn hl) ?_;rintro _ w1 ⟨rfl,f1⟩;have:=MG (qE ps);exact⟨by rw[Α];omega,f1⟩
theorem IU {w:θ} {s:fU} {ps:List (fU×List UInt8)} (hs:Parts w s ps) (hn:ps.length<=64) (hl:∀p∈ps,p.2.length<=2^40):
  uV s w λr w'=>r=decide (fold (qE ps)=65535)/\Ext w w':=by
 apply XQ;refine cmS1 (adB hs hn hl) ?_;rintro _ w1 ⟨rfl,f1⟩;refine⟨?_,f1⟩;by_cases h:fold (qE ps)=65535
 ·simp[h]
 ·simp[h];omega
theorem zF {w:θ} {b:Nat} {s:fU} {l:List UInt8} (h:Row w b [Δ s]) (hs:iq w s l):Parts w ⟨some ⟨b,0,none⟩,1,1⟩ [(s,l)]:=by
 refine⟨rfl,λi p hi=> ?_⟩
 cases i with
 |zero=>
  simp at hi;subst hi;exact⟨b,0,rfl,by rw[h.cell];rfl,hs⟩
 |succ i=>simp at hi
theorem Ig (s:fU) (l:List UInt8):qE [(s,l)]=tot l:=by simp[qE]
theorem Ak (n:Int) (w:θ):lF n w λr w'=>r=decide (kD n)/\w'=w:=by
 apply JJ;by_cases h1:n>=0
 ·have h1':0<=n:=h1;simp[h1',kD]
 ·have h1':¬0<=n:=h1;simp[h1',kD]
theorem NS {w:θ} {b:Nat} {l:List Bool} {vs:List Value} (h:Row w b vs) (hv:vs=l.map Value.bool) (n:Nat) (hn:n=l.length) (hl:l.length<=100):xR ⟨some ⟨b,0,none⟩,n,n⟩ w λr w'=>r=l.all id/\w'=w:=by
 subst hv;apply acK;apply yE;apply AY;subst hn;refine gX (λst W=>W=w/\∃i:Nat,i<=l.length/\st.1=(i:Int)/\(l.take i).all id=true) (λst _=>l.length - st.1.toNat) ⟨rfl,0,by omega,rfl,rfl⟩ ?_;rintro⟨x,⟨⟩⟩ W ⟨rfl,i,hi,rfl,hp⟩ next I
 by_cases J:i<l.length
 ·have u:((i:Int)<(l.length:Int)):=by omega
  simp only[u,decide_true,cond_true];simp only[sx,h.cell,Int.toNat_natCast,Nat.mul_one,List.getElem?_map,List.getElem?_eq_getElem J,Option.map_some];refine⟨by omega,by trivial,?_⟩
  cases hb:l[i] with
  |true=>
   simp only[show (false==true)=false from rfl,cond_false];rw[Α];refine I _ _ ⟨rfl,i+1,by omega,by simp,?_⟩ (by simp only;omega);rw[take_succ_eq_append_getElem J,List.all_append,hp,hb];rfl
  |false=>
   simp only[show (false==false)=true from rfl,cond_true];refine⟨?_,by trivial⟩;have:l.all id=false:=by
    apply Bool.eq_false_iff.2;intro h;have:=List.all_eq_true.1 h false (hb ▸ List.getElem_mem J)
    cases this
   rw[this];simp
 ·have u:¬((i:Int)<(l.length:Int)):=by omega
  simp only[u,decide_false,cond_false];have:i=l.length:=by omega
  subst this;rw[take_length] at hp;exact⟨by rw[hp];rfl,by trivial⟩
end Go.Proofs.VN
end
section
open List (all_cons all_nil getElem?_cons_succ getElem?_cons_zero)
open Bool (decide_and)
namespace Go.Proofs.VN
open Gp Gp.V4
theorem Yk (a0 a1 a2 a3 a4 a5 a6:Int) (a7 a8:Bool) (a9 u:fU) (h:a9.len<=2^60) (w:θ):Dn a0 a1 a2 a3 a4 a5 a6 a7 a8 a9 u w λr w'=>r=20+(a9.len:Int)/\Ext w w':=by
 apply aay;refine gq λa w1 r1 _ _ f1=> ?_;simp only[sx,getElem?_cons_zero,getElem?_cons_succ,r1.cell];exact⟨by rw[Α],f1⟩
theorem Yl (a0 a1 a2 a3 a4 a5 a6:Int) (a7 a8:Bool) (a9 u:fU) (h:a9.len<=2^60) (h':u.len<=2^60) (w:θ):Dp a0 a1 a2 a3 a4 a5 a6 a7 a8 a9 u w λr w'=>r=20+(a9.len:Int)+(u.len:Int)/\Ext w w':=by
 apply aaz;refine gq λa w1 r1 _ _ f1=> ?_;simp only[sx,getElem?_cons_zero,getElem?_cons_succ,r1.drew.cell];refine cmS1 (Yk _ _ _ _ _ _ _ _ _ _ _ h _) ?_;rintro r w2 ⟨rfl,f2⟩;refine⟨by rw[(r1.drew.ext f2).cell];rfl,?_,(f1.trans (Ext.drew _)).trans f2⟩;rw[Α]
theorem Ai {w:θ} (p:jG) {o d:fU} (ho:o.len=p.opts.length) (hd:d.len=p.data.length) (h1:p.opts.length<=2^46) (h2:p.data.length<=2^46):
  qO p.tos p.id p.off p.ttl p.proto p.src p.dst p.df p.mf o d w λr w'=>r=p.check/\Ext w w':=by
 apply ZE;refine gq λa w1 r1 _ _ f1=> ?_;have r1d:=r1.drew;simp -zeta only[sx,Ci,getElem?_cons_zero,getElem?_cons_succ,r1d.cell];refine cmS0 (mO _ _ _) ?_;rintro _ _ ⟨rfl,rfl⟩;simp -zeta only[true_and,getElem?_cons_zero,getElem?_cons_succ,r1d.cell];refine cmS0 (mO _ _ _) ?_;rintro _ _ ⟨rfl,rfl⟩;simp -zeta only[true_and,getElem?_cons_zero,getElem?_cons_succ,r1d.cell];refine cmS0 (mO _ _ _) ?_;rintro _ _ ⟨rfl,rfl⟩;simp -zeta only[true_and,getElem?_cons_zero,getElem?_cons_succ,r1d.cell];refine cmS0 (mO _ _ _) ?_;rintro _ _ ⟨rfl,rfl⟩;refine gq λb w2 r2 _ _ f2=> ?_;refine cmS0 (NS (l:=[decide (iK p.tos 1),decide (iK p.ttl 1),decide (iK p.proto 1),decide (iK p.id 2)]) r2 rfl 4 rfl (by simp)) ?_;rintro _ w2 ⟨rfl,rfl⟩;have r3:=(r1d.ext f2).drew;simp -zeta only[getElem?_cons_zero,getElem?_cons_succ,f_,gJ,r3.cell];refine cmS0 (Ak _ _) ?_;rintro _ _ ⟨rfl,rfl⟩;simp -zeta only[true_and,getElem?_cons_zero,getElem?_cons_succ,r3.cell];refine cmS0 (Ak _ _) ?_;rintro _ _ ⟨rfl,rfl⟩;refine gq λc w4 r4 _ _ f4=> ?_;refine cmS0 (NS (l:=[decide (kD p.src),decide (kD p.dst)]) r4 rfl 2 rfl (by simp)) ?_;rintro _ w4 ⟨rfl,rfl⟩;have r5:=r3.ext f4;have x5:Ext w w4:=(((f1.trans (Ext.drew _)).trans f2).trans (Ext.drew _)).trans f4;intro u;have hJ:∀(b:Bool) (W:θ),Ext w4 W->b=decide (0<=p.off/\p.off<=65528/\Int.tmod p.off 8=0/\(p.mf=true->p.data.length % 8=0))->u b W:=by
  rintro b W fW rfl;have rW:=r5.ext fW;simp only[u,cond_true,getElem?_cons_zero,getElem?_cons_succ,f_,gQ,rW.cell];refine⟨by omega,gq λe w6 r6 _ _ f6=> ?_⟩;refine cmS0 (NS (l:=[_,_]) r6 rfl 2 rfl (by simp)) ?_;rintro _ _ ⟨rfl,rfl⟩;refine gq λg w7 r7 _ _ f7=> ?_;refine cmS0 (NS (l:=[_,_,_,_]) r7 rfl 4 rfl (by simp)) ?_;rintro _ _ ⟨rfl,rfl⟩;have e1:decide ((o.len:Int)<=40)=decide (p.opts.length<=40):=by rw[ho];exact decide_eq_decide.2 (by omega)
  have e2:(Int.tmod (o.len:Int) 4==0)=decide (p.opts.length % 4=0):=by
   rw[ho,Int.tmod_eq_emod_of_nonneg (by omega),show ((p.opts.length:Int) % 4==0)=decide ((p.opts.length:Int) % 4=0) from rfl];exact decide_eq_decide.2 (by omega)
  have e3:([[decide (iK p.tos 1),decide (iK p.ttl 1),decide (iK p.proto 1),decide (iK p.id 2)].all id,[decide (kD p.src),decide (kD p.dst)].all id,decide (0<=p.off/\p.off<=65528/\Int.tmod p.off 8=0/\(p.mf=true->p.data.length % 8=0)),
    [decide ((o.len:Int)<=40),(Int.tmod (o.len:Int) 4==0)].all id].all id)=decide p.fine:=by
   rw[e1,e2];simp only[all_cons,all_nil,id,Bool.and_true];rw[<- decide_and,<- decide_and,<- decide_and,<- decide_and,<- decide_and,<- decide_and,<- decide_and,<- decide_and];rfl
  rw[e3];have x7:=(x5.trans fW).trans (f6.trans f7);by_cases hf:p.fine
  ·simp only[hf,decide_true,Bool.not_true,cond_false];have r8:=rW.ext (f6.trans f7);simp -zeta only[getElem?_cons_zero,getElem?_cons_succ,f_,gQ,gJ,iY,r8.cell];refine cmS1 (Yl _ _ _ _ _ _ _ _ _ _ _ (show o.len<=2^60 by omega) (show d.len<=2^60 by omega) _) ?_;rintro _ w8 ⟨rfl,f8⟩;have r9:=r8.ext f8;simp -zeta only[getElem?_cons_zero,getElem?_cons_succ,f_,gQ,gJ,r9.cell];rw[Α];by_cases hs:20+p.opts.length+p.data.length<=65535
   ·have:¬(20+(o.len:Int)+(d.len:Int)>65535):=by omega
    simp only[this,decide_false,cond_false];by_cases hs2:p.off<=65535 - (p.data.length:Int)
    ·have:¬(p.off>65535 - (d.len:Int)):=by omega
     simp only[this,decide_false,cond_false];exact⟨by simp[jG.check,hf,jG.short,hs,hs2],x7.trans f8⟩
    ·have:(p.off>65535 - (d.len:Int)):=by omega
     simp only[this,decide_true,cond_true];exact⟨by simp[jG.check,hf,jG.short,hs2],x7.trans f8⟩
   ·have:(20+(o.len:Int)+(d.len:Int)>65535):=by omega
    simp only[this,decide_true,cond_true];exact⟨by simp[jG.check,hf,jG.short,hs],x7.trans f8⟩
  ·simp only[hf,decide_false,Bool.not_false,cond_true];exact⟨by simp[jG.check,hf],x7⟩
 simp -zeta only[getElem?_cons_zero,getElem?_cons_succ,f_,gQ,gJ,iY,r5.cell];refine⟨by omega,?_⟩
 cases hm:p.mf with
 |false=>
  simp only[Bool.not_false,cond_true];refine gq λe w6 r6 _ _ f6=> ?_;refine cmS0 (NS (l:=[_,_,_,_]) r6 rfl 4 rfl (by simp)) ?_;rintro _ _ ⟨rfl,rfl⟩;refine hJ _ _ f6 ?_;simp only[all_cons,all_nil,id,Bool.and_true,hm];rw[show (Int.tmod p.off 8==0)=decide (Int.tmod p.off 8=0) from rfl];simp[ge_iff_le]
 |true=>
  simp only[Bool.not_true,cond_false];refine⟨by omega,gq λe w6 r6 _ _ f6=> ?_⟩;refine cmS0 (NS (l:=[_,_,_,_]) r6 rfl 4 rfl (by simp)) ?_;rintro _ _ ⟨rfl,rfl⟩;refine hJ _ _ f6 ?_;have e2:(Int.tmod (d.len:Int) 8==0)=decide (p.data.length % 8=0):=by
   rw[hd,Int.tmod_eq_emod_of_nonneg (by omega),show ((p.data.length:Int) % 8==0)=decide ((p.data.length:Int) % 8=0) from rfl];exact decide_eq_decide.2 (by omega)
  simp only[all_cons,all_nil,id,Bool.and_true,hm,e2];rw[show (Int.tmod p.off 8==0)=decide (Int.tmod p.off 8=0) from rfl];simp[ge_iff_le]
def RG (p:jG):Int:=
 let a:=ο.wrap (Int.tdiv p.off 8)
 let b:=bif p.df then Ql .i64 a 16384 else a
 bif p.mf then Ql .i64 b 8192 else b
theorem RH {w:θ} (p:jG) (o d:fU):Ky p.tos p.id p.off p.ttl p.proto p.src p.dst p.df p.mf o d w λr w'=>r=RG p/\Ext w w':=by
 apply ZH;refine gq λa w1 r1 _ _ f1=> ?_;simp only[sx,getElem?_cons_zero,getElem?_cons_succ,r1.cell];refine⟨by omega,?_⟩;unfold RG
 cases p.df<;>cases p.mf<;>exact⟨rfl,f1⟩
theorem ϰ {p:jG} (h:p.fine):RG p=(p.bits:Int):=by
 obtain⟨_,_,⟨h1,h2,h3,_⟩,_⟩:=h;unfold RG jG.bits;obtain⟨x,hx⟩:∃x:Nat,p.off=(x:Int):=⟨p.off.toNat,by omega⟩;rw[hx] at h1 h2 h3 ⊢;rw[Int.tdiv_eq_ediv_of_nonneg (by omega),Int.toNat_natCast];have e0:(x:Int) / 8=((x / 8:Nat):Int):=by omega
 rw[e0,Α];have hq:x / 8<8192:=by omega
 generalize x / 8=q at hq;have e1:Ql .i64 (q:Int) 16384=((16384+q:Nat):Int):=by
  have:=OW (a:=q) (b:=16384) (by omega) (by omega);rw[Nat.or_comm,show (16384:Nat)=1 * 2^14 by decide,Ll (by omega)] at this;exact this
 have e2:Ql .i64 (q:Int) 8192=((8192+q:Nat):Int):=by
  have:=OW (a:=q) (b:=8192) (by omega) (by omega);rw[Nat.or_comm,show (8192:Nat)=1 * 2^13 by decide,Ll (by omega)] at this;exact this
 have e3:Ql .i64 ((16384+q:Nat):Int) 8192=((24576+q:Nat):Int):=by
  have:=OW (a:=16384+q) (b:=8192) (by omega) (by omega);have h:(16384+q)|||8192=24576+q:=by
   rw[show 16384+q=2 * 2^13|||q by rw[Ll (by omega)],Nat.or_assoc,Nat.or_comm q,<- Nat.or_assoc,show (2 * 2^13|||8192:Nat)=3 * 2^13 by decide,Ll (by omega)]
  rw[h] at this;exact this
 cases p.df<;>cases p.mf<;>simp only[cond_true,cond_false,if_true,if_false,Bool.false_eq_true]
 ·omega
 ·rw[e2];omega
 ·rw[e1];omega
 ·rw[e1,e3];omega
end Go.Proofs.VN
end
section
open List (getElem?_cons_succ getElem?_cons_zero)
namespace Go.Proofs.VN
open Gp Gp.V4
def nZ (p:jG):List (Int×Int):=
 [(Ql .i64 64 (ο.wrap (Int.tdiv (20+(p.opts.length:Int)) 4)),1),(p.tos,1),(20+(p.opts.length:Int)+(p.data.length:Int),2),(p.id,2),(RG p,2),(p.ttl,1),(p.proto,1),(0,2),(p.src,4),(p.dst,4)]
def W_ (f:Int×Int):List Value:=[Β f.1,Β f.2]
theorem Ru (f:Int×Int):(W_ f).length=2:=rfl
theorem acg {w:θ} (p:jG) {o d:fU} (ho:o.len=p.opts.length) (hd:d.len=p.data.length) (h1:p.opts.length<=2^46) (h2:p.data.length<=2^46):
  Gq p.tos p.id p.off p.ttl p.proto p.src p.dst p.df p.mf o d w λr w'=>∃b,r=⟨some ⟨b,0,none⟩,10,10⟩/\Row w' b ((nZ p).flatMap W_)/\Ext w w'/\w.heap.size<=b:=by
 apply X3;refine gq λa w1 r1 e1 _ f1=> ?_;have r1d:=r1.drew;simp -zeta only[sx,Ci,Cw,h_,iC,getElem?_cons_zero,getElem?_cons_succ,r1d.cell];refine cmS1 (Yk _ _ _ _ _ _ _ _ _ _ _ (show o.len<=2^60 by omega) _) ?_;rintro _ w2 ⟨rfl,f2⟩;have r2:=r1d.ext f2;simp -zeta only[true_and,getElem?_cons_zero,getElem?_cons_succ,r2.cell];refine⟨by omega,?_⟩;refine cmS1 (Yl _ _ _ _ _ _ _ _ _ _ _ (show o.len<=2^60 by omega) (show d.len<=2^60 by omega) _) ?_;rintro _ w3 ⟨rfl,f3⟩;have r3:=r2.ext f3;simp -zeta only[true_and,getElem?_cons_zero,getElem?_cons_succ,r3.cell];refine cmS1 (RH p o d) ?_;rintro _ w4 ⟨rfl,f4⟩;have r4:=r3.ext f4;simp -zeta only[true_and,getElem?_cons_zero,getElem?_cons_succ,r4.cell];refine gq λb w5 r5 e5 _ f5=>⟨b,rfl,?_,((((f1.trans (Ext.drew _)).trans f2).trans f3).trans f4).trans f5,?_⟩
 ·rw[show o.len=p.opts.length from ho,show d.len=p.data.length from hd] at r5;exact r5
 ·have h1:=f1.size;have h2:=f2.size;have h3:=f3.size;have h4:=f4.size;have:w1.drew.heap.size=w1.heap.size:=rfl;omega
theorem Ϯ {p:jG} (h:p.opts.length<=40):Ql .i64 64 (ο.wrap (Int.tdiv (20+(p.opts.length:Int)) 4))=((64+(20+p.opts.length) / 4:Nat):Int):=by
 rw[Int.tdiv_eq_ediv_of_nonneg (by omega)];have e0:(20+(p.opts.length:Int)) / 4=(((20+p.opts.length) / 4:Nat):Int):=by omega
 rw[e0,Α];have hq:(20+p.opts.length) / 4<64:=by omega
 generalize (20+p.opts.length) / 4=q at hq;have:=OW (a:=64) (b:=q) (by omega) (by omega);rw[show (64:Nat)=1 * 2^6 by decide,Ll (by omega)] at this;exact this
theorem Y2 {p:jG} (h:p.check=0):(nZ p).foldl (λl f=>jv l f.1 f.2) []++p.opts=p.head 0:=by
 obtain⟨hf,hs⟩:=lN h;have hb:=WJ hf;have I:=ϰ hf;obtain⟨⟨f1,f2,f3,f4⟩,⟨r1,r2⟩,⟨o1,o2,o3,o4⟩,p1,p2⟩:=id hf;obtain⟨s1,s2⟩:=hs;have g:∀(n:Int) (k:Nat) (l:List UInt8),iK n (k:Int)->jv l n (k:Int)=l++jD k n.toNat:=λn k l h=>by simp[jv,h]
 have m1:iK ((64+(20+p.opts.length) / 4:Nat):Int) (1:Nat):=⟨⟨by omega,by omega⟩,by omega,by simp;omega⟩;have m2:iK (20+(p.opts.length:Int)+(p.data.length:Int)) (2:Nat):=⟨⟨by omega,by omega⟩,by omega,by simp;omega⟩;have m3:iK ((p.bits:Nat):Int) (2:Nat):=⟨⟨by omega,by omega⟩,by omega,by simp;omega⟩;have m4:iK 0 (2:Nat):=⟨⟨by omega,by omega⟩,by omega,by simp⟩;have m5:iK p.src (4:Nat):=⟨⟨by omega,by omega⟩,r1.1,by have:=r1.2;simp;omega⟩;have m6:iK p.dst (4:Nat):=⟨⟨by omega,by omega⟩,r2.1,by have:=r2.2;simp;omega⟩;unfold nZ;rw[Ϯ p1,I];simp only[List.foldl_cons,List.foldl_nil];have q1:=g _ 1 [] m1;have q2:=λl=>g p.tos 1 l f1;have q3:=λl=>g _ 2 l m2;have q4:=λl=>g p.id 2 l f4;have q5:=λl=>g _ 2 l m3;have q6:=λl=>g p.ttl 1 l f2;have q7:=λl=>g p.proto 1 l f3;have q8:=λl=>g _ 2 l m4;have q9:=λl=>g _ 4 l m5;have u:=λl=>g _ 4 l m6;simp only[Int.ofNat_one] at q1;simp only[show ((1:Nat):Int)=1 from rfl,show ((2:Nat):Int)=2 from rfl,show ((4:Nat):Int)=4 from rfl] at q2 q3 q4 q5 q6 q7 q8 q9 u;rw[q1,q2,q3,q4,q5,q6,q7,q8,q9,u];unfold jG.head;simp only[Int.toNat_natCast,List.nil_append];rw[show (20+(p.opts.length:Int)+(p.data.length:Int)).toNat=20+p.opts.length+p.data.length by omega];rfl
theorem aez (p:jG) (s:Nat):(p.head 0).take 10++jD 2 s++(p.head 0).drop 12=p.head s:=by
 rw[head_eq,head_eq];simp[jD]
def adQ (p:jG) (w w':θ) (r:fU) (e:Int):Prop:=
 e=p.check/\(p.check≠0->r=⟨none,0,0⟩)/\(p.check=0->Buf w' r (bytesV p.bytes))/\Ext w w'/\∀b,fU.at r b->w.heap.size<=b
theorem adR {w:θ} (p:jG) {o d:fU} (ho:iq w o p.opts) (hd:iq w d p.data) (h1:p.opts.length<=2^46) (h2:p.data.length<=2^46):
  Kw p.tos p.id p.off p.ttl p.proto p.src p.dst p.df p.mf o d w λr e w'=>adQ p w w' r e:=by
 apply ZC;refine gq λa w1 r1 e1 z1 f1=> ?_;simp -zeta only[sx,getElem?_cons_zero,getElem?_cons_succ,r1.cell];refine cmS1 (Ai p (o:=o) (d:=d) ho.1 hd.1 h1 h2) ?_;rintro _ w2 ⟨rfl,f2⟩;have r2:=r1.ext f2;by_cases hc:p.check=0
 ·have hc':(p.check !=0)=false:=by rw[hc];rfl
  simp -zeta only[cond_false,getElem?_cons_zero,getElem?_cons_succ,f_,gQ,gJ,iY,r2.cell,hc'];refine cmS2 (acg p (o:=o) (d:=d) ho.1 hd.1 h1 h2) ?_;rintro _ w3 ⟨b,rfl,r3,f3,e3⟩;have hlen:((nZ p).length:Int)=10:=rfl;have hsm:=(lN hc).2.1;have x3:Ext w w3:=(f1.trans f2).trans f3;have put_len:∀l n k,(jv l n k).length<=l.length+4:=λl n k=>by
   unfold jv;split
   ·rename_i h;have:=h.1.2;simp[iG];omega
   ·omega
  refine gX (λst W=>∃i:Nat,i<=10/\st.2.1=i/\Buf W st.1 (bytesV (((nZ p).take i).foldl (λl f=>jv l f.1 f.2) []))/\(((nZ p).take i).foldl (λl f=>jv l f.1 f.2) []).length<=4 * i/\Ext w3 W/\∀c,fU.at st.1 c->w3.heap.size<=c)
   (λst _=>10 - st.2.1.toNat) ⟨0,by omega,rfl,Buf.nil,by simp,Ext.refl _,by rintro c ⟨_,h⟩;cases h⟩ ?_
  rintro⟨s,x,⟨⟩⟩ W ⟨i,hi,rfl,hb,hl,hx,hs⟩ next I
  have rb:=r3.ext hx;by_cases N:i<10
  ·have u:((i:Int)<((10:Nat):Int)):=by omega
   simp only[u,decide_true,cond_true];have J:(nZ p)[i]? =some (nZ p)[i]:=List.getElem?_eq_getElem N;generalize (nZ p)[i]=f at J;have c0:W.cell? ⟨b,i * 2,none⟩=some (Β f.1):=by
    have:=flat_get W_ 2 Ru (nZ p) i 0 (by omega);rw[Nat.add_zero] at this;rw[rb.cell,this,J];rfl
   have c1:W.cell? ⟨b,i * 2+1,none⟩=some (Β f.2):=by
    rw[rb.cell,flat_get W_ 2 Ru _ _ 1 (by omega),J];rfl
   simp -zeta only[sx,Int.toNat_natCast,c0,c1];refine⟨by omega,by omega,DX rfl rfl λc w4 r4 e4 z4 f4=> ?_⟩;simp -zeta only[sx,getElem?_cons_zero,getElem?_cons_succ,r4.cell];refine cmS2 (uO (iq.iD (hb.ext f4)) (by omega) f.1 f.2) ?_;rintro s5 w5 ⟨b5,f5,n5⟩;rw[Α];have O:=hx.size;have hsz4:=f4.size;have ef:((nZ p).take (i+1)).foldl (λl f=>jv l f.1 f.2) []=jv (((nZ p).take i).foldl (λl f=>jv l f.1 f.2) []) f.1 f.2:=by
    rw[take_succ_eq_append_getElem N,List.foldl_append];have:(nZ p)[i]=f:=by rw[List.getElem?_eq_getElem N] at J;simpa using J
    rw[this];rfl
   refine I _ _ ⟨i+1,by omega,by simp,by rw[ef];exact b5,?_,(hx.trans f4).trans f5,λy hy=>by have:=n5 y hy;omega⟩ (by simp only;omega);rw[ef];have:=put_len (((nZ p).take i).foldl (λl f=>jv l f.1 f.2) []) f.1 f.2;omega
  ·have u:¬((i:Int)<((10:Nat):Int)):=by omega
   simp only[u,decide_false,cond_false];have:i=10:=by omega
   subst this;rw[show (nZ p).take 10=nZ p from rfl] at hb hl;have rW:=r2.ext (f3.trans hx);simp -zeta only[getElem?_cons_zero,getElem?_cons_succ,f_,gQ,rW.cell];have O:=hx.size;have hsz3:=x3.size;refine jd hb (ho.ext (x3.trans hx)) (by omega) λs6 w6 b6 f6 n6 _=> ?_;rw[Y2 hc] at b6;have x6:Ext w3 w6:=hx.new f6 λy hy h=>by have:=hs y h;omega
   have l6:(p.head 0).length=20+p.opts.length:=vX p 0;refine gq λc w7 r7 e7 z7 f7=> ?_;refine cmS1 (SC (zF r7 (iq.iD (b6.ext f7))) (by simp) (by intro q hq;simp only[List.mem_singleton] at hq;subst hq;simp only;omega)) ?_;rintro _ w8 ⟨rfl,f8⟩;rw[Ig];have e8:65535 - fold (tot (p.head 0))=p.sum:=rfl;rw[e8];have hsl:p.sum<65536:=by unfold jG.sum;omega
   refine cmS3 (O5 (iq.iD ((b6.ext f7).ext f8)) (by omega) 10 (p.sum:Int) 2) ?_;rintro s9 e9 w9 ⟨hr9,f9,n9⟩;obtain⟨rfl,b9⟩:=Nz ⟨⟨by omega,by omega⟩,by omega,by simp;omega⟩ (by omega) (by omega) hr9;rw[show (10:Int).toNat=10 from rfl,show (2:Int).toNat=2 from rfl,Int.toNat_natCast,show (10+2:Nat)=12 from rfl,aez] at b9;have x9:Ext w3 w9:=((x6.trans f7).trans f8).trans f9;have r9:=r2.ext (f3.trans x9);simp only[getElem?_cons_zero,getElem?_cons_succ,f_,gQ,r9.cell];have l9:(p.head p.sum).length=20+p.opts.length:=vX p _;refine jd b9 (hd.ext (x3.trans x9)) (by omega) λs10 w10 R f10 U _=> ?_;have z6:=x6.size;have z9':=((x6.trans f7).trans f8).size;have z9:=x9.size;refine⟨hc.symm,λh=>absurd hc h,λ_=>R,x3.trans (x9.new f10 λy hy h=>by have:=n9 y h;omega),λy hy=> ?_⟩;rcases U y hy with h|h
   ·have:=n9 y h;omega
   ·omega
 ·have hc':(p.check !=0)=true:=by simpa using hc
  simp -zeta only[cond_true,hc'];exact⟨rfl,λ_=>rfl,λh=>absurd h hc,f1.trans f2,by rintro b ⟨o,h⟩;cases h⟩
theorem aeS {w:θ} {s:fU} {l:List UInt8} (h:iq w s l) (hl:l.length<=2^46) {i k:Nat} (hk:1<=k/\k<=4) (hi:i+k<=l.length) (x y:Int):gV s x y (i:Int) (k:Int) w λr w'=>r=(num l i k:Int)/\Ext w w':=by
 apply OV;refine gq λa w1 r1 _ _ f1=> ?_;simp only[sx,getElem?_cons_zero,r1.cell];refine cmS9 (GK (h.ext f1) (by omega) _ _) ?_;rintro n e _ ⟨rfl,hr⟩;exact⟨Xf hk hi hr,f1⟩
theorem XB {w:θ} {s:fU} {l:List UInt8} (h:iq w s l) (hl:l.length<=2^46) {i k:Int} (hk:1<=k/\k<=4) (hi:0<=i/\i+k<=l.length) (x y:Int):gV s x y i k w λr w'=>r=(num l i.toNat k.toNat:Int)/\Ext w w':=by
 obtain⟨m,rfl⟩:∃m:Nat,k=(m:Int):=⟨k.toNat,by omega⟩;obtain⟨o,rfl⟩:∃o:Nat,i=(o:Int):=⟨i.toNat,by omega⟩;exact aeS h hl (by omega) (by omega) x y
def adw (w:θ) (q:jG) (t i o l p s d:Int) (df mf:Bool) (op da:fU):Prop:=
 t=q.tos/\i=q.id/\o=q.off/\l=q.ttl/\p=q.proto/\s=q.src/\d=q.dst/\df=q.df/\mf=q.mf/\iq w op q.opts/\iq w da q.data
def Yz (w:θ) (s:fU):Prop:=∀x,s.a=some x->w.heap.size<=x.block
theorem EH (l:List UInt8) (i:Nat):num l i 2<65536:=by
 have:=MK ((l.drop i).take 2);have h2:(256:Nat)^((l.drop i).take 2).length<=256^2:=Nat.pow_le_pow_right (by omega) (by simp;omega);unfold num;omega
theorem Ϥ {n k:Nat} (hn:n<2^63) (hk:k<63):(kF .i64 (n:Int) ((2^k:Nat):Int) !=0)=(n / 2^k % 2==1):=by
 have hp:0<2^k:=Nat.pow_pos (by omega);have hp2:2^k<2^63:=Nat.pow_lt_pow_right (by omega) hk;rw[D7 hn hp2,afA];have:n / 2^k % 2=0\/n / 2^k % 2=1:=by omega
 rcases this with h|h
 ·rw[h];simp
 ·rw[h,Nat.one_mul];generalize 2^k=q at hp;have:((q:Int) !=0)=true:=by simp;omega
  rw[this];rfl
set_option maxRecDepth 100000 in
theorem VY {w:θ} {s:fU} {l:List UInt8} (hs:iq w s l) (hl:l.length<=2^46) (h1:20<=hlen l) (h2:hlen l<=l.length) (h3:hlen l<=num l 2 2):
  pK s (hlen l:Int) (num l 2 2:Int) w λt i o l' p s' d df mf op da w'=>adw w' (field l) t i o l' p s' d df mf op da/\Yz w op/\Yz w da/\Ext w w':=by
 apply JB;refine gq λa w1 r1 e1 z1 f1=>gq λb w2 r2 e2 z2 f2=> ?_;have ra2:=r1.ext f2;have hsl:=hs.1;simp -zeta only[sx,Ci,Cs,Ct,getElem?_cons_zero,getElem?_cons_succ,ra2.cell];have hs2:=(hs.ext f1).ext f2;refine rG (aeS (i:=6) (k:=2) hs2 hl (by omega) (by omega) _ _) ?_;rintro _ w3 ⟨rfl,f3⟩;have x3:Ext w w3:=(f1.trans f2).trans f3;have ra3:=ra2.ext f3;have rb3:=r2.ext f3;have hs3:=hs2.ext f3;have u:=f3.size;intro J;have hJ:∀c W,Row W c [Β (num l 1 1:Int),Β (num l 4 2:Int),Β 0,Β (num l 8 1:Int),Β (num l 9 1:Int),Β (num l 12 4:Int),Β (num l 16 4:Int),.bool false,.bool false,.slice none 0 0,.slice none 0 0]->Ext w3 W->w3.heap.size<=c->J ⟨c,0,none⟩ W:=by
  intro c W rc hx hc;simp only[sx,J];have n6:=EH l 6;refine g_ rc rfl (by simp) λw4 r4 f4 z4=>g_ r4 rfl (by simp) λw5 r5 f5 z5=>g_ r5 rfl (by simp) λw6 r6 f6 z6=> ?_;have x6:Ext w3 w6:=hx.new (((f4 (·=c) rfl).trans (f5 (·=c) rfl) λ_ _ e=>e).trans (f6 (·=c) rfl) λ_ _ e=>e) λy hy e=>by omega
  have ra6:=ra3.ext x6;have hs6:=hs3.ext x6;have hsz6:=x6.size;simp only[List.set_cons_zero,List.set_cons_succ] at r6;simp only[getElem?_cons_zero,getElem?_cons_succ,f_,gQ,gJ,ra6.cell];refine kN hs6 (by omega) (by omega) (by omega) λs7 hs7 _=> ?_;refine cmS2 (kC hs7 (by simp;omega)) ?_;rintro o8 w8 ⟨b8,_,f8,n8⟩;have r8:=r6.ext f8;refine g_ r8 rfl (by simp) λw9 r9 f9 z9=> ?_;have f89:Ext w6 w8:=f8;have x9:Ext w3 w9:=(x6.trans f8).new (f9 (·=c) rfl) λy hy e=>by omega
  have ra9:=ra3.ext x9;have hs9:=hs3.ext x9;have hsz8:=f8.size;have b9:Buf w9 o8 _:=b8.fr (f9 (·=c) rfl) λy hy e=>by
   have:=n8 y hy;have:=r6.lt;omega
  simp only[List.set_cons_zero,List.set_cons_succ] at r9;simp only[getElem?_cons_zero,getElem?_cons_succ,f_,gQ,gJ,ra9.cell];have I:(if (s.len:Int)<(num l 2 2:Int) then (s.len:Int) else (num l 2 2:Int))=((min (num l 2 2) l.length:Nat):Int):=by
   split<;>omega
  rw[I];refine kN hs9 (by omega) (by omega) (by omega) λs10 hs10 _=> ?_;refine cmS2 (kC hs10 (by simp;omega)) ?_;rintro d11 w11 ⟨R,_,f11,N⟩;have Z:=r9.ext f11;have hsz11:=f11.size;have hcl:=r9.lt;refine g_ Z rfl (by simp) λO U f12 z12=> ?_;have Y:Ext w3 O:=(x9.trans f11).new (f12 (·=c) rfl) λy hy e=>by omega
  have aa:Buf O o8 _:=(b9.ext f11).fr (f12 (·=c) rfl) λy hy e=>by
   have:=n8 y hy;have:=r6.lt;omega
  have d12:Buf O d11 _:=R.fr (f12 (·=c) rfl) λy hy e=>by
   have:=N y hy;omega
  simp only[List.set_cons_zero,List.set_cons_succ] at U;simp only[getElem?_cons_zero,getElem?_cons_succ,f_,gQ,gJ,iY,U.cell];have rb12:=rb3.ext Y;refine gY rb12 rfl rfl λw13 ac f13 z13=> ?_;simp only[getElem?_cons_zero,getElem?_cons_succ,f_,gQ,gJ,iY,ac.cell];have hb3:=rb3.lt;have e8191:kF .i64 (num l 6 2:Int) 8191=((num l 6 2 % 8192:Nat):Int):=by
   have:=D7 (a:=num l 6 2) (b:=8191) (by omega) (by omega);rw[show (8191:Nat)=2^13 - 1 by decide,AZ] at this;exact this
  have hszx:=x3.size;refine⟨⟨rfl,rfl,?_,rfl,rfl,rfl,rfl,?_,?_,?_,?_⟩,λx hx=>by have:=n8 _ (b8.at_eq hx);omega,λx hx=>by have:=N _ (R.at_eq hx);omega,?_⟩
  ·rw[e8191,Α];simp only[field];omega
  ·exact Ϥ (k:=14) (by omega) (by omega)
  ·exact Ϥ (k:=13) (by omega) (by omega)
  ·refine iq.iD (aa.fr (f13 (·=b) rfl) λy hy e=> ?_);have:=n8 y hy;omega
  ·have e:(l.take (min (num l 2 2) l.length)).drop (hlen l)=(field l).data:=by
    simp only[field];congr 1;rw[Nat.min_comm,<- List.take_take,List.take_of_length_le (by rw[length_take];omega)]
   have d13:=d12.fr (f13 (·=b) rfl) λy hy e=>by
    have:=N y hy;omega
   rw[Int.toNat_natCast,Int.toNat_natCast,e] at d13;exact iq.iD d13
  ·exact(x3.trans Y).new (f13 (·=b) rfl) λy hy e=>by have:=f1.size;omega
 have ra3d:=ra3.drew;simp -zeta only[getElem?_cons_zero,getElem?_cons_succ,f_,gQ,gJ,ra3d.cell];have hx:=Ext.drew w3;have l2:20<=l.length:=by omega
 clear u
 repeat' (first
  |(with_reducible refine And.intro ?_ ?_)
  |((with_reducible refine rG (XB (hs3.ext hx) hl (by omega) (by omega) _ _) ?_);rintro _ W ⟨rfl,f⟩;replace hx:=hx.trans f;(try replace rc:=rc.ext f);(try simp -zeta only[true_and,getElem?_cons_zero,getElem?_cons_succ,(ra3.ext hx).cell]))
  |((with_reducible refine gq λc W rc ec _ f=> ?_);have hc:=hx.size;rw[<- ec] at hc;clear ec;replace hx:=hx.trans f;(try simp -zeta only[true_and,getElem?_cons_zero,getElem?_cons_succ,(ra3.ext hx).cell]))
  |((with_reducible refine gY rc rfl rfl λW rc2 fc zc=> ?_);exact hJ _ W rc2 (hx.new (fc (·=_) rfl) λy hy e=>by omega) hc))
end Go.Proofs.VN
end
