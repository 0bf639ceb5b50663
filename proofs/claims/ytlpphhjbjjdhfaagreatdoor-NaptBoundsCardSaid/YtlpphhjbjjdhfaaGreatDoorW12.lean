import Derived.Test.YtlpphhjbjjdhfaaGreatDoorW11
import Derived.Test.YtlpphhjbjjdhfaaGreatDoorW6
import Derived.Test.YtlpphhjbjjdhfaaGreatDoorW3
import Derived.Test.YtlpphhjbjjdhfaaGreatDoorW2
set_option maxRecDepth 100000
set_option maxHeartbeats 2000000
section
namespace Go.Proofs.AN
open Gp Go.Proofs
theorem ig {k:Kind} {w:θ} {ad:Addr} {y:k.T} {K:k.T->Prop} (h:w.cell? ad=some (k.enc y)) (hK:K y):Ld k w ad K:=⟨y,h,hK⟩
theorem akt {w:θ} {ad:Addr} {A0 A1 A2 A3 A4 A5 A6 A7 A8 A9 h u I J N O:Int} {R U:fU} {W Y Z aa ab ac ae af ag ah ai aj ak am an ao aq:Int} {ar:fU} {K:Int->Int->Int->Int->Int->Int->Int->Int->Int->Int->Int->Int->Int->Int->Int->Int->fU->fU->Int->Int->Int->Int->Int->Int->Int->Int->Int->Int->Int->Int->Int->Int->Int->Int->Int->fU->Prop} (hc:∀j,j<36->w.cell? (ad.add j)=(jd A0 A1 A2 A3 A4 A5 A6 A7 A8 A9 h u I J N O R U W Y Z aa ab ac ae af ag ah ai aj ak am an ao aq ar)[j]?) (hK:K A0 A1 A2 A3 A4 A5 A6 A7 A8 A9 h u I J N O R U W Y Z aa ab ac ae af ag ah ai aj ak am an ao aq ar):oN w ad K:=by
 unfold oN;refine⟨A0,hc 0 (by omega),?_⟩;refine⟨A1,hc 1 (by omega),?_⟩;refine⟨A2,hc 2 (by omega),?_⟩;refine⟨A3,hc 3 (by omega),?_⟩;refine⟨A4,hc 4 (by omega),?_⟩;refine⟨A5,hc 5 (by omega),?_⟩;refine⟨A6,hc 6 (by omega),?_⟩;refine⟨A7,hc 7 (by omega),?_⟩;refine⟨A8,hc 8 (by omega),?_⟩;refine⟨A9,hc 9 (by omega),?_⟩;refine⟨h,hc 10 (by omega),?_⟩;refine⟨u,hc 11 (by omega),?_⟩;refine⟨I,hc 12 (by omega),?_⟩;refine⟨J,hc 13 (by omega),?_⟩;refine⟨N,hc 14 (by omega),?_⟩;refine⟨O,hc 15 (by omega),?_⟩;refine⟨R,hc 16 (by omega),?_⟩;refine⟨U,hc 17 (by omega),?_⟩;refine⟨W,hc 18 (by omega),?_⟩;refine⟨Y,hc 19 (by omega),?_⟩;refine⟨Z,hc 20 (by omega),?_⟩;refine⟨aa,hc 21 (by omega),?_⟩;refine⟨ab,hc 22 (by omega),?_⟩;refine⟨ac,hc 23 (by omega),?_⟩;refine⟨ae,hc 24 (by omega),?_⟩;refine⟨af,hc 25 (by omega),?_⟩;refine⟨ag,hc 26 (by omega),?_⟩;refine⟨ah,hc 27 (by omega),?_⟩;refine⟨ai,hc 28 (by omega),?_⟩;refine⟨aj,hc 29 (by omega),?_⟩;refine⟨ak,hc 30 (by omega),?_⟩;refine⟨am,hc 31 (by omega),?_⟩;refine⟨an,hc 32 (by omega),?_⟩;refine⟨ao,hc 33 (by omega),?_⟩;refine⟨aq,hc 34 (by omega),?_⟩;refine⟨ar,hc 35 (by omega),?_⟩;exact hK
end Go.Proofs.AN
namespace Go.Proofs.EN
open Gp Go.Proofs Go.Proofs.AN
open Gp.Bind (Bnd Slots live GoodB freeN getS In64)
open Gp.Ses (Ses)
variable {w w':θ} {a:EA} {c:Cf} {e:ES}
def ci (c:Cf) (j:Nat):Int:=match c.C[j]? with
 |some (.int _ x)=>x
 |_=>0
def JB (c:Cf) (pr st:Int):Int:=if pr=17 then ci c 30 else if pr=1 then ci c 33 else if pr=6 then (if st=3 then ci c 31 else ci c 32) else 0
theorem aaL (hm:CfM c) {pr st:Int} (hp:pr=1\/pr=6\/pr=17):1<=JB c pr st/\JB c pr st<=2^40:=by
 obtain⟨A0,A1,A2,A3,A4,A5,A6,A7,A8,A9,A10,A11,A12,A13,A14,A15,A16,A17,A18,A19,A20,A21,A22,A23,A24,A25,A26,A27,A28,A29,h,u,I,J,A34,A35,hC,h1,h2,h3,h4⟩:=hm.wt;have e30:ci c 30=h:=by unfold ci;rw[hC];rfl
 have e31:ci c 31=u:=by unfold ci;rw[hC];rfl
 have e32:ci c 32=I:=by unfold ci;rw[hC];rfl
 have e33:ci c 33=J:=by unfold ci;rw[hC];rfl
 unfold JB;omega
theorem aio {ad:Addr} (hm:CfM c) (hc:∀j,j<36->w.cell? (ad.add j)=c.C[j]?) (pr st:Int) {K:Int->b_} (hK:∀w',Ext w w'->K (JB c pr st) w'):
  oN w ad λO R U W Y Z aa ab ac ae af ag ah ai aj ak am an ao aq ar au av aw ax ay az aA aB aC aD aE aF aG aH aI=>DN O R U W Y Z aa ab ac ae af ag ah ai aj ak am an ao aq ar au av aw ax ay az aA aB aC aD aE aF aG aH aI pr st w K:=by
 obtain⟨A0,A1,A2,A3,A4,A5,A6,A7,A8,A9,A10,A11,A12,A13,A14,A15,A16,A17,A18,A19,A20,A21,A22,A23,A24,A25,A26,A27,A28,A29,h,u,I,J,A34,A35,hC,h1,h2,h3,h4⟩:=hm.wt;rw[hC] at hc;refine akt hc ?_;apply UG;refine gy λp w1 r1 e1 z1 f1=> ?_;have aJ:ci c 30=h:=by unfold ci;rw[hC];rfl
 have aK:ci c 31=u:=by unfold ci;rw[hC];rfl
 have aL:ci c 32=I:=by unfold ci;rw[hC];rfl
 have aM:ci c 33=J:=by unfold ci;rw[hC];rfl
 have hK:=hK w1 f1;unfold JB at hK;rw[aJ,aK,aL,aM] at hK;have aN:w1.cell? ((⟨p,0,none⟩:Addr).add 30)=some (Β h):=by rw[gJ,r1.cell];rfl
 have aO:w1.cell? ((⟨p,0,none⟩:Addr).add 31)=some (Β u):=by rw[gJ,r1.cell];rfl
 have aP:w1.cell? ((⟨p,0,none⟩:Addr).add 32)=some (Β I):=by rw[gJ,r1.cell];rfl
 have aQ:w1.cell? ((⟨p,0,none⟩:Addr).add 33)=some (Β J):=by rw[gJ,r1.cell];rfl
 by_cases N:pr=17
 ·subst N;exact ig aN hK
 have aR:(pr==17)=false:=by simp_all
 rw[ada N] at hK;rw[aR,aaT];by_cases p1:pr=1
 ·subst p1;exact ig aQ hK
 have b1:(pr==1)=false:=by simp_all
 rw[ada p1] at hK;rw[b1,aaT];by_cases p6:pr=6
 ·subst p6;rw[aeH rfl] at hK;by_cases s3:st=3
  ·subst s3;exact ig aO hK
  ·have b3:(st==3)=false:=by simp_all
   rw[ada s3] at hK;rw[b3];exact ig aP hK
 ·have b6:(pr==6)=false:=by simp_all
  rw[ada p6] at hK;rw[b6,aaT];exact hK
theorem Gi:∀{S:Gp.Ses.Slots} {i:Nat} {b b':Ses} (k:Nat),S[i]? =some (some b)->(Gp.Ses.live k (S.set i (some b'))).length=(Gp.Ses.live k S).length
 |[],_,_,_,_,h=>by simp at h
 |x::r,0,b,b',k,h=>by
  simp at h;subst h;rfl
 |none::r,i+1,b,b',k,h=>by
  rw[agO,Gp.Ses.live,Gp.Ses.live];exact Gi (k+1) (by simpa using h)
 |some x::r,i+1,b,b',k,h=>by
  rw[agO,Gp.Ses.live,Gp.Ses.live,aiQ,aiQ,Gi (k+1) (by simpa using h)]
theorem ach {l:WN.PL} (id:Int) (t:Gp.Wh.Tm):(Cm l id t).length=if id∈l.map (·.1) then l.length else l.length+1:=by
 have h:=congrArg List.length (SG l id t)
 grind
theorem Vs:∀{S:Gp.Ses.Slots} (k:Nat),Gp.Ses.freeN S=none->(Gp.Ses.live k S).length=S.length
 |[],_,_=>rfl
 |none::r,_,h=>by trivial
 |some b::r,k,h=>by
  have:=Vs (k+1) (by simpa [Gp.Ses.freeN] using h);simp[Gp.Ses.live,this]
end Go.Proofs.EN
end
section
namespace Go.Proofs.EN
open Gp Go.Proofs Go.Proofs.AN
open Gp.Bind (Bnd Slots live GoodB freeN getS In64)
open Gp.Ses (Ses)
variable {w w':θ} {a:EA} {c:Cf} {e:ES}
theorem aiY (h:lH w a c e) {id u:Int} (h0:0<=id) (h1:id<=4096) (u0:0<=u) (u1:u<=1099511627776) (hr:lC e.l id≠none\/(e.l.length:Int)<c.ns) (ht:e.tn<2^62) {K:Int->b_}
  (hK:∀r w' ss' F',gV w w' (own a 5)->lH w' {a with ss:=ss'} c {e with l:=Cm e.l id ⟨id,max u.toNat e.wn,e.tn+1⟩,tn:=e.tn+1,F:=F'}->(∀x,WN.qF a.d a.m ss' x->WN.qF a.d a.m a.ss x\/w.heap.size<=x)->K r w'):
  rO (some ⟨a.d,0,none⟩) id u w K:=by
 refine cmS1 (WN.aip h.wh id u ht) ?_;rintro r w1 ⟨_,f1,ss',F',hs,hw⟩;have hE:WN.Yh e.l c.ns id u=0:=by
  unfold WN.Yh;rw[ada (by omega),ada ?_];rintro⟨q1,q2⟩;rcases hr with hr|hr
  ·exact hr q1
  ·omega
 rw[hE,aeH rfl,aeH rfl] at hw;exact hK r w1 ss' F' f1 (h.setW f1 hw hs) hs
def RH (c:Cf) (e:ES) (pr nx:Int):Int:=if (1099511627776:Int)<(e.now:Int)+JB c pr nx then 1099511627776 else (e.now:Int)+JB c pr nx
theorem ajQ (hg:Gd c e) (hm:CfM c) {pr nx:Int} (hp:pr=1\/pr=6\/pr=17):0<=RH c e pr nx/\RH c e pr nx<=1099511627776/\(e.now:Int)<=RH c e pr nx/\ο.wrap ((e.now:Int)+JB c pr nx)=(e.now:Int)+JB c pr nx:=by
 obtain⟨h1,h2⟩:=aaL hm (st:=nx) hp;have:=hg.le;refine⟨?_,?_,?_,?_⟩
 ·unfold RH;split<;>omega
 ·unfold RH;split<;>omega
 ·unfold RH;split<;>omega
 ·rw[Α]
theorem Gd.note (hg:Gd c e) (hnd:(e.l.map (·.1)).Nodup) {k:Nat} {s:Ses} {M:ByteArray->Option Int} {F:Gp.Wh.Fs} {u:Int} {t:Int} (hu:s.un=u) (u0:0<=u) (un:(e.now:Int)<=u)
  (hb:∃(j:Nat) (b:Bnd),s.bd=(j:Int)/\e.S[j]? =some (some b))
  (hk:(∃s0,e.SS[k]? =some (some s0))\/Gp.Ses.freeN e.SS=some k):
  Gd c {e with SS:=e.SS.set k (some s),M:=M,l:=Cm e.l (k:Int) ⟨(k:Int),max u.toNat e.wn,t⟩,tn:=t,F:=F}:=by
 have N:k<e.SS.length:=by
  rcases hk with ⟨s0,h0⟩|h0
  ·exact(aeK.1 h0).1
  ·exact(Gp.Ses.jm 0 h0).1
 have I:∀(j:Nat) (x:Ses),(e.SS.set k (some s))[j]? =some (some x)↔(j=k/\x=s)\/(j≠k/\e.SS[j]? =some (some x)):=by
  intro j x;rw[Gp.Ses.iY N];by_cases hj:k=j
  ·subst hj;simp[eq_comm]
  ·have:j≠k:=λh=>hj h.symm;simp[hj,this]
 refine⟨⟨hg.inv.ql,hg.inv.cn,hg.inv.gv,hg.inv.mp⟩,λj x hx=> ?_,λid x hx=> ?_,λj x hx=> ?_,?_,hg.wn,hg.le⟩
 ·rcases(I j x).1 hx with ⟨_,rfl⟩|⟨_,h2⟩
  ·exact hb
  ·exact hg.sb j x h2
 ·rw[BR] at hx;split at hx
  ·rename_i J
   cases hx
   refine⟨k,s,J,(I k s).2 (.inl ⟨rfl,rfl⟩),?_⟩;rw[hg.wn,hu];show ((max u.toNat e.now:Nat):Int)=u;omega
  ·rename_i J;obtain⟨j,y,h1,h2,h3⟩:=hg.ts id x hx;exact⟨j,y,h1,(I j y).2 (.inr ⟨λhj=>J (by rw[h1,hj]),h2⟩),h3⟩
 ·rcases(I j x).1 hx with ⟨rfl,_⟩|⟨hj,h2⟩
  ·exact⟨_,by rw[BR,aeH rfl]⟩
  ·obtain⟨y,hy⟩:=hg.st j x h2;exact⟨y,by rw[BR,ada (by omega)];exact hy⟩
 ·rw[ach];rcases hk with ⟨s0,h0⟩|h0
  ·obtain⟨y,hy⟩:=hg.st k s0 h0;have:(k:Int)∈e.l.map (·.1):=alL λhn=>by rw[qH.2 hn] at hy;cases hy
   rw[aeH this,Gi 0 h0];exact hg.lc
  ·have hn:(k:Int)∉e.l.map (·.1):=qH.1 (by
    cases hl:lC e.l (k:Int) with
    |none=>rfl
    |some y=>
     obtain⟨j,z,h1,h2,_⟩:=hg.ts _ y hl;have:j=k:=by omega
     subst this;rw[(Gp.Ses.jm 0 h0).2.1] at h2
     cases h2)
   rw[ada hn];have h7:=(Gp.Ses.jm 0 h0).2.2.2.2.2.2 s;have h4:=(Gp.Ses.jm 0 h0).2.2.2.1;rw[h7,ahY,aiQ,ajT,alx];have:=hg.lc;omega
theorem lH.sl (h:lH w a c e):e.SS.length=c.ns.toNat:=h.se.len
theorem acS (h:lH w a c e) (hg:Gd c e) (hm:CfM c) {bd sid st0 ra rp pr nx:Int} {kn:Bool} (hp:pr=1\/pr=6\/pr=17) (ht:e.tn<2^62)
  (hk:(kn=true/\∃(k:Nat) (s0:Ses),sid=(k:Int)/\e.SS[k]? =some (some s0))\/
   (kn=false/\e.M (Bind.keyS [bd,ra,rp])=none/\((Gp.Ses.live 0 e.SS).length:Int)<c.ns/\(∃(j:Nat) (b:Bnd),bd=(j:Int)/\e.S[j]? =some (some b))/\(In64 bd/\In64 ra/\In64 rp)))
  {K:b_}
  (hK:∀w' a' M F (k:Nat) (s:Ses),gV w w' (iZ a)->(k:Int)<=4096->s.un=RH c e pr nx->s.st=nx->
   ((kn=true/\sid=(k:Int)/\∃s0,e.SS[k]? =some (some s0)/\s={s0 with st:=nx,un:=RH c e pr nx})\/(kn=false/\Gp.Ses.freeN e.SS=some k/\s=⟨bd,nx,RH c e pr nx,ra,rp⟩))->
   lH w' a' c {e with SS:=e.SS.set k (some s),M:=M,l:=Cm e.l (k:Int) ⟨(k:Int),max (RH c e pr nx).toNat e.wn,e.tn+1⟩,tn:=e.tn+1,F:=F}->
   Gd c {e with SS:=e.SS.set k (some s),M:=M,l:=Cm e.l (k:Int) ⟨(k:Int),max (RH c e pr nx).toNat e.wn,e.tn+1⟩,tn:=e.tn+1,F:=F}->Grow a a' w.heap.size->a'.x=a.x->K w'):
  nM (some ⟨a.x,0,none⟩) bd true sid kn st0 ra rp pr nx w K:=by
 apply KW;refine gy λp w1 r1 e1 z1 f1=> ?_;have x1:=f1.trans (Ext.drew w1);have h1:=h.ext x1;obtain⟨u0,u1,un,uw⟩:=ajQ hg hm (nx:=nx) hp;obtain⟨v0,v1⟩:=aaL hm (st:=nx) hp;have ns1:=h.cf.s1;have hsl:=h.sl;refine jM.2 (ig (k:= .int .i64) (y:=(e.now:Int)) (by rw[gJ];exact h1.c41) (jM.2 ?_));refine aio hm (λj hj=>by rw[gJ,gJ];have:=h1.cC hj;simpa using this) pr nx λw2 f2=> ?_;have x2:=x1.trans f2;have h2:=h.ext x2;have r2:=(r1.drew).ext f2;have hz:w.heap.size<=p:=by omega
 refine⟨by rw[gJ];exact h2.c41,?_⟩;intro J;rw[uw];have eu:(if (1099511627776:Int)<(e.now:Int)+JB c pr nx then 1099511627776 else (e.now:Int)+JB c pr nx)=RH c e pr nx:=rfl
 rw[eu];have hJ:∀(W:θ) (A:SN.QS) (M:ByteArray->Option Int) (k:Nat) (s:Ses),gV w W (λb=>SN.fp a.T b)->lH W {a with T:=A} c {e with SS:=e.SS.set k (some s),M:=M}->(∀x,SN.fp A x->SN.fp a.T x\/w.heap.size<=x)->
   W.cell? ⟨p,2,none⟩=some (Β (k:Int))->s.un=RH c e pr nx->s.st=nx->
   ((kn=true/\sid=(k:Int)/\∃s0,e.SS[k]? =some (some s0)/\s={s0 with st:=nx,un:=RH c e pr nx})\/(kn=false/\Gp.Ses.freeN e.SS=some k/\((Gp.Ses.live 0 e.SS).length:Int)<c.ns/\s=⟨bd,nx,RH c e pr nx,ra,rp⟩))->
   (∃(j:Nat) (b:Bnd),s.bd=(j:Int)/\e.S[j]? =some (some b))->J W:=by
  intro W A M k s hf hE hA hc Z ae u R;have aa:=hE.ext (Ext.drew W);simp only[J];refine jM.2 (ig (k:= .ptr) (y:=some ⟨a.d,0,none⟩) (by rw[gJ];exact aa.c4) (ig (k:= .int .i64) (y:=(k:Int)) (by rw[gJ];exact hc) ?_));rw[uw,eu];have hkl:k<e.SS.length:=by
   rcases u with ⟨_,_,s0,h0,_⟩|⟨_,h0,_⟩
   ·exact(aeK.1 h0).1
   ·exact(Gp.Ses.jm 0 h0).1
  have hk4:(k:Int)<=4096:=by omega
  refine aiY aa (by omega) hk4 u0 u1 ?_ ht λr w3 ss' F' f3 hE3 hs3=> ?_
  ·rcases u with ⟨_,_,s0,h0,_⟩|⟨_,h0,ab,_⟩
   ·obtain⟨y,hy⟩:=hg.st k s0 h0;left;show lC e.l (k:Int)≠none;rw[hy];simp
   ·right;have:=hg.lc;show (e.l.length:Int)<c.ns;omega
  ·have I:(∃s0,e.SS[k]? =some (some s0))\/Gp.Ses.freeN e.SS=some k:=by
    rcases u with ⟨_,_,s0,h0,_⟩|⟨_,h0,_⟩
    ·exact .inl ⟨s0,h0⟩
    ·exact .inr h0
   have af:=hg.note h.ndl (M:=M) (F:=F') (t:=e.tn+1) Z u0 un R I;refine hK w3 _ M F' k s ?_ hk4 Z ae ?_ hE3 af ?_ rfl
   ·have g1:gV w W (iZ a):=hf.mono λy hy=>⟨4,hy⟩;exact(g1.ext (Ext.drew W)).trans f3 λy _ hy=>⟨5,hy⟩
   ·rcases u with ⟨q1,q2,q3⟩|⟨q1,q2,_,q3⟩
    ·exact .inl ⟨q1,q2,q3⟩
    ·exact .inr ⟨q1,q2,q3⟩
   ·have g1:Grow a {a with T:=A} w.heap.size:=Qe hA;refine g1.trans (Vd (n:=W.drew.heap.size) hs3) ?_;have:=hf.size;show w.heap.size<=W.heap.size;exact this
 clear_value J;have U:∀{b:Nat},SN.fp a.T b->b≠p:=λ{b} hb he=>by have:=h.lt 4 b hb;omega
 simp only[sx,r2.cell];have h2d:=h2.ext (Ext.drew w2);have x2d:=x2.trans (Ext.drew w2);have r2d:=r2.drew;rcases hk with ⟨rfl,k,s0,rfl,hs0⟩|⟨rfl,hM,ab,R,i1,i2,i3⟩
 ·simp only[aaU,sx,h2d.c3,r2d.cell];have ag:Gp.Ses.getS e.SS (k:Int)=some s0:=Gp.Ses.kY.2 ⟨by omega,by rw[ab3];exact hs0⟩;refine cmS0 (SN.aif h2d.se _ _ _) ?_;rintro r w3 ⟨_,f3,S',hT,hS'⟩;rw[ag] at hS';simp only[ab3] at hS';subst hS';have hE3:=h2d.ah4 (A:=a.T) (M:=e.M) f3 hT rfl (λx hx=> .inl hx) (λx hx=>hT.lt hx);refine hJ w3 a.T e.M k _ (x2d.fr f3) hE3 (λx hx=> .inl hx) ?_ rfl rfl (.inl ⟨rfl,rfl,s0,hs0,rfl⟩) (hg.sb k s0 hs0);have r3:=r2d.fr f3 (λhb=>U hb rfl);rw[r3.cell];rfl
 ·simp only[aaT,sx,h2d.c3,r2d.cell];have N:∃i,Gp.Ses.freeN e.SS=some i:=by
   cases ah:Gp.Ses.freeN e.SS with
   |some i=>exact⟨i,rfl⟩
   |none=>
    have:=Vs 0 ah;omega
  obtain⟨k,ac⟩:=N;have Y:SN.wF e.SS e.M ⟨bd,nx,RH c e pr nx,ra,rp⟩=((k:Int),0):=by
   unfold SN.wF;have:Gp.Ses.Ses.k ⟨bd,nx,RH c e pr nx,ra,rp⟩=[bd,ra,rp]:=rfl;rw[this,hM,ac];rfl
  have ai:Gp.Ses.Ses.ok ⟨bd,nx,RH c e pr nx,ra,rp⟩:=by
   intro n hn;simp only[Gp.Ses.Ses.k,agN,ajH,akL] at hn;rcases hn with rfl|rfl|rfl
   ·exact i1
   ·exact i2
   ·exact i3
  refine cmS8 (SN.ah_ h2d.se ⟨bd,nx,RH c e pr nx,ra,rp⟩ ai) ?_;rintro n m w3 ⟨hr,f3,A,S',M',hT,aj,O,hS'⟩;rw[Y] at hr hS';simp only[aiS,ab3] at hS'
  cases hr
  subst hS';have r3:=r2d.fr f3 (λhb=>U hb rfl);refine gY r3 rfl (by simp) λw4 r4 f4 z4=> ?_;simp only[agO,af7] at r4;have ak:¬SN.fp A p:=λhc=>(O p hc).elim (λhb=>U hb rfl) λhb=>by
   have h9:p<w1.heap.size:=by omega
   have:=f2.size;have am:w2.drew.heap.size=w2.heap.size:=rfl;have an:w1.drew.heap.size=w1.heap.size:=rfl;omega
  have hT4:=hT.fr (f4 (·=p) rfl) (λb hb he=>ak (he ▸ hb));have f34:gV w2.drew w4 (λb=>SN.fp a.T b\/b=p):=(f3.mono λb hb=> .inl hb).trans ((f4 (·=p) rfl).mono λb hb=> .inr hb) λ_ _ h=>h;have hE3:=(h2d.ah4 f3 hT aj O (λx hx=>hT.lt hx)).fr (f4 (·=p) rfl) (λkk b hb he=>by
   subst he;rcases Qe (a:=a) (n:=w2.drew.heap.size) O b ⟨kk,hb⟩ with ⟨k2,hb2⟩|hb2
   ·have:=h.lt k2 b hb2;omega
   ·have h9:b<w1.heap.size:=by omega
    have:=f2.size;have am:w2.drew.heap.size=w2.heap.size:=rfl;have an:w1.drew.heap.size=w1.heap.size:=rfl;omega)
  have ao:gV w w4 (λb=>SN.fp a.T b):=by
   have g:=x2d.fr (f34);refine⟨g.size,λb hb hn=>g.same b hb ?_,g.io⟩;rintro(hc|hc)
   ·exact hn hc
   ·omega
  refine hJ w4 A M' k _ ao hE3 (λx hx=>(O x hx).imp id λhx=> ?_) ?_ rfl rfl (.inr ⟨rfl,ac,ab,rfl⟩) R
  ·have:=x2d.size;omega
  ·rw[r4.cell];rfl
end Go.Proofs.EN
end
section
namespace Go.Proofs.EN
open Gp Go.Proofs Go.Proofs.AN
open Gp.Bind (Bnd Slots live GoodB freeN getS In64)
open Gp.Ses (Ses)
variable {w w':θ} {a:EA} {c:Cf} {e:ES}
abbrev Qw (d:Int):Value:=Value.iface 121 (Β d)
def Full (c:Cf) (e:ES) (sw pr po d:Int):Prop:=(d=5/\c.q<=QN.at_ e.Q sw)\/(d=6/\(c.nb<=((live 0 e.S).length:Int)\/c.ns<=((Gp.Ses.live 0 e.SS).length:Int)))\/(d=7/\PN.DF pr po sw c.lo c.hi c.pl e.G=none)
theorem af8 (h:lH w a c e) (hg:Gd c e) (hm:CfM c) {sw pr ad po:Int} (aa:Uh c sw) (hp:pr=1\/pr=6\/pr=17) (ao:0<=ad/\ad<=4294967295) (O:0<=po/\po<=65535) (aq:e.Mi (Bind.keyS [sw,pr,ad,po])=none)
  {K:Int->Value->b_}
  (hD:∀d w',Full c e sw pr po d->Ext w w'->K 0 (Qw d) w')
  (hK:∀w' a' (i:Nat) (o:PN.O3) Mi Mo,gV w w' (iZ a)->freeN e.S=some i->PN.DF pr po sw c.lo c.hi c.pl e.G=some o->QN.at_ e.Q sw<c.q->
   lH w' a' c {e with S:=e.S.set i (some ⟨sw,pr,ad,po,o.1,o.2.1,o.2.2,false⟩),Mi:=Mi,Mo:=Mo,Q:=e.Q.set sw.toNat (QN.at_ e.Q sw+1),G:=Cm e.G o ()}->
   Gd c {e with S:=e.S.set i (some ⟨sw,pr,ad,po,o.1,o.2.1,o.2.2,false⟩),Mi:=Mi,Mo:=Mo,Q:=e.Q.set sw.toNat (QN.at_ e.Q sw+1),G:=Cm e.G o ()}->Grow a a' w.heap.size->a'.x=a.x->
   K (i:Int) .nilIface w'):
  vK (some ⟨a.x,0,none⟩) sw pr ad po w K:=by
 apply KR;refine gy λt w1 r1 e1 z1 f1=> ?_;have x1:=f1.trans (Ext.drew w1);have h1:=h.ext x1;have r1d:=r1.drew;simp -zeta only[sx,Ci,Cw,h1.c1,h1.c25,r1d.cell];refine cmS1 (QN.ύ h1.qr _) ?_;rintro n w2 ⟨rfl,hw⟩;subst hw;have am:QN.ϡ e.Q sw:=⟨aa.1,by rw[hg.inv.ql];exact aa.2⟩;have ag:QN.Eb e.Q sw=QN.at_ e.Q sw:=by unfold QN.Eb;rw[aeH am]
 refine⟨h1.c25,?_⟩;by_cases hq:QN.Eb e.Q sw>=c.q
 ·simp only[hq,ace,aaU];exact hD 5 _ (.inl ⟨rfl,by rw[<- ag];exact hq⟩) x1
 simp -zeta only[hq,acQ,aaT];refine cmS0 (R_ h1) ?_;rintro n w2 ⟨rfl,f2⟩;by_cases I:((live 0 e.S).length:Int)>=c.nb
 ·simp only[I,ace,aaU];exact hD 6 w2 (.inr (.inl ⟨rfl,.inl I⟩)) (x1.trans f2)
 simp -zeta only[I,acQ,aaT];have x2:=(x1.trans f2).trans (Ext.drew w2);have h2:=h.ext x2;have r2:=(r1d.ext f2).drew;have hne:∀{b:Nat},iZ a b->b≠t:=λ{b} ⟨k,hb⟩ he=>by have:=h.lt k b hb;omega
 have htz:w.heap.size<=t:=by omega
 intro J;have ql:QN.at_ e.Q sw<c.q:=by rw[<- ag];omega
 have hJ0:∀(u:Nat) (W:θ) (v:Int),v≠0->PN.DF pr po sw c.lo c.hi c.pl e.G=none->Ext w W->J ⟨u,0,none⟩ v W:=by
  intro u W v hv R hx;have hv':(v !=0)=true:=by simpa using hv
  simp only[J,hv',aaU];exact hD 7 W (.inr (.inr ⟨rfl,R⟩)) hx
 have hJ1:∀(u:Nat) (W:θ) (o:PN.O3),PN.DF pr po sw c.lo c.hi c.pl e.G=some o->gV w W (λb=>b=a.g)->PN.PL W a.p a.g a.ps c.lo c.hi c.pl (Cm e.G o ())->Row W t [Β sw,Β pr,Β ad,Β po]->Row W u [Β o.1,Β o.2.1,Β o.2.2]->w.heap.size<=u->J ⟨u,0,none⟩ 0 W:=by
  intro u W o ho hf U ab ah hu;have h0:((0:Int) !=0)=false:=rfl;simp only[J,h0,aaT];have hE:=(h.ajE hf U).ext (Ext.drew W);have ab:=ab.drew;have ah:=ah.drew;simp only[sx,Ci,Cw,hE.c1,ab.cell];have ai:QN.EU e.Q c.q sw=(0,e.Q.set sw.toNat (QN.at_ e.Q sw+1)):=by
   unfold QN.EU;rw[aeH am,ada (by rw[<- ag];exact hq)]
  refine cmS1 (QN.OX hE.qr hE.qo _) ?_;rintro n w7 ⟨rfl,q7,f7⟩;have q7':QN.QR w7 a.qb a.qs (e.Q.set sw.toNat (QN.at_ e.Q sw+1)) c.q:=by
   have:QN.EU e.Q c.q sw=_:=ai;rw[show (QN.EU ({e with G:=Cm e.G o ()}:ES).Q c.q sw)=_ from ai] at q7;exact q7
  have o7:QN.QOk (e.Q.set sw.toNat (QN.at_ e.Q sw+1)) c.q:=by
   have:=QN.aaB h.qo sw;rw[ai] at this;exact this
  have h7:=(hE.ajG f7 q7' o7).ext (Ext.drew w7);have nq:a.qs≠t/\a.qs≠u:=by have:=h.lt 2 a.qs (.inr rfl);omega
  have rt7:=(ab.fr f7 (λhe=>nq.1 he.symm)).drew;have ru7:=(ah.fr f7 (λhe=>nq.2 he.symm)).drew;simp only[sx,Ci,Cw,h7.c2,rt7.cell,ru7.cell];obtain⟨o1,o2,o3,o4⟩:=PN.Vx ho;have ar:af5 c ⟨sw,pr,ad,po,o.1,o.2.1,o.2.2,false⟩:=⟨hp,ao,o2,O,⟨by have:=hm.l1;show 0<=o.2.2;omega,by have:=hm.h1;show o.2.2<=65535;omega⟩,o1.symm,aa⟩;have bok:Bnd.ok ⟨sw,pr,ad,po,o.1,o.2.1,o.2.2,false⟩:=by
   have hh:=h.cf.hp _ o2;have hl:=h.cf.sw;obtain⟨s0,s1⟩:=aa;have g1:=hm.l1;have g2:=hm.h1;constructor
   ·intro n hn;simp only[Bnd.i,agN,ajH,akL] at hn;unfold In64;rcases hn with rfl|rfl|rfl|rfl<;>omega
   ·intro n hn;simp only[Bnd.o,agN,ajH,akL] at hn;unfold In64;have hh1:=hh.1;have hh2:=hh.2.1;rcases hn with rfl|rfl|rfl<;>omega
  have au:e.Mo (Bind.keyS [o.1,o.2.1,o.2.2])=none:=by
   cases av:e.Mo (Bind.keyS [o.1,o.2.1,o.2.2]) with
   |none=>rfl
   |some v=>
    obtain⟨j,b,hb,hk,_⟩:=(h.db.good.o _ _).1 av;exfalso;apply o4;refine(hg.inv.gv o).2 ⟨j,b,hb,?_⟩;have hb2:=(h.db.good.ok j b hb).2;have:=Gp.Bind.keyS_inj (by simp[Bnd.o]) hb2 bok.2 hk;simp only[Bnd.o,alP,alO] at this;rw[this.1,this.2.1,this.2.2]
  have Y:∃i,freeN e.S=some i:=by
   cases aw:freeN e.S with
   |some i=>exact⟨i,rfl⟩
   |none=>
    have h10:=MK 0 aw;have h11:=h.db.len;have:=h.cf.b1;omega
  obtain⟨i,ac⟩:=Y;have Z:wF e.S e.Mi e.Mo ⟨sw,pr,ad,po,o.1,o.2.1,o.2.2,false⟩=((i:Int),0):=by
   unfold wF;have k1:e.Mi (Bind.keyS (Bnd.i ⟨sw,pr,ad,po,o.1,o.2.1,o.2.2,false⟩))=none:=aq;have k2:e.Mo (Bind.keyS (Bnd.o ⟨sw,pr,ad,po,o.1,o.2.1,o.2.2,false⟩))=none:=au;rw[k1,k2,ac];rfl
  refine cmS8 (acB h7.db ⟨sw,pr,ad,po,o.1,o.2.1,o.2.2,false⟩ bok (h7.lt 3)) ?_;rintro n m w9 ⟨hr,f9,A,S',Mi',Mo',d9,ax,an,aj,hS'⟩;have ha9:wF ({e with Q:=e.Q.set sw.toNat (QN.at_ e.Q sw+1),G:=Cm e.G o ()}:ES).S ({e with Q:=e.Q.set sw.toNat (QN.at_ e.Q sw+1),G:=Cm e.G o ()}:ES).Mi ({e with Q:=e.Q.set sw.toNat (QN.at_ e.Q sw+1),G:=Cm e.G o ()}:ES).Mo ⟨sw,pr,ad,po,o.1,o.2.1,o.2.2,false⟩=((i:Int),0):=Z;rw[ha9] at hr hS';simp only[aiS,ab3] at hS'
  cases hr
  subst hS';have h9:=h7.setB f9 d9 ax (λx hx=>an x hx) aj;have hz7:=f7.size;have hzW:=hf.size;have hxz:w.heap.size<=w7.drew.heap.size:=by
   have q1:w7.drew.heap.size=w7.heap.size:=rfl;have q2:W.drew.heap.size=W.heap.size:=rfl;omega
  refine hK w9 _ i o Mi' Mo' ?_ ac ho ql h9 ?_ (XY λx hx=>(an x hx).imp id λhx=>by omega) rfl
  ·have g1:gV w W (iZ a):=hf.mono λy hy=>⟨1,.inr (.inl hy)⟩;have g2:gV w w7 (iZ a):=(g1.ext (Ext.drew _)).trans f7 λy _ hy=>⟨2,.inr hy⟩;exact(g2.ext (Ext.drew _)).trans f9 λy _ hy=>⟨3,hy⟩
  ·have ak:=hg.inv.add ac ar Mi' Mo';refine⟨ak,λk s hs=> ?_,hg.ts,hg.st,hg.lc,hg.wn,hg.le⟩;obtain⟨j,b,hj1,hj2⟩:=hg.sb k s hs;refine⟨j,b,hj1,?_⟩;show (e.S.set i _)[j]? =_;rw[akJ];have:¬i=j:=λhc=>by
    rw[<- hc,(Gp.Bind.jm 0 ac).2.1] at hj2;cases hj2
   rw[ada this];exact hj2
 clear_value J;simp only[sx,Ci,Cw,h2.c0,r2.cell];have hl1:=hm.l1;have hlh:=hm.lh;have hh1:=hm.h1;have ip1:PO.wC c.lo:=⟨by omega,by omega⟩;have ip2:PO.wC c.hi:=⟨by omega,by omega⟩;refine⟨?_,?_⟩
 ·refine cmS10 (PN.OX h2.pl hp ip1 ip2 O.1 O.2 hm.p1 (f:=sw)) ?_;rintro x y z v w5 ⟨f5,N⟩;refine gy λu w6 r6 e6 z6 f6=> ?_;have ay:a.g<w.heap.size:=h.lt 1 a.g (.inr (.inl rfl));have ae:=(r2.fr f5 (λhe=>by omega)).ext f6;have hE0:w6.cell? ⟨a.x,0,none⟩=some (.pointer (some ⟨a.p,0,none⟩)):=by
   have:=F9 (S:=(·=a.g)) h2.c0 f5 (λhe=>by have:=h.off (j:=1) (k:=0) (b:=a.x) rfl (by decide);exact this (.inr (.inl he)));exact kQ this f6
  have hz:=x2.size;have hz5:=f5.size;have az:=r2.lt;refine⟨by rw[ae.cell];rfl,by rw[ae.cell];rfl,by rw[ae.cell];rfl,hE0,?_⟩;refine gU r6 rfl rfl λw8 r8 f8 z8=> ?_;have f68:gV w6 w8 (·=u):=f8 (·=u) rfl;rcases N with ⟨o,ho,rfl,rfl,rfl,rfl,U⟩|⟨R,rfl,hx⟩
  ·refine hJ1 u w8 o ho ((x2.fr (f5.ext f6)).trans f68 λy hy he=>by omega) ?_ (ae.fr f68 (by omega)) r8 (by omega);exact(U.ext f6).fr f68 λb hb he=>by
    have:iZ a b:=⟨1,hb⟩;obtain⟨k,hk⟩:=this;have:=h.lt k b hk;omega
  ·exact hJ0 u w8 12 (by decide) R (((x2.trans hx).trans f6).nw f68)
 ·refine gy λu w6 r6 e6 z6 f6=> ?_;have h6:=h2.ext f6;have af:=r2.ext f6;have ay:a.g<w.heap.size:=h.lt 1 a.g (.inr (.inl rfl));have hz:=x2.size;have az:=r2.lt;refine⟨by rw[af.cell];rfl,by rw[af.cell];rfl,by rw[af.cell];rfl,h6.c0,?_⟩;refine cmS10 (PN.OX h6.pl hp ip1 ip2 O.1 O.2 hm.p1 (f:=sw)) ?_;rintro x y z v w7 ⟨f7,N⟩;have aA:=r6.fr f7 (λhe=>by omega);refine gU aA rfl rfl λw8 r8 f8 z8=> ?_;have f78:gV w7 w8 (·=u):=f8 (·=u) rfl;have aB:=(af.fr f7 (λhe=>by omega)).fr f78 (by omega);have x6:=x2.trans f6;rcases N with ⟨o,ho,rfl,rfl,rfl,rfl,U⟩|⟨R,rfl,hx⟩
  ·refine hJ1 u w8 o ho ((x6.fr f7).trans f78 λy hy he=>by omega) ?_ aB r8 (by omega);exact U.fr f78 λb hb he=>by
    have:iZ a b:=⟨1,hb⟩;obtain⟨k,hk⟩:=this;have:=h.lt k b hk;omega
  ·exact hJ0 u w8 12 (by decide) R ((x6.trans hx).nw f78)
end Go.Proofs.EN
end
section
namespace Gp.V4
theorem Oj (l:List UInt8):nY l<256^l.length:=by
 induction l with
 |nil=>simp[nY]
 |cons b l ih=>
  rw[Uu,aiQ,Nat.pow_succ];have:=b.toNat_lt;have h2:b.toNat * 256^l.length<=255 * 256^l.length:=al2 _ (by omega);omega
theorem VA:∀l:List UInt8,tot l<=65535 * l.length
 |[]=>by simp[tot]
 |[a]=>by have:=a.toNat_lt;simp[tot];omega
 |a::b::r=>by
  have:=a.toNat_lt;have:=b.toNat_lt;have:=VA r;simp only[tot,aiQ];omega
theorem Vz:∀(l m:List UInt8),l.length % 2=0->tot (l++m)=tot l+tot m
 |[],m,_=>by simp[tot]
 |[a],m,h=>by simp at h
 |a::b::r,m,h=>by
  simp only[alr,tot];rw[Vz r m (by simp at h;omega)];omega
theorem N_ (n:Nat):fold n<65536:=by unfold fold;split<;>omega
theorem Uc {n:Nat} (h:n<65536):fold n=n:=by unfold fold;split<;>omega
theorem XH {n:Nat} (h:65535<n):fold (n % 65536+n / 65536)=fold n:=by
 unfold fold;rw[ada (by omega),ada (by omega)];omega
instance (k:Int):Decidable (kV k):=inferInstanceAs (Decidable (_/\_))
instance (n k:Int):Decidable (jc n k):=inferInstanceAs (Decidable (_/\_))
instance (n:Int):Decidable (kU n):=inferInstanceAs (Decidable (_/\_))
instance (p:lV):Decidable p.fine:=inferInstanceAs (Decidable (_/\_))
instance (p:lV):Decidable p.short:=inferInstanceAs (Decidable (_/\_))
def lV.check (p:lV):Int:=if p.fine then if p.short then 0 else 6 else 1
theorem Ob (p:lV) (s:Nat):(p.head s).length=20+p.opts.length:=by
 simp only[lV.head,ahY,iT]
def ver (b:List UInt8):Nat:=((b[0]?).getD 0).toNat / 16
def mW (b:List UInt8) (quoted:Bool):Int:=
 if b.length<20 then 3
 else if ver b≠4\/hlen b<20 then 4
 else if b.length<hlen b\/(b.length<num b 2 2/\quoted=false) then 3
 else if num b 2 2<hlen b\/32768<=num b 6 2 then 4
 else 0
def qR (b:List UInt8) (quoted:Bool):Int:=
 if mW b quoted≠0 then mW b quoted
 else if quoted then 0
 else if fold (tot (b.take (hlen b)))≠65535 then 5
 else if (field b).check≠0 then 4
 else 0
def read (b:List UInt8) (quoted:Bool):lV:=if qR b quoted=0 then field b else lV.zero
theorem qC {p:lV} (h:p.check=0):p.fine/\p.short:=by
 unfold lV.check at h;split at h
 ·split at h
  ·exact⟨by assumption,by assumption⟩
  ·omega
 ·omega
theorem Qz {n:Int} (h:jc n 1):0<=n/\n<256:=⟨h.2.1,by have:=h.2.2;simpa using this⟩
theorem head_eq (p:lV) (s:Nat):p.head s=UInt8.ofNat (64+(20+p.opts.length) / 4)::UInt8.ofNat p.tos.toNat::UInt8.ofNat ((20+p.opts.length+p.data.length) / 256)::UInt8.ofNat (20+p.opts.length+p.data.length)::
  UInt8.ofNat (p.id.toNat / 256)::UInt8.ofNat p.id.toNat::UInt8.ofNat (p.bits / 256)::UInt8.ofNat p.bits::UInt8.ofNat p.ttl.toNat::UInt8.ofNat p.proto.toNat::UInt8.ofNat (s / 256)::UInt8.ofNat s::
  UInt8.ofNat (p.src.toNat / 16777216)::UInt8.ofNat (p.src.toNat / 65536)::UInt8.ofNat (p.src.toNat / 256)::UInt8.ofNat p.src.toNat::
  UInt8.ofNat (p.dst.toNat / 16777216)::UInt8.ofNat (p.dst.toNat / 65536)::UInt8.ofNat (p.dst.toNat / 256)::UInt8.ofNat p.dst.toNat::p.opts:=by
 simp[lV.head,jY]
theorem acs {p:lV} (h:p.fine):p.bits<32768:=by
 obtain⟨_,_,⟨h1,h2,h3,_⟩,_⟩:=h;unfold lV.bits;split<;>split<;>omega
end Gp.V4
end
section
namespace Go.Proofs.VN
open Gp Gp.V4
theorem Ya {w:θ} {s:fU} {l:List UInt8} (h:iD w s l) (hl:l.length<=2^62) (at_ k:Int):CY s at_ k w λr e w'=>w'=w/\
  if ¬kV k\/at_<0 then e=1/\r=⟨none,0,0⟩ else if (l.length:Int)<at_+k then e=3/\r=⟨none,0,0⟩ else e=0/\iD w r ((l.drop at_.toNat).take k.toNat)/\∀a,s.a=some a->r.a=some (a.add at_.toNat):=by
 apply Y9;have hlen:=h.1;refine cmS0 (zG k w) ?_;rintro r w1 ⟨rfl,rfl⟩;by_cases hk:kV k
 ·have hk1:=hk.1;have hk2:=hk.2;by_cases ha:at_<0
  ·simp only[hk,ha,ace,adp,aaU,aaT];exact⟨by trivial,by simp⟩
  ·have hno:¬(¬kV k\/at_<0):=by rintro(h|h)<;>contradiction
   simp only[hk,ha,ace,acQ,adp,aaT,not_true_eq_false,or_self,ajY];by_cases h1:((s.len:Int)<k)
   ·simp only[h1,ace,aaU];exact⟨by trivial,by rw[aeH (by omega)];exact⟨by trivial,by trivial⟩⟩
   ·simp only[h1,acQ,aaT];rw[Α (n:=(s.len:Int) - k) (by omega) (by omega)];by_cases h2:at_>(s.len:Int) - k
    ·simp only[h2,ace,aaU];exact⟨by trivial,by rw[aeH (by omega)];exact⟨by trivial,by trivial⟩⟩
    ·simp only[h2,acQ,aaT];rw[Α (n:=at_+k) (by omega) (by omega)];have hcap:=h.2.2;refine⟨by omega,by omega,by omega,by omega,by trivial,?_⟩;rw[ada (by omega)];have hc:=h.cut (lo:=at_.toNat) (hi:=(at_+k).toNat) (by omega) (by omega) (at_+k).toNat (ai8 _) (at_+k).toNat (λe=>by omega);rw[List.drop_take,show (at_+k).toNat - at_.toNat=k.toNat by omega] at hc;refine⟨by trivial,?_,λa u=> ?_⟩
     ·rw[show (at_+k).toNat - at_.toNat=k.toNat by omega];exact hc
     ·have I:¬((at_+k).toNat=at_.toNat):=by omega
      simp only[qU,I,ajY,u,ag4,aiG]
 ·simp only[hk,acQ,afa,aaU];exact⟨by trivial,by simp⟩
theorem aah {n x:Nat} (hn:n<2^40) (hx:x<256):orI .i64 (Lu .i64 (n:Int) 8) (x:Int)=((n * 256+x:Nat):Int):=by
 have e0:Lu .i64 (n:Int) 8=((n * 256:Nat):Int):=by
  unfold Lu;have:(2:Int)^(min (8:Int).toNat (IntKind.bits .i64))=256:=by decide
  rw[this,Α];omega
 rw[e0];unfold orI;have eb:IntKind.bits .i64=64:=rfl;have h1:(BitVec.ofInt (IntKind.bits .i64) ((n * 256:Nat):Int)).toNat=n * 256:=by
  rw[eb,als];omega
 have h2:(BitVec.ofInt (IntKind.bits .i64) (x:Int)).toNat=x:=by
  rw[eb,als];omega
 rw[BitVec.toNat_or,h1,h2];have h3:n * 256|||x=n * 256+x:=by
  have:=Nat.two_pow_add_eq_or_of_lt (i:=8) (b:=x) (by omega) n;rw[show (2:Nat)^8=256 by decide] at this;rw[Nat.mul_comm n 256,this]
 rw[h3,Α]
theorem Uw {l:List UInt8} (h:l.length<=4):nY l<2^32:=by
 have h1:=Oj l;have:(256:Nat)^l.length<=256^4:=al6 (by omega) h;have e:(256:Nat)^4=4294967296:=by decide
 omega
theorem Ux (l:List UInt8) {i:Nat} (h:i<l.length):nY (l.take (i+1))=nY (l.take i) * 256+l[i].toNat:=by
 unfold nY;rw[aj3 h,List.foldl_append];rfl
def ML (l:List UInt8) (at_ k:Int) (n e:Int):Prop:=
 if ¬kV k\/at_<0 then e=1/\n=0 else if (l.length:Int)<at_+k then e=3/\n=0 else e=0/\n=(num l at_.toNat k.toNat:Int)
theorem Pz {w:θ} {s:fU} {l:List UInt8} (h:iD w s l) (hl:l.length<=2^62) (at_ k:Int):yZ s at_ k w λn e w'=>w'=w/\ML l at_ k n e:=by
 apply ad5;refine cmS7 (Ya h hl at_ k) ?_;rintro r e w1 ⟨rfl,hr⟩;have main:∀(m:List UInt8),iD w1 r m->m.length<=4->∀(K:Int->Prop),K (nY m:Int)->iH (S:=Int×Int×Unit) (λs7 w8 next9=>
   (bif (decide (s7.2.1<(r.len:Int))) then
    iE r 1 s7.2.1 λN=>Ld (.int .u8) w8 N λO=>0<=(8:Int)/\next9 ((orI .i64 (Lu .i64 s7.1 8) (ο.wrap O)),(ο.wrap (s7.2.1+1)),()) w8
   else (w8=w1/\K s7.1))) (0,0,()) w1:=by
  intro m hm hm4 K hK;have hml:=hm.1;refine gI (λst W=>W=w1/\∃i:Nat,i<=m.length/\st.2.1=i/\st.1=(nY (m.take i):Int)) (λst _=>m.length - st.2.1.toNat) ⟨rfl,0,by omega,rfl,rfl⟩ ?_;rintro⟨n,j,⟨⟩⟩ W ⟨rfl,i,hi,rfl,rfl⟩ next I
  by_cases J:i<m.length
  ·have u:((i:Int)<(r.len:Int)):=by omega
   simp only[u,ace,aaU];obtain⟨a,ha,hc⟩:=hm.at_ (ade J);refine⟨a,ha,by omega,by omega,?_⟩;simp only[sx,ab3,aiG,hc];refine⟨by omega,?_⟩;have hb:=m[i].toNat_lt;have hn2:nY (m.take i)<2^32:=Uw (by simp;omega);rw[Α (n:=((m[i].toNat:Nat):Int)) (by omega) (by omega),aah (by omega) (by omega),Α];refine I _ _ ⟨rfl,i+1,by omega,by simp,?_⟩ (by simp only;omega);simp only[Ux _ J]
  ·have u:¬((i:Int)<(r.len:Int)):=by omega
   simp only[u,acQ,aaT];have:i=m.length:=by omega
   subst this;rw[akY];exact⟨trivial,hK⟩
 by_cases c1:¬kV k\/at_<0
 ·rw[aeH c1] at hr;obtain⟨rfl,rfl⟩:=hr;exact main [] iD.nil (by simp) (λn=>ML l at_ k n 1) (by unfold ML;rw[aeH c1];exact⟨rfl,rfl⟩)
 ·rw[ada c1] at hr;by_cases c2:(l.length:Int)<at_+k
  ·rw[aeH c2] at hr;obtain⟨rfl,rfl⟩:=hr;exact main [] iD.nil (by simp) (λn=>ML l at_ k n 3) (by unfold ML;rw[ada c1,aeH c2];exact⟨rfl,rfl⟩)
  ·rw[ada c2] at hr;obtain⟨rfl,hr,_⟩:=hr;refine main _ hr ?_ (λn=>ML l at_ k n 0) (by unfold ML;rw[ada c1,ada c2];exact⟨rfl,rfl⟩);have hk:kV k:=alL λh=>c1 (.inl h);have:=hk.2;simp;omega
theorem acM {l:List UInt8} {at_ k:Nat} {n e:Int} (hk:1<=k/\k<=4) (h:at_+k<=l.length) (hr:ML l at_ k n e):n=(num l at_ k:Int):=by
 unfold ML at hr;rw[ada (by unfold kV;omega),ada (by omega)] at hr;simpa using hr.2
theorem Fb {w0 w:θ} {s:fU} {v:Value} {l m:List UInt8} (hs:Buf w s (bytesV l)) (hv:RQ w0 w v m) (hd:∀b,fU.at s b->¬(w0.heap.size<=b/\b<w.heap.size)) (hl:l.length+m.length<=2^46):
  jC s v w λr w'=>Buf w' r (bytesV (l++m))/\gV w w' (fU.at s)/\(∀b,fU.at r b->fU.at s b\/w.heap.size<=b)/\(r.a=none->l++m=[]/\s.a=none):=by
 obtain⟨C,hi,hC⟩:=hv;apply pW;refine⟨rfl,gy λa w1 r1 e1 z1 f1=> ?_⟩;have hlen:(yB m).length=m.length:=by simp[yB]
 have u:∀b,fU.at s b->b<w.heap.size:=λb hb=>hs.lt hb;refine vC hi (λi W=>∃t:fU,Row W a [Δ t]/\Buf W t (bytesV (l++m.take i))/\gV w W (fU.at s)/\(∀b,fU.at t b->fU.at s b\/(w.heap.size<=b/\b≠a/\b≠kT none w1/\b≠w1.heap.size))/\(t.a=none->l++m.take i=[]/\s.a=none)/\kT none w1<W.heap.size)
  (λ_ _=>False) (by simp) ?_ ?_ ?_ (by intro e W W' h;exact h.elim) (by intro e W h;exact h.elim) ?_ ?_ (by intro W h;exact h.elim) (by intro id W h;exact h.elim)
 ·intro w2 f2 z2;refine⟨s,r1.ext f2,by simpa using (hs.ext f1).ext f2,(f1.trans f2) _,λb hb=> .inl hb,?_,by omega⟩;simp only[List.take_zero,List.append_nil];intro ha;obtain⟨_,⟨_,h2,_⟩|⟨c,pad,h2,_⟩⟩:=hs
  ·exact⟨by simpa [bytesV] using h2,ha⟩
  ·rw[ha] at h2;cases h2
 ·rintro i W ⟨t,_,_,hf,_⟩;exact hC W _ hf λb h1 h2 h3=>hd b h3 ⟨h1,h2⟩
 ·rintro i W W' ⟨t,h1,h2,h3,h4,h5,h6⟩ hf;have J:kT none w1=w1.heap.size+1:=rfl;refine⟨t,h1.fr hf (by omega),h2.fr hf λb hb e=> ?_,h3.trans hf (λb hb e=>by omega),h4,h5,by have:=hf.size;omega⟩;rcases h4 b hb with h|h
  ·have:=u b h;omega
  ·omega
 ·intro i x W Kb hx ⟨t,h1,h2,h3,h4,h5,h6⟩ hlt I _;refine⟨rfl,?_⟩;have J:kT none w1=w1.heap.size+1:=rfl;rw[acn] at hx
  cases hb:m[i]? with
  |none=>rw[hb] at hx;simp at hx
  |some y=>
  rw[hb] at hx;simp only[ag4,agP] at hx;subst hx;have fb:=gV.gu W (kT none w1);have h1':=h1.fr fb (by omega);have h2':Buf (gu W (kT none w1)) t (bytesV (l++m.take i)):=h2.fr fb λb hb e=>by
   rcases h4 b hb with h|h
   ·have:=u b h;omega
   ·omega
  simp only[sx,aeI,h1'.cell];have N:i<m.length:=(aeK.1 hb).1;refine gy λc w3 r3 e3 z3 f3=> ?_;have hz3:w3.heap.size=W.heap.size+1:=by rw[z3,e3];simp[gu]
  have hx3:iD w3 ⟨some ⟨c,0,none⟩,1,1⟩ [y]:= .iG (iD.row (l:=[y]) (by simpa [bytesV] using r3));have h2'':=h2'.ext f3;refine jv h2'' hx3 (by simp;omega) λs' w4 b4 f4 p4 n4=> ?_;have O:¬fU.at t a:=λh=>by
   rcases h4 a h with h|h
   ·have:=u a h;omega
   ·exact h.2.1 rfl
  have h1'':=(h1'.ext f3).fr f4 O;refine gY h1'' rfl (by simp) λw5 r5 f5 z5=> ?_;simp only[af7] at r5;have hbz:(gu W (kT none w1)).heap.size=W.heap.size:=by simp[gu]
  have R:∀b,fU.at s' b->b≠a:=λb hb e=>by
   rcases p4 b hb with h|h
   ·exact O (e ▸ h)
   ·have:=h1.lt;omega
  refine I w5 (λb=>fU.at t b\/b=a) ?_ ?_ ⟨s',r5,?_,?_,?_,?_,?_⟩
  ·exact((f3 _).trans (f4.mono λb h=> .inl h) λ_ _ e=>e).trans (f5 (λb=>fU.at t b\/b=a) (.inr rfl)) λ_ _ e=>e
  ·rintro b hb1 hb2 (h|h)
   ·rcases h4 b h with h|h
    ·have:=u b h;omega
    ·rcases Nat.lt_or_ge b (kT none w1) with hx|hx<;>omega
   ·omega
  ·have e:l++m.take (i+1)=l++m.take i++[y]:=by
    rw[aj3 N];have:m[i]=y:=by rw[ade N] at hb;simpa using hb
    simp[this]
   rw[e];exact b4.fr (f5 (·=a) rfl) λb hb e=>R b hb e
  ·refine((h3.trans fb λb hb e=>by omega).ext f3).trans (S':=λb=>fU.at t b\/b=a) ((f4.mono λb h=> .inl h).trans (f5 (λb=>fU.at t b\/b=a) (.inr rfl)) λ_ _ e=>e) ?_;rintro b hb (h|h)
   ·rcases h4 b h with h|h
    ·exact h
    ·omega
   ·omega
  ·intro b hb;rcases p4 b hb with h|h
   ·exact h4 b h
   ·refine .inr ⟨by have:=h3.size;omega,R b hb,?_,?_⟩<;>omega
  ·intro ha;obtain⟨h1,h2⟩:=n4 ha;simp at h1
  ·have:=f4.size;omega
 ·rintro W ⟨t,h1,h2,h3,h4,h5,h6⟩ hm;have J:kT none w1=w1.heap.size+1:=rfl;simp only[sx,aeI,h1.cell];rw[hlen,akY] at h2 h5;refine⟨hm rfl,?_,?_,?_,h5⟩
  ·exact h2.fr (gV.mF _ _ _) λb hb e=>by
    rcases h4 b hb with h|h
    ·have:=u b h;omega
    ·omega
  ·exact h3.trans (gV.mF _ _ _) λb hb e=>by omega
  ·intro b hb;rcases h4 b hb with h|h
   ·exact .inl h
   ·exact .inr h.1
end Go.Proofs.VN
end
section
namespace Go.Proofs.VN
open Gp Gp.V4
theorem abg {w0 w:θ} {v:Value} {m:List UInt8} (hv:RQ w0 w v m) (hl:m.length<=2^46):
  ru v w λr w'=>Buf w' r (bytesV m)/\Ext w w'/\(∀b,fU.at r b->w.heap.size<=b):=by
 apply Gy;refine cmS2 (Fb (l:=[]) Buf.nil hv (by rintro b ⟨o,h⟩;cases h) (by simp_all)) ?_;rintro r w1 ⟨h1,f1,h2,_⟩;refine⟨by simpa using h1,f1.new ?_,λb hb=> ?_⟩
 ·rintro b _ ⟨o,h⟩;cases h
 ·rcases h2 b hb with ⟨o,h⟩|h
  ·cases h
  ·exact h
theorem set_mid {α:Type} (A:List α) (ys:List α) (R:List α) {i:Nat} {y:α} (hi:ys[i]? =some y) (hR:0<R.length):
  (A++ys.take i++R).set (A.length+i) y=A++ys.take (i+1)++R.drop 1:=by
 have h:=(aeK.1 hi).1;have e:(A++ys.take i).length=A.length+i:=by simp;omega
 rw[alS _ _ (by omega),e,Nat.sub_self]
 cases R with
 |nil=>simp at hR
 |cons r R=>
  simp only[af7,List.drop_succ_cons,amo];rw[aj3 h]
  simp_all
structure akA (l:List UInt8) (at_ n k:Int) (w:θ) (r:fU) (e:Int):Prop where
 out:if ¬jc n k\/at_<0 then e=1/\r=⟨none,0,0⟩ else if (l.length:Int)<at_+k then e=3/\r=⟨none,0,0⟩ else e=0/\Buf w r (bytesV (l.take at_.toNat++jY k.toNat n.toNat++l.drop (at_.toNat+k.toNat)))
theorem Vr {w:θ} {s:fU} {l:List UInt8} (hs:iD w s l) (hl:l.length<=2^46) (at_ n k:Int):
  zi s at_ n k w λr e w'=>akA l at_ n k w' r e/\Ext w w'/\(∀b,fU.at r b->w.heap.size<=b):=by
 apply ad7;refine cmS0 (rQ n k w) ?_;rintro _ _ ⟨rfl,rfl⟩;by_cases hf:jc n k
 ·simp only[hf,ace,adp,aaT];refine cmS2 (nR hs (by omega)) ?_;rintro r w1 ⟨b1,_,f1,n1⟩;have hk:=hf.1;refine cmS7 (Ya (iD.iG b1) (by omega) at_ k) ?_;rintro r2 e w2 ⟨rfl,hr⟩;by_cases c1:at_<0
  ·rw[aeH (.inr c1)] at hr;obtain⟨rfl,rfl⟩:=hr;refine⟨?_,f1,by rintro b ⟨o,h⟩;cases h⟩;refine⟨?_⟩;rw[aeH (.inr c1)];trivial
  have c1':¬(¬kV k\/at_<0):=by rintro(h|h)<;>contradiction
  have c1'':¬(¬jc n k\/at_<0):=by rintro(h|h)<;>contradiction
  rw[ada c1'] at hr;by_cases c2:(l.length:Int)<at_+k
  ·rw[aeH c2] at hr;obtain⟨rfl,rfl⟩:=hr;refine⟨?_,f1,by rintro b ⟨o,h⟩;cases h⟩;refine⟨?_⟩;rw[ada c1'',aeH c2];trivial
  rw[ada c2] at hr;obtain⟨rfl,hr,ha⟩:=hr;simp only[show ((0:Int) !=0)=false from rfl,aaT];refine cmS4 (Xz hk hf.2.1 _) ?_;rintro v w3 ⟨f3,hv⟩;refine cmS2 (abg hv (by rw[iT];omega)) ?_;rintro q w4 ⟨b4,f4,n4⟩;obtain⟨m,rfl⟩:∃m:Nat,k=(m:Int):=⟨k.toNat,by have:=hk.1;omega⟩;obtain⟨o,rfl⟩:∃o:Nat,at_=(o:Int):=⟨at_.toNat,by omega⟩;simp only[ab3] at hr ha b4;have hq:=b4.1;rw[jI,iT] at hq;have N:(jY m n.toNat).length=m:=iT _ _;have O:=hr.1;simp only[ajT,alx] at O;have R:∀b,fU.at q b->¬fU.at r b:=λb h1 h2=>by
   have:=n4 b h1;have:=b1.lt h2;have:=f3.size;omega
  refine gI (λst W=>∃i:Nat,i<=m/\st.1=i/\Buf W r (bytesV (l.take o++(jY m n.toNat).take i++l.drop (o+i)))/\Buf W q (bytesV (jY m n.toNat))/\gV w4 W (fU.at r))
   (λst _=>m - st.1.toNat) ⟨0,by omega,rfl,by simpa using (b1.ext f3).ext f4,b4,gV.refl _ _⟩ ?_
  rintro⟨x,⟨⟩⟩ W ⟨i,hi,rfl,h1,h2,h3⟩ next I
  by_cases hlt:i<m
  ·have u:((i:Int)<(q.len:Int)):=by omega
   simp only[u,ace,aaU];have hy:(jY m n.toNat)[i]? =some (jY m n.toNat)[i]:=ade (by omega);obtain⟨a,U,hc⟩:=(iD.iG h2).at_ hy;refine⟨a,U,by omega,by omega,?_⟩;simp only[sx,ab3,aiG,hc];have hol:o+i<l.length:=by omega
   obtain⟨b,hb,J⟩:=h1.set (i:=o+i) (by simp[jI,N];omega);have Y:=ha _ hb;refine⟨_,Y,by omega,by omega,?_⟩;rw[O4];simp only[sx,ab3,aiG];refine J _ _ rfl λw5 b5 f5 z5=> ?_;rw[Α];refine I _ _ ⟨i+1,by omega,by simp,?_,h2.fr f5 (λb hb h=>R b hb h),h3.trans f5 λ_ _ h=>h⟩ (by omega);have e:=set_mid (l.take o) (jY m n.toNat) (l.drop (o+i)) hy (by simp;omega);rw[ajT,alH (by omega)] at e;have e':(bytesV (l.take o++(jY m n.toNat).take i++l.drop (o+i))).set (o+i) (.int .u8 (jY m n.toNat)[i].toNat)=bytesV (l.take o++(jY m n.toNat).take (i+1)++l.drop (o+(i+1))):=by
    rw[show l.drop (o+(i+1))=(l.drop (o+i)).drop 1 by simp;omega,<- e];unfold bytesV;simp
   rw[e'] at b5;exact b5
  ·have u:¬((i:Int)<(q.len:Int)):=by omega
   simp only[u,acQ,aaT];have:i=m:=by omega
   subst this;refine⟨?_,((f1.trans f3).trans f4).new h3 λb hb h=>by grind,n1⟩;refine⟨?_⟩;rw[ada c1'',ada c2];refine⟨rfl,?_⟩;rw[akM (l:=jY i n.toNat) (by omega)] at h1;simpa using h1
 ·simp only[hf,acQ,afa,aaU];refine⟨?_,Ext.refl _,by rintro b ⟨o,h⟩;cases h⟩;refine⟨?_⟩;rw[aeH (.inl hf)];trivial
theorem SC {l:List UInt8} {at_ n k:Int} {w:θ} {r:fU} {e:Int} (h1:jc n k) (h2:0<=at_) (h3:at_+k<=l.length) (h:akA l at_ n k w r e):e=0/\Buf w r (bytesV (l.take at_.toNat++jY k.toNat n.toNat++l.drop (at_.toNat+k.toNat))):=by
 have:=h.out
 grind
def wordAt (l:List UInt8) (j:Nat):Nat:=((l[j]?).getD 0).toNat * 256+((l[j+1]?).getD 0).toNat
def wB (l:List UInt8):List (zI [.one ν,.one ν]):=(List.range ((l.length+1) / 2)).map λi=>(((2 * i:Nat):Int),((wordAt l (2 * i):Nat):Int),())
theorem Qq (l:List UInt8):(wB l).length=(l.length+1) / 2:=by simp[wB]
theorem ZR (l:List UInt8) {i:Nat} (h:2 * i<l.length):(wB l)[i]? =some (((2 * i:Nat):Int),((wordAt l (2 * i):Nat):Int),()):=by
 simp only[wB,aiN]
 grind
theorem aaG (l:List UInt8) {i:Nat} (h:2 * i<l.length):tot (l.take (2 * (i+1)))=tot (l.take (2 * i))+wordAt l (2 * i):=by
 have e:l.take (2 * (i+1))=l.take (2 * i)++(l.drop (2 * i)).take 2:=by
  grind
 rw[e,Vz _ _ (by simp;omega)];congr 1;unfold wordAt;rw[<- amg,show l[2 * i]? =(l.drop (2 * i))[0]? by simp]
 match hd:l.drop (2 * i) with
 |[]=>rfl
 |[a]=>simp[tot]
 |a::b::r=>simp[tot]
theorem EY (l:List UInt8) (j:Nat):wordAt l j<65536:=by
 unfold wordAt;have h1:=((l[j]?).getD 0).toNat_lt;have h2:=((l[j+1]?).getD 0).toNat_lt;omega
theorem Nz {s:fU} {f0:Nat} {l:List UInt8} (hl:l.length<=2^46):
  pX υ [.one ν,.one ν] (Value.func (.func Y1) #[] #[(Value.pointer (some ⟨f0,0,none⟩))])
   (λW=>Row W f0 [Δ s]/\iD W s l) (wB l):=by
 refine⟨by kernel_rfl,λn Q D hC hQ hD hy w h0=> ?_⟩;refine Calls.mono (Wj ?_) (λe w' h=>h);rw[Qq];refine gI (λst W=>∃i:Nat,i<=(l.length+1) / 2/\st.1=((2 * i:Nat):Int)/\Q i W) (λst _=>l.length+1 - st.1.toNat) ⟨0,by omega,rfl,h0⟩ ?_;rintro⟨x,⟨⟩⟩ W ⟨i,hi,rfl,hq⟩ next J
 obtain⟨r0,hs⟩:=hC _ _ hq;have hsl:=hs.1;simp only[sx,r0.cell];by_cases R:2 * i<l.length
 ·have I:(((2 * i:Nat):Int)<(s.len:Int)):=by omega
  simp only[I,ace,aaU];obtain⟨a,ha,hc⟩:=hs.at_ (ade R);refine⟨a,ha,by omega,by omega,?_⟩;rw[ab3];simp only[aiG,f_,gq,hc];refine⟨by omega,?_⟩;have hb:=l[2 * i].toNat_lt;have fin:jy υ [.one .bool] (.func (.yield n) #[] #[]) [Β ((2 * i:Nat):Int),Β ((wordAt l (2 * i):Nat):Int)] W (λY N=>
    ∃U:Bool,Y=(Value.bool U)/\(bif (!U) then (Q ((l.length+1) / 2) N\/D N) else next ((ο.wrap (((2 * i:Nat):Int)+2)),()) N)):=by
   refine jW (hy i (((2 * i:Nat):Int),((wordAt l (2 * i):Nat):Int),()) W _ (ZR l R) hq ?_ ?_)
   ·intro W' hq';refine⟨true,rfl,?_⟩;simp only[adp,aaT];rw[Α];exact J _ _ ⟨i+1,by omega,by rfl,hq'⟩ (by omega)
   simp_all
  rw[Α,Α];by_cases O:2 * i+1<l.length
  ·have u:(((2 * i:Nat):Int)+1<(s.len:Int)):=by omega
   simp only[u,ace,aaU];obtain⟨a',ha',hc'⟩:=hs.at_ (ade O);refine⟨a',ha',by omega,by omega,?_⟩;rw[show (((2 * i:Nat):Int)+1).toNat=2 * i+1 by omega];simp only[aiG,f_,gq,hc'];have hb':=l[2 * i+1].toNat_lt;rw[Α,aah (by omega) (by omega)];have e:wordAt l (2 * i)=l[2 * i].toNat * 256+l[2 * i+1].toNat:=by
    unfold wordAt
    simp_all
   rw[e] at fin;exact fin
  ·have u:¬(((2 * i:Nat):Int)+1<(s.len:Int)):=by omega
   simp only[u,acQ,aaT];have e0:Lu .i64 (l[2 * i].toNat:Int) 8=((l[2 * i].toNat * 256:Nat):Int):=by
    have:=ah5 (a:=l[2 * i].toNat) (k:=8) (by omega) (by omega);trivial
   rw[e0];have e:wordAt l (2 * i)=l[2 * i].toNat * 256:=by
    unfold wordAt
    simp_all
   rw[e] at fin;exact fin
 ·have I:¬(((2 * i:Nat):Int)<(s.len:Int)):=by omega
  simp only[I,acQ,aaT]
  grind
def Parts (w:θ) (s:fU) (ps:List (fU×List UInt8)):Prop:=
 s.len=ps.length/\(∀i p,ps[i]? =some p->∃b o,s.a=some ⟨b,o,none⟩/\w.cell? ⟨b,o+i,none⟩=some (.slice p.1.a p.1.len p.1.cap)/\iD w p.1 p.2)
theorem Parts.fr {w w':θ} {s:fU} {ps:List (fU×List UInt8)} (h:Parts w s ps) (hf:Ext w w'):Parts w' s ps:=
 ⟨h.1,λi p hi=>by obtain⟨b,o,h1,h2,h3⟩:=h.2 i p hi;exact⟨b,o,h1,kQ h2 hf,h3.ext hf⟩⟩
def rY (ps:List (fU×List UInt8)):Nat:=(ps.map λp=>tot p.2).foldr (·+·) 0
theorem X9 {ps:List (fU×List UInt8)} {i:Nat} {p:fU×List UInt8} (h:ps[i]? =some p):rY (ps.take (i+1))=rY (ps.take i)+tot p.2:=by
 have u:=(aeK.1 h).1;rw[aj3 u];have:ps[i]=p:=by simp_all
 rw[this];unfold rY;generalize ps.take i=q
 induction q with
 |nil=>simp
 |cons x q ih=>grind
theorem ac4 {ps:List (fU×List UInt8)} {n:Nat} (h:∀p∈ps,p.2.length<=n):rY ps<=ps.length * (65535 * n):=by
 unfold rY
 induction ps with
 |nil=>simp
 |cons p ps ih=>
  simp only[ajU,List.foldr_cons,aiQ];have h1:=VA p.2
  grind
theorem aaH {w:θ} {s:fU} {ps:List (fU×List UInt8)} (hs:Parts w s ps) (hn:ps.length<=64) (hl:∀p∈ps,p.2.length<=2^40):
  Dj s w λr w'=>r=(rY ps:Int)/\Ext w w':=by
 apply Zo;refine gy λa w1 r1 e1 z1 f1=> ?_;refine gY r1 rfl (by simp) λw2 r2 f2 z2=> ?_;have hsl:=hs.1;have x2:=f1.new (f2 (·=a) rfl) λb hb e=>by omega
 have N:∀i,rY (ps.take i)<=2^62:=λi=>by
  have h1:=ac4 (ps:=ps.take i) (n:=2^40) λp hp=>hl p (ams hp)
  grind
 refine gI (λst W=>∃i:Nat,i<=ps.length/\st.1.1=i/\Row W a [Β (rY (ps.take i):Int)]/\Ext w W/\(∀d∈st.2,w2.heap.size<=d/\d<W.heap.size/\W.heap[d]? =some (.deferred (some [])))/\st.2.Nodup/\w2.heap.size<=W.heap.size)
  (λst _=>ps.length - st.1.1.toNat) ⟨0,by omega,rfl,by simpa [rY] using r2,x2,by simp,by simp,ai8 _⟩ ?_
 rintro⟨⟨x,⟨⟩⟩,ds⟩ W ⟨i,hi,rfl,h1,h2,h3,h4,h5⟩ next I
 by_cases R:i<ps.length
 ·have u:((i:Int)<(s.len:Int)):=by omega
  simp only[u,ace,aaU];obtain⟨b,o,ha,hc,hb⟩:=(hs.fr h2).2 i _ (ade R);refine⟨_,ha,by omega,by omega,?_⟩;simp only[sx,ab3,aiG,hc];generalize hp:ps[i]=p at hc hb;have O:ps[i]? =some p:=by simp_all
  have hpl:=hl p (akK O);apply IY;refine⟨rfl,gy λc w3 r3 e3 z3 f3=> ?_⟩;have U:∀j,tot (p.2.take j)<=2^60:=λj=>by
   have:=VA (p.2.take j)
   grind
  have haw:a<w2.heap.size:=by omega
  have hla:kT none w3=w3.heap.size+1:=rfl;have hsz:=h2.size;have hbw:∀a',p.1.a=some a'->0<p.2.length->a'.block<w.heap.size:=λa' h h'=>by
   obtain⟨b',o',_,_,hb'⟩:=hs.2 i p O;exact hb'.lt h h'
  refine vC (Nz (s:=p.1) (l:=p.2) (by omega)) (λj W'=>Row W' a [Β ((rY (ps.take i)+tot (p.2.take (2 * j)):Nat):Int)]/\gV w3 W' (·=a)/\w3.heap.size+2<=W'.heap.size)
   (λ_ _=>False) (by simp) ?_ ?_ ?_ (by simp) (by simp) ?_ ?_ (by intro W h;exact h.elim) (by intro id W h;exact h.elim)
  ·intro w4 f4 z4;exact⟨by simpa [tot] using (h1.ext f3).ext f4,f4 _,by omega⟩
  ·exact λj W' h=>⟨r3.fr h.2.1 (by omega),(hb.ext f3).fr h.2.1 λa' ha' hl' e=>by simp_all⟩
  ·rintro j W' W'' ⟨g1,g5,g6⟩ hf;exact⟨g1.fr hf (by omega),g5.trans hf λb hb e=>by omega,by have:=hf.size;omega⟩
  ·intro j x W' Kb hx ⟨g1,g5,g6⟩ hlt3 J _;refine⟨by trivial,?_⟩;have hj:2 * j<p.2.length:=by
    have:=(aeK.1 hx).1;rw[Qq] at this;omega
   rw[ZR _ hj] at hx;simp only[agP] at hx;subst hx;have fb:=gV.gu W' (kT none w3);have g1':=g1.fr fb (by omega);simp only[aeI,f_,gq,g1'.cell];refine gY g1' rfl (by simp) λw5 r5 f5 z5=> ?_;refine J w5 (·=a) (f5 _ rfl) (λb hb1 hb2 e=>by omega) ⟨?_,(g5.trans fb λb hb e=>by omega).trans (f5 (·=a) rfl) λb hb e=>e,by simp[gu] at z5;omega⟩;simp only[af7] at r5;have:=N i;have:=U (2 * j);have:=EY p.2 (2 * j);rw[Α] at r5;rw[aaG _ hj];have e:((rY (ps.take i)+tot (p.2.take (2 * j)):Nat):Int)+((wordAt p.2 (2 * j):Nat):Int)=((rY (ps.take i)+(tot (p.2.take (2 * j))+wordAt p.2 (2 * j)):Nat):Int):=by omega
   rw[e] at r5;exact r5
  ·rintro W' ⟨g1,g5,g6⟩ hm;have hmk:=hm rfl;rw[Qq,akM (l:=p.2) (by omega)] at g1;rw[Α];have hx:Ext w W':=(h2.trans f3).new g5 λb hb e=>by omega
   refine I _ _ ⟨i+1,by omega,by simp,by rw[X9 O];exact g1,hx,?_,?_,by omega⟩ (by grind)
   ·intro d hd;rcases agN.1 hd with rfl|hd
    ·grind
    ·obtain⟨q1,q2,q3⟩:=h3 d hd;refine⟨q1,by omega,?_⟩;rw[g5.same d (by omega) (by omega),(f3 λ_=>False).same d (by omega) (by simp)];exact q3
   grind
 ·have u:¬((i:Int)<(s.len:Int)):=by omega
  simp only[u,acQ,aaT];have:i=ps.length:=by omega
  subst this;rw[akY] at h1;simp only[sx,h1.cell];refine Ey (n:=w2.heap.size) ds W (λd hd=>⟨(h3 d hd).1,(h3 d hd).2.2⟩) h4 λw6 f6 z6=>⟨by trivial,h2.new f6 λb hb e=>by omega⟩
end Go.Proofs.VN
end
section
namespace Go.Proofs.VN
open Gp Gp.V4
theorem acL {m:Nat} (hm:m<2^62) (w:θ):FY (m:Int) w λr w'=>r=(fold m:Int)/\w'=w:=by
 apply aad;have h0:¬((0:Int)>(m:Int)):=by omega
 simp only[h0,ajY];refine gI (λst W=>W=w/\∃x:Nat,x<2^62/\st.1=(x:Int)/\fold x=fold m) (λst _=>st.1.toNat) ⟨rfl,m,hm,rfl,rfl⟩ ?_;rintro⟨x,⟨⟩⟩ W ⟨rfl,n,hn,rfl,hf⟩ next u
 by_cases I:65535<n
 ·have h:((n:Int)>65535):=by omega
  simp only[h,ace,aaU];refine⟨by omega,?_⟩;have e1:lu .i64 (n:Int) 65535=((n % 65536:Nat):Int):=by
   have:=NK (a:=n) (b:=65535) (by omega) (by omega);rw[show (65535:Nat)=2^16 - 1 by decide,JG] at this;exact this
  have e2:jE .i64 (n:Int) 16=((n / 65536:Nat):Int):=DC (k:=16) (by omega);rw[e1,e2,Α];exact u _ _ ⟨rfl,n % 65536+n / 65536,by omega,by rfl,by rw[XH I,hf]⟩ (by omega)
 ·have h:¬((n:Int)>65535):=by omega
  simp only[h,acQ,aaT];exact⟨by rw[<- hf,Uc (by omega)],by trivial⟩
theorem ac5 {ps:List (fU×List UInt8)} (hn:ps.length<=64) (hl:∀p∈ps,p.2.length<=2^40) (i:Nat):rY (ps.take i)<2^62:=by
 have h1:=ac4 (ps:=ps.take i) λp hp=>hl p (ams hp)
 grind
theorem aaE {ps:List (fU×List UInt8)} (hn:ps.length<=64) (hl:∀p∈ps,p.2.length<=2^40):rY ps<2^62:=by
 have:=ac5 hn hl ps.length
 simp_all
theorem aeV {w:θ} {s:fU} {ps:List (fU×List UInt8)} (hs:Parts w s ps) (hn:ps.length<=64) (hl:∀p∈ps,p.2.length<=2^40):
  JH s w λr w'=>r=(fold (rY ps):Int)/\Ext w w':=by
 apply abU;refine cmS1 (aaH hs hn hl) ?_;rintro _ w1 ⟨rfl,f1⟩;refine cmS1 (acL (aaE hn hl) w1) ?_
 grind
theorem Uy {w:θ} {s:fU} {ps:List (fU×List UInt8)} (hs:Parts w s ps) (hn:ps.length<=64) (hl:∀p∈ps,p.2.length<=2^40):
  Ig s w λr w'=>r=((65535 - fold (rY ps):Nat):Int)/\Ext w w':=by
 apply ad8;refine cmS1 (aeV hs hn hl) ?_;rintro _ w1 ⟨rfl,f1⟩;have:=N_ (rY ps);exact⟨by rw[Α];omega,f1⟩
theorem Qp {w:θ} {s:fU} {ps:List (fU×List UInt8)} (hs:Parts w s ps) (hn:ps.length<=64) (hl:∀p∈ps,p.2.length<=2^40):
  zl s w λr w'=>r=decide (fold (rY ps)=65535)/\Ext w w':=by
 apply Zn;refine cmS1 (aeV hs hn hl) ?_
 grind
theorem EP {w:θ} {b:Nat} {s:fU} {l:List UInt8} (h:Row w b [Δ s]) (hs:iD w s l):Parts w ⟨some ⟨b,0,none⟩,1,1⟩ [(s,l)]:=by
 refine⟨rfl,λi p hi=> ?_⟩
 cases i with
 |zero=>
  simp at hi;subst hi;exact⟨b,0,rfl,by rw[h.cell];rfl,hs⟩
 |succ i=>simp at hi
theorem OY (s:fU) (l:List UInt8):rY [(s,l)]=tot l:=by simp[rY]
theorem BM (n:Int) (w:θ):lS n w λr w'=>r=decide (kU n)/\w'=w:=by
 apply LM;by_cases h1:n>=0
 ·have h1':=h1;simp[h1',kU]
 ·have h1':=h1;simp[h1',kU]
theorem O6 {w:θ} {b:Nat} {l:List Bool} {vs:List Value} (h:Row w b vs) (hv:vs=l.map Value.bool) (n:Nat) (hn:n=l.length) (hl:l.length<=100):zn ⟨some ⟨b,0,none⟩,n,n⟩ w λr w'=>r=l.all id/\w'=w:=by
 subst hv;apply ad9;apply zQ;apply CU;subst hn;refine gI (λst W=>W=w/\∃i:Nat,i<=l.length/\st.1=(i:Int)/\(l.take i).all id=true) (λst _=>l.length - st.1.toNat) ⟨rfl,0,by omega,rfl,rfl⟩ ?_;rintro⟨x,⟨⟩⟩ W ⟨rfl,i,hi,rfl,hp⟩ next I
 by_cases J:i<l.length
 ·have u:((i:Int)<(l.length:Int)):=by omega
  simp only[u,ace,aaU];simp only[sx,h.cell,ab3,aiG,aiN,ade J,ag4];refine⟨by omega,by trivial,?_⟩
  cases hb:l[i] with
  |true=>
   simp only[show (false==true)=false from rfl,aaT];rw[Α];refine I _ _ ⟨rfl,i+1,by omega,by simp,?_⟩ (by omega);rw[aj3 J,List.all_append,hp,hb];rfl
  |false=>
   simp only[show (false==false)=true from rfl,aaU];refine⟨?_,by trivial⟩;have:l.all id=false:=by
    apply Bool.eq_false_iff.2;intro h;have:=alA.1 h false (hb ▸ akI J)
    cases this
   simp_all
 ·have u:¬((i:Int)<(l.length:Int)):=by omega
  simp only[u,acQ,aaT]
  grind
end Go.Proofs.VN
end
section
open List (all_cons all_nil)
namespace Go.Proofs.VN
open Gp Gp.V4
theorem ac7 (a0 a1 a2 a3 a4 a5 a6:Int) (a7 a8:Bool) (a9 u:fU) (h:a9.len<=2^60) (w:θ):JI a0 a1 a2 a3 a4 a5 a6 a7 a8 a9 u w λr w'=>r=20+(a9.len:Int)/\Ext w w':=by
 apply abW;refine gy λa w1 r1 _ _ f1=> ?_;simp only[sx,aeI,aeR,r1.cell];exact⟨by rw[Α],f1⟩
theorem ail (a0 a1 a2 a3 a4 a5 a6:Int) (a7 a8:Bool) (a9 u:fU) (h:a9.len<=2^60) (h':u.len<=2^60) (w:θ):Ph a0 a1 a2 a3 a4 a5 a6 a7 a8 a9 u w λr w'=>r=20+(a9.len:Int)+(u.len:Int)/\Ext w w':=by
 apply abX;refine gy λa w1 r1 _ _ f1=> ?_;simp only[sx,aeI,aeR,r1.drew.cell];refine cmS1 (ac7 _ _ _ _ _ _ _ _ _ _ _ h _) ?_;rintro r w2 ⟨rfl,f2⟩;refine⟨by rw[(r1.drew.ext f2).cell];rfl,?_,(f1.trans (Ext.drew _)).trans f2⟩;rw[Α]
theorem NR {w:θ} (p:lV) {o d:fU} (ho:o.len=p.opts.length) (hd:d.len=p.data.length) (h1:p.opts.length<=2^46) (h2:p.data.length<=2^46):
  F6 p.tos p.id p.off p.ttl p.proto p.src p.dst p.df p.mf o d w λr w'=>r=p.check/\Ext w w':=by
 apply aae;refine gy λa w1 r1 _ _ f1=> ?_;have r1d:=r1.drew;simp -zeta only[sx,Ci,aeI,aeR,r1d.cell];refine cmS0 (rQ _ _ _) ?_;rintro _ _ ⟨rfl,rfl⟩;simp -zeta only[afu,aeI,aeR,r1d.cell];refine cmS0 (rQ _ _ _) ?_;rintro _ _ ⟨rfl,rfl⟩;simp -zeta only[afu,aeI,aeR,r1d.cell];refine cmS0 (rQ _ _ _) ?_;rintro _ _ ⟨rfl,rfl⟩;simp -zeta only[afu,aeI,aeR,r1d.cell];refine cmS0 (rQ _ _ _) ?_;rintro _ _ ⟨rfl,rfl⟩;refine gy λb w2 r2 _ _ f2=> ?_;refine cmS0 (O6 (l:=[decide (jc p.tos 1),decide (jc p.ttl 1),decide (jc p.proto 1),decide (jc p.id 2)]) r2 rfl 4 rfl (by simp)) ?_;rintro _ w2 ⟨rfl,rfl⟩;have r3:=(r1d.ext f2).drew;simp -zeta only[aeI,aeR,f_,gq,r3.cell];refine cmS0 (BM _ _) ?_;rintro _ _ ⟨rfl,rfl⟩;simp -zeta only[afu,aeI,aeR,r3.cell];refine cmS0 (BM _ _) ?_;rintro _ _ ⟨rfl,rfl⟩;refine gy λc w4 r4 _ _ f4=> ?_;refine cmS0 (O6 (l:=[decide (kU p.src),decide (kU p.dst)]) r4 rfl 2 rfl (by simp)) ?_;rintro _ w4 ⟨rfl,rfl⟩;have r5:=r3.ext f4;have x5:=(((f1.trans (Ext.drew _)).trans f2).trans (Ext.drew _)).trans f4;intro h;have hJ:∀(b:Bool) (W:θ),Ext w4 W->b=decide (0<=p.off/\p.off<=65528/\Int.tmod p.off 8=0/\(p.mf=true->p.data.length % 8=0))->h b W:=by
  rintro b W fW rfl;have rW:=r5.ext fW;simp only[h,aaU,aeI,aeR,f_,gK,rW.cell];refine⟨by omega,gy λe w6 r6 _ _ f6=> ?_⟩;refine cmS0 (O6 (l:=[_,_]) r6 rfl 2 rfl (by simp)) ?_;rintro _ _ ⟨rfl,rfl⟩;refine gy λg w7 r7 _ _ f7=> ?_;refine cmS0 (O6 (l:=[_,_,_,_]) r7 rfl 4 rfl (by simp)) ?_;rintro _ _ ⟨rfl,rfl⟩;have e1:decide ((o.len:Int)<=40)=decide (p.opts.length<=40):=by grind
  have e2:(Int.tmod (o.len:Int) 4==0)=decide (p.opts.length % 4=0):=by
   grind
  have e3:([[decide (jc p.tos 1),decide (jc p.ttl 1),decide (jc p.proto 1),decide (jc p.id 2)].all id,[decide (kU p.src),decide (kU p.dst)].all id,decide (0<=p.off/\p.off<=65528/\Int.tmod p.off 8=0/\(p.mf=true->p.data.length % 8=0)),
    [decide ((o.len:Int)<=40),(Int.tmod (o.len:Int) 4==0)].all id].all id)=decide p.fine:=by
   rw[e1,e2];simp only[all_cons,all_nil,id,Bool.and_true];rw[<- alj,<- alj,<- alj,<- alj,<- alj,<- alj,<- alj,<- alj];rfl
  rw[e3];have x7:=(x5.trans fW).trans (f6.trans f7);by_cases hf:p.fine
  ·simp only[hf,ace,adp,aaT];have r8:=rW.ext (f6.trans f7);simp -zeta only[aeI,aeR,f_,gK,gq,jf,r8.cell];refine cmS1 (ail _ _ _ _ _ _ _ _ _ _ _ (show o.len<=2^60 by omega) (show d.len<=2^60 by omega) _) ?_;rintro _ w8 ⟨rfl,f8⟩;have r9:=r8.ext f8;simp -zeta only[aeI,aeR,f_,gK,gq,r9.cell];rw[Α];by_cases hs:20+p.opts.length+p.data.length<=65535
   ·have:¬(20+(o.len:Int)+(d.len:Int)>65535):=by omega
    simp only[this,acQ,aaT];by_cases hs2:p.off<=65535 - (p.data.length:Int)
    ·have:¬(p.off>65535 - (d.len:Int)):=by omega
     simp only[this,acQ,aaT];exact⟨by simp[lV.check,hf,lV.short,hs,hs2],x7.trans f8⟩
    ·have:(p.off>65535 - (d.len:Int)):=by omega
     simp only[this,ace,aaU];exact⟨by simp[lV.check,hf,lV.short,hs2],x7.trans f8⟩
   ·have:(20+(o.len:Int)+(d.len:Int)>65535):=by omega
    simp only[this,ace,aaU];exact⟨by simp[lV.check,hf,lV.short,hs],x7.trans f8⟩
  ·simp only[hf,acQ,afa,aaU];exact⟨by simp[lV.check,hf],x7⟩
 simp -zeta only[aeI,aeR,f_,gK,gq,jf,r5.cell];refine⟨by omega,?_⟩
 cases hm:p.mf with
 |false=>
  simp only[afa,aaU];refine gy λe w6 r6 _ _ f6=> ?_;refine cmS0 (O6 (l:=[_,_,_,_]) r6 rfl 4 rfl (by simp)) ?_;rintro _ _ ⟨rfl,rfl⟩;refine hJ _ _ f6 ?_
  grind
 |true=>
  simp only[adp,aaT];refine⟨by omega,gy λe w6 r6 _ _ f6=> ?_⟩;refine cmS0 (O6 (l:=[_,_,_,_]) r6 rfl 4 rfl (by simp)) ?_;rintro _ _ ⟨rfl,rfl⟩;refine hJ _ _ f6 ?_
  grind
end Go.Proofs.VN
end
section
namespace Go.Proofs.VN
open Gp Gp.V4
def ai2 (p:lV) (w w':θ) (r:fU) (e:Int):Prop:=
 e=p.check/\(p.check≠0->r=⟨none,0,0⟩)/\(p.check=0->Buf w' r (bytesV p.bytes))/\Ext w w'/\∀b,fU.at r b->w.heap.size<=b
theorem af_ {w:θ} {s:fU} {l:List UInt8} (h:iD w s l) (hl:l.length<=2^46) {i k:Nat} (hk:1<=k/\k<=4) (hi:i+k<=l.length) (x y:Int):gW s x y (i:Int) (k:Int) w λr w'=>r=(num l i k:Int)/\Ext w w':=by
 apply Qd;refine gy λa w1 r1 _ _ f1=> ?_;simp only[sx,iF,iK,aeI,r1.cell];refine cmS8 (Pz (h.ext f1) (by omega) _ _) ?_;rintro n e _ ⟨rfl,hr⟩;exact⟨acM hk hi hr,f1⟩
theorem Y3 {w:θ} {s:fU} {l:List UInt8} (h:iD w s l) (hl:l.length<=2^46) {i k:Int} (hk:1<=k/\k<=4) (hi:0<=i/\i+k<=l.length) (x y:Int):gW s x y i k w λr w'=>r=(num l i.toNat k.toNat:Int)/\Ext w w':=by
 obtain⟨m,rfl⟩:∃m:Nat,k=(m:Int):=⟨k.toNat,by omega⟩;obtain⟨o,rfl⟩:∃o:Nat,i=(o:Int):=⟨i.toNat,by omega⟩;exact af_ h hl (by omega) (by omega) x y
def aaZ (w:θ) (q:lV) (t i o l p s d:Int) (df mf:Bool) (op da:fU):Prop:=
 t=q.tos/\i=q.id/\o=q.off/\l=q.ttl/\p=q.proto/\s=q.src/\d=q.dst/\df=q.df/\mf=q.mf/\iD w op q.opts/\iD w da q.data
def Ye (w:θ) (s:fU):Prop:=∀x,s.a=some x->w.heap.size<=x.block
theorem Gf (l:List UInt8) (i:Nat):num l i 2<65536:=by
 have:=Oj ((l.drop i).take 2);have h2:(256:Nat)^((l.drop i).take 2).length<=256^2:=al6 (by omega) (by simp;omega);unfold num;omega
theorem abf {n k:Nat} (hn:n<2^63) (hk:k<63):(lu .i64 (n:Int) ((2^k:Nat):Int) !=0)=(n / 2^k % 2==1):=by
 have hp:0<2^k:=Nat.pow_pos (by omega);have hp2:2^k<2^63:=Nat.pow_lt_pow_right (by omega) hk;rw[NK hn hp2,agY]
 grind
set_option maxRecDepth 100000 in
theorem Qg {w:θ} {s:fU} {l:List UInt8} (hs:iD w s l) (hl:l.length<=2^46) (h1:20<=hlen l) (h2:hlen l<=l.length) (h3:hlen l<=num l 2 2):
  vP s (hlen l:Int) (num l 2 2:Int) w λt i o l' p s' d df mf op da w'=>aaZ w' (field l) t i o l' p s' d df mf op da/\Ye w op/\Ye w da/\Ext w w':=by
 apply Lm;refine gy λa w1 r1 e1 z1 f1=>gy λb w2 r2 e2 z2 f2=> ?_;have ra2:=r1.ext f2;have hsl:=hs.1;simp -zeta only[sx,Ci,Cs,Ct,iF,iK,aeI,aeR,ra2.cell];have hs2:=(hs.ext f1).ext f2;refine tN (af_ (i:=6) (k:=2) hs2 hl (by omega) (by omega) _ _) ?_;rintro _ w3 ⟨rfl,f3⟩;have x3:=(f1.trans f2).trans f3;have ra3:=ra2.ext f3;have rb3:=r2.ext f3;have hs3:=hs2.ext f3;have h:=f3.size;intro J;have hJ:∀c W,Row W c [Β (num l 1 1:Int),Β (num l 4 2:Int),Β 0,Β (num l 8 1:Int),Β (num l 9 1:Int),Β (num l 12 4:Int),Β (num l 16 4:Int),.bool false,.bool false,.slice none 0 0,.slice none 0 0]->Ext w3 W->w3.heap.size<=c->J ⟨c,0,none⟩ W:=by
  intro c W rc hx hc;simp only[sx,Ci,Cs,Ct,iF,iK,J];have n6:=Gf l 6;refine gY rc rfl (by simp) λw4 r4 f4 z4=>gY r4 rfl (by simp) λw5 r5 f5 z5=>gY r5 rfl (by simp) λw6 r6 f6 z6=> ?_;have x6:Ext w3 w6:=hx.new (((f4 (·=c) rfl).trans (f5 (·=c) rfl) λ_ _ e=>e).trans (f6 (·=c) rfl) λ_ _ e=>e) λy hy e=>by omega
  have ra6:=ra3.ext x6;have hs6:=hs3.ext x6;have hsz6:=x6.size;simp only[af7,agO] at r6;simp only[aeI,aeR,f_,gK,gq,ra6.cell];refine lX hs6 (by omega) (by omega) (by omega) λs7 hs7 _=> ?_;refine cmS2 (nR hs7 (by simp;omega)) ?_;rintro o8 w8 ⟨b8,_,f8,n8⟩;have r8:=r6.ext f8;refine gY r8 rfl (by simp) λw9 r9 f9 z9=> ?_;have f89:Ext w6 w8:=f8;have x9:Ext w3 w9:=(x6.trans f8).new (f9 (·=c) rfl) λy hy e=>by omega
  have ra9:=ra3.ext x9;have hs9:=hs3.ext x9;have hsz8:=f8.size;have b9:Buf w9 o8 _:=b8.fr (f9 (·=c) rfl) λy hy e=>by
   have:=n8 y hy;have:=r6.lt;omega
  simp only[af7,agO] at r9;simp only[aeI,aeR,f_,gK,gq,ra9.cell];have u:(if (s.len:Int)<(num l 2 2:Int) then (s.len:Int) else (num l 2 2:Int))=((min (num l 2 2) l.length:Nat):Int):=by
   split<;>omega
  rw[u];refine lX hs9 (by omega) (by omega) (by omega) λs10 hs10 _=> ?_;refine cmS2 (nR hs10 (by simp;omega)) ?_;rintro d11 w11 ⟨N,_,f11,n11⟩;have U:=r9.ext f11;have hsz11:=f11.size;have hcl:=r9.lt;refine gY U rfl (by simp) λI O f12 z12=> ?_;have R:Ext w3 I:=(x9.trans f11).new (f12 (·=c) rfl) λy hy e=>by omega
  have Y:Buf I o8 _:=(b9.ext f11).fr (f12 (·=c) rfl) λy hy e=>by
   have:=n8 y hy;have:=r6.lt;omega
  have d12:Buf I d11 _:=N.fr (f12 (·=c) rfl) λy hy e=>by
   grind
  simp only[af7,agO] at O;simp only[aeI,aeR,f_,gK,gq,jf,O.cell];have rb12:=rb3.ext R;refine gU rb12 rfl rfl λw13 Z f13 z13=> ?_;simp only[aeI,aeR,f_,gK,gq,jf,Z.cell];have hb3:=rb3.lt;have e8191:lu .i64 (num l 6 2:Int) 8191=((num l 6 2 % 8192:Nat):Int):=by
   have:=NK (a:=num l 6 2) (b:=8191) (by omega) (by omega);rw[show (8191:Nat)=2^13 - 1 by decide,JG] at this;exact this
  have hszx:=x3.size;refine⟨⟨rfl,rfl,?_,rfl,rfl,rfl,rfl,?_,?_,?_,?_⟩,λx hx=>by have:=n8 _ (b8.at_eq hx);omega,λx hx=>by have:=n11 _ (N.at_eq hx);omega,?_⟩
  ·rw[e8191,Α];rfl
  ·exact abf (k:=14) (by omega) (by omega)
  ·exact abf (k:=13) (by omega) (by omega)
  ·refine iD.iG (Y.fr (f13 (·=b) rfl) λy hy e=> ?_)
   grind
  ·have e:(l.take (min (num l 2 2) l.length)).drop (hlen l)=(field l).data:=by
    simp only[field]
    grind
   have d13:=d12.fr (f13 (·=b) rfl) λy hy e=>by
    grind
   rw[ab3,ab3,e] at d13;exact iD.iG d13
  ·exact(x3.trans R).new (f13 (·=b) rfl) λy hy e=>by omega
 have ra3d:=ra3.drew;simp -zeta only[aeI,aeR,f_,gK,gq,ra3d.cell];have hx:=Ext.drew w3;have l2:20<=l.length:=by omega
 clear h
 repeat' (first
  |(with_reducible refine And.intro ?_ ?_)
  |((with_reducible refine tN (Y3 (hs3.ext hx) hl (by omega) (by omega) _ _) ?_);rintro _ W ⟨rfl,f⟩;replace hx:=hx.trans f;(try replace rc:=rc.ext f);(try simp -zeta only[sx,Ci,Cs,Ct,iF,iK,afu,aeI,aeR,(ra3.ext hx).cell]))
  |((with_reducible refine gy λc W rc ec _ f=> ?_);have hc:=hx.size;rw[<- ec] at hc;clear ec;replace hx:=hx.trans f;(try simp -zeta only[sx,Ci,Cs,Ct,iF,iK,afu,aeI,aeR,(ra3.ext hx).cell]))
  |((with_reducible refine gU rc rfl rfl λW rc2 fc zc=> ?_);exact hJ _ W rc2 (hx.new (fc (·=_) rfl) λy hy e=>by omega) hc))
theorem byte_at {w:θ} {s:fU} {l:List UInt8} (h:iD w s l) {i:Nat} (hi:i<l.length) {K:Addr->Prop} (hK:∀a,w.cell? (a)=some (.int .u8 (l[i].toNat:Int))->(a.block<w.heap.size)->K a):iE s 1 (i:Int) K:=by
 have hsl:=h.1;obtain⟨a,ha,hc⟩:=h.at_ (ade hi);exact⟨a,ha,by omega,by omega,hK _ (by simp_all) (by rw[ab3,aiG];exact cell_lt hc)⟩
theorem low4 (x:UInt8):ο.wrap ((ο.wrap (lu .u8 (x.toNat:Int) 15)) * 4)=((x.toNat % 16 * 4:Nat):Int):=by
 have h:=x.toNat_lt;have:=aiX (b:=15) (by omega) (by omega);rw[show (15:Nat)=2^4 - 1 by decide,JG] at this;rw[show (((2^4 - 1:Nat):Nat):Int)=15 from rfl] at this;rw[this,Α (n:=((x.toNat % 2^4:Nat):Int)) (by omega) (by omega),Α];omega
theorem Si {l:List UInt8} (h:0<l.length):hlen l=l[0].toNat % 16 * 4:=by
 unfold hlen
 simp_all
theorem agK {l:List UInt8} (h:0<l.length):ver l=l[0].toNat / 16:=by
 unfold ver
 simp_all
theorem ahN {w:θ} {s:fU} {l:List UInt8} (hs:iD w s l) (hl:l.length<=2^46) (q:Bool):
  Pj s q w λb h z e w'=>e=mW l q/\Ext w w'/\(e=0->b=s/\h=(hlen l:Int)/\z=(num l 2 2:Int)):=by
 apply abY;have hsl:=hs.1;refine gy λa w1 r1 e1 z1 f1=> ?_;by_cases c1:l.length<20
 ·have c1':((s.len:Int)<20):=by omega
  simp only[c1',ace,aaU];refine gU r1 rfl rfl λw2 r2 f2 _=> ?_;simp only[sx,iF,iK,aeI,aeR,r2.cell];exact⟨by simp[mW,c1],f1.new (f2 (·=a) rfl) λy hy e=>by omega,λh=>by cases h⟩
 have c1':¬((s.len:Int)<20):=by omega
 simp only[c1',acQ,aaT];have hs1:=hs.ext f1;refine byte_at (i:=0) hs1 (by omega) λa0 hc0 hb0=> ?_;simp -zeta only[sx,iF,iK,hc0,low4,<- Si (show 0<l.length by omega)];refine DJ rfl rfl λb w2 r2 e2 z2 f2=> ?_;simp -zeta only[sx,iF,iK,aeI,aeR,r2.cell];refine tN (Y3 (hs1.ext f2) hl (by omega) (by omega) _ _) ?_;rintro _ w3 ⟨rfl,f3⟩;refine gY (r2.ext f3) rfl (by simp) λw4 r4 f4 z4=> ?_;have hsz3:=f3.size;have x4:=(f2.trans f3).new (f4 (·=b) rfl) λy hy e=>by omega
 have x5:=f1.trans x4;have ra:=r1.ext x4;simp only[af7,agO,show (Int.toNat 2)=2 from rfl] at r4;have hs4:=hs1.ext x4;have hlt16:hlen l<=60:=by rw[Si (show 0<l.length by omega)];omega
 have fin:∀(e:Int) W,Ext w4 W->e=mW l q->e≠0->h_ [(Value.slice none 0 0),(Β 0),(Β 0)] W ⟨a,0,none⟩ 0 λI=>
   ZV .slice (I.cell? ⟨a,0,none⟩) λN=>ZV ν (I.cell? ⟨a,1,none⟩) λO=>ZV ν (I.cell? ⟨a,2,none⟩) λR=>(e=mW l q/\Ext w I/\(e=0->N=s/\O=(hlen l:Int)/\R=(num l 2 2:Int))):=by
  intro e W hx he U;refine gU (ra.ext hx) rfl rfl λI J f28 _=> ?_;simp only[aeI,aeR,f_,gK,gq,J.cell];exact⟨he,(x5.trans hx).new (f28 (·=a) rfl) λy hy e=>by omega,λh=>absurd h U⟩
 refine byte_at (i:=0) hs4 (by omega) λa1 hc1 _=> ?_;have ev:(jE .u8 (l[0].toNat:Int) 4 !=4)=decide (ver l≠4):=by
  rw[agK (show 0<l.length by omega)];have:=ajI (a:=l[0].toNat) (k:=4) (by omega)
  grind
 simp only[aeI,aeR,f_,gK,gq,hc1,r4.cell,ev];refine⟨by omega,?_⟩;by_cases v:ver l≠4
 ·simp only[v,ne_eq,amB,ace,aaU];exact fin 4 w4 (Ext.refl _) (by simp only[mW];omega) (by omega)
 simp only[v,acQ,aaT];by_cases h20:hlen l<20
 ·have u:((hlen l:Int)<20):=by omega
  simp only[u,ace,aaU];exact fin 4 w4 (Ext.refl _) (by simp only[mW];omega) (by omega)
 have u:¬((hlen l:Int)<20):=by omega
 have o1:mW l q=if l.length<hlen l\/(l.length<num l 2 2/\q=false) then 3 else if num l 2 2<hlen l\/32768<=num l 6 2 then 4 else 0:=by
  simp only[mW];omega
 simp only[u,acQ,aaT];by_cases c3:l.length<hlen l
 ·have c3':((hlen l:Int)>(s.len:Int)):=by omega
  simp only[c3',ace,aaU];exact fin 3 w4 (Ext.refl _) (by omega) (by omega)
 have c3':¬((hlen l:Int)>(s.len:Int)):=by omega
 simp only[c3',acQ,aaT];by_cases c4:l.length<num l 2 2/\q=false
 ·have c4':((num l 2 2:Int)>(s.len:Int)):=by omega
  simp only[c4',ace,c4.2,afa,aaU];have:=fin 3 w4 (Ext.refl _) (by simp_all) (by omega);rw[c4.2] at this;exact this
 have cont:∀X Y:Prop,(bif decide ((num l 2 2:Int)>(s.len:Int)) then (bif !q then X else Y) else Y)=Y:=by
  simp_all
 rw[ada (by simp_all)] at o1;simp only[cont];by_cases c5:num l 2 2<hlen l
 ·have c5':((num l 2 2:Int)<(hlen l:Int)):=by omega
  simp only[c5',ace,aaU];exact fin 4 w4 (Ext.refl _) (by omega) (by omega)
 have c5':¬((num l 2 2:Int)<(hlen l:Int)):=by omega
 simp only[c5',acQ,aaT];refine tN (Y3 hs4 hl (by omega) (by omega) _ _) ?_;rintro _ w5 ⟨rfl,f5⟩;have n6:=Gf l 6;have eb:(lu .i64 ((num l (Int.toNat 6) (Int.toNat 2):Nat):Int) 32768 !=0)=decide (32768<=num l 6 2):=by
  have:=abf (n:=num l 6 2) (k:=15) (by omega) (by omega)
  grind
 have r5:=r4.ext f5;simp only[aeI,aeR,f_,gK,gq,eb,r5.cell];by_cases c6:32768<=num l 6 2
 ·simp only[c6,ace,aaU];exact fin 4 w5 f5 (by omega) (by omega)
 simp only[c6,acQ,aaT];refine gU (ra.ext f5) rfl rfl λI J f28 _=> ?_;simp only[sx,iF,iK,afu,aeI,aeR,f_,gK,gq,J.cell];exact⟨by omega,(x5.trans f5).new (f28 (·=a) rfl) λy hy e=>by omega,λ_=>by trivial⟩
theorem XW {l:List UInt8} {q:Bool} (h:mW l q=0):20<=hlen l/\hlen l<=l.length/\hlen l<=num l 2 2/\20<=l.length:=by
 unfold mW at h;omega
theorem Yc (w:θ):aaZ w lV.zero 0 0 0 0 0 0 0 false false ⟨none,0,0⟩ ⟨none,0,0⟩:=⟨rfl,rfl,rfl,rfl,rfl,rfl,rfl,rfl,rfl,iD.nil,iD.nil⟩
end Go.Proofs.VN
end
section
namespace Go.Proofs.VN
open Gp Gp.V4
theorem Sl (a b:Int):(a==b)=decide (a=b):=rfl
theorem aef {w:θ} {s:fU} {l:List UInt8} (hs:iD w s l) (hl:l.length<=2^40):
  Ip s w λt i o l' p s' d df mf op da e w'=>e=qR l true/\aaZ w' (V4.read l true) t i o l' p s' d df mf op da/\Ext w w':=by
 apply Zw;have hsl:=hs.1;refine gy λa w1 r1 e1 z1 f1=> ?_;refine cmS18 (ahN (hs.ext f1) (by omega) true) ?_;rintro b h z e w2 ⟨rfl,f2,h2⟩;refine DJ rfl rfl λc w3 r3 e3 z3 f3=> ?_;have x3:=f2.trans f3;have ra:=r1.ext x3;have hsz3:=x3.size;by_cases ho:mW l true=0
 ·obtain⟨rfl,rfl,rfl⟩:=h2 ho;have hz:=XW ho;simp only[sx,iF,iK,r3.cell,ho,show ((0:Int) !=0)=false from rfl];refine cmS12 (Qg ((hs.ext f1).ext x3) (by omega) hz.1 hz.2.1 hz.2.2.1) ?_;rintro _ _ _ _ _ _ _ _ _ op da w6 ⟨⟨rfl,rfl,rfl,rfl,rfl,rfl,rfl,rfl,rfl,hop,u⟩,no,nd,f6⟩;refine gU (ra.ext f6) rfl rfl λw9 r9 f9 _=> ?_;simp only[d_,f_,gK,gq,jf,r9.cell];have rd0:qR l true=0:=by unfold qR;rw[ho];simp
  refine⟨by rw[rd0],?_,((f1.trans x3).trans f6).new (f9 (·=a) rfl) λy hy e=>by omega⟩;unfold V4.read;rw[aeH rd0];refine⟨rfl,rfl,rfl,rfl,rfl,rfl,rfl,rfl,rfl,?_,?_⟩
  ·exact iD.fr hop (f9 (·=a) rfl) λx hx _ e=>by have:=no x hx;omega
  ·exact iD.fr u (f9 (·=a) rfl) λx hx _ e=>by have:=nd x hx;omega
 ·have ho':(mW l true !=0)=true:=by simpa using ho
  simp only[sx,iF,iK,ho'];refine gU ra rfl rfl λw9 r9 f9 _=> ?_;simp only[d_,f_,gK,gq,jf,r9.cell];have rd0:qR l true=mW l true:=by unfold qR;rw[aeH ho]
  refine⟨by rw[rd0],?_,(f1.trans x3).new (f9 (·=a) rfl) λy hy e=>by omega⟩;unfold V4.read;rw[rd0,ada ho];exact Yc _
theorem VD {n:Nat}:IntKind.u8.wrap (n:Int)=((UInt8.ofNat n).toNat:Int):=by
 rw[IntKind.wrap_u8];simp
end Go.Proofs.VN
end
section
namespace Gp.V4
def afO (a:Int):Prop:=16777216<=a/\a<3758096384/\a / 16777216≠127
instance (a:Int):Decidable (afO a):=inferInstanceAs (Decidable (_/\_))
def ai_ (k:Int):Prop:=(3<=k/\k<=5)\/k=11\/k=12
instance (a:Int):Decidable (ai_ a):=inferInstanceAs (Decidable (_\/_))
theorem afO.right {a:Int} (h:afO a):kU a:=⟨by have:=h.1;omega,by have:=h.2.1;omega⟩
structure QT where
 kind:Int
 code:Int
 rest:Int
 data:List UInt8
def QT.fine (m:QT):Prop:=jc m.kind 1/\jc m.code 1/\jc m.rest 4
instance (m:QT):Decidable m.fine:=inferInstanceAs (Decidable (_/\_))
def QT.check (m:QT):Int:=if m.fine then if m.data.length<=65527 then 0 else 6 else 1
def QT.body (m:QT) (s:Nat):List UInt8:=jY 1 m.kind.toNat++jY 1 m.code.toNat++jY 2 s++jY 4 m.rest.toNat++m.data
def QT.sum (m:QT):Nat:=65535 - fold (tot (m.body 0))
def QT.bytes (m:QT):List UInt8:=m.body m.sum
theorem ae9 (m:QT) (s:Nat):(m.body s).length=8+m.data.length:=by
 simp only[QT.body,ahY,iT]
theorem acu (m:QT) (s:Nat):m.body s=UInt8.ofNat m.kind.toNat::UInt8.ofNat m.code.toNat::UInt8.ofNat (s / 256)::UInt8.ofNat s::
  UInt8.ofNat (m.rest.toNat / 16777216)::UInt8.ofNat (m.rest.toNat / 65536)::UInt8.ofNat (m.rest.toNat / 256)::UInt8.ofNat m.rest.toNat::m.data:=by
 simp[QT.body,jY]
theorem ϧ {m:QT} (h:m.check=0):m.fine/\m.data.length<=65527:=by
 unfold QT.check at h;split at h
 ·split at h
  ·exact⟨by assumption,by assumption⟩
  ·omega
 ·omega
def lV.size (p:lV):Nat:=20+p.opts.length+p.data.length
theorem T_ {l:List UInt8} (h:mW l true=0):20<=(field l).size/\(field l).size<=l.length:=by
 unfold mW at h;split at h
 ·omega
 split at h
 ·omega
 split at h
 ·omega
 split at h
 ·omega
 simp only[lV.size,field,alx,ajT];omega
end Gp.V4
end
section
namespace Go.Proofs.VN
open Gp Gp.V4
theorem adR {w:θ} {b:Nat} {l:List Int} {vs:List Value} (h:Row w b vs) (hv:vs=l.map λn=>Β n) (n c:Nat) (hn:n=l.length) (hl:l.length<=100) (x:Int):nC ⟨some ⟨b,0,none⟩,n,c⟩ x w λr w'=>(r>=0↔x∈l)/\w'=w:=by
 subst hv hn;apply wo;refine gI (λst W=>W=w/\∃i:Nat,i<=l.length/\st.1=(i:Int)/\x∉l.take i) (λst _=>l.length - st.1.toNat) ⟨rfl,0,by omega,rfl,by simp⟩ ?_;rintro⟨y,⟨⟩⟩ W ⟨rfl,i,hi,rfl,hp⟩ next I
 by_cases J:i<l.length
 ·have u:((i:Int)<(l.length:Int)):=by omega
  simp only[sx,iF,iK,u,ace,h.cell,ab3,aiG,aiN,ade J,ag4];refine⟨by omega,by trivial,?_⟩;by_cases hx:x=l[i]
  ·simp only[Sl,hx,ace,aaU];exact⟨⟨λ_=>akI J,λ_=>by omega⟩,by trivial⟩
  ·simp only[Sl,hx,acQ,aaT];rw[Α];refine I _ _ ⟨rfl,i+1,by omega,by simp,?_⟩ (by simp only;omega);rw[aj3 J,akX];rintro(h|h)
   ·exact hp h
   ·simp only[akU] at h;exact hx h
 ·have u:¬((i:Int)<(l.length:Int)):=by omega
  simp only[u,acQ,aaT];have:i=l.length:=by omega
  subst this;rw[akY] at hp;exact⟨⟨λh=>by omega,λh=>absurd h hp⟩,by trivial⟩
theorem Yu {w:θ} {b:Nat} {l:List Int} {vs:List Value} (h:Row w b vs) (hv:vs=l.map λn=>Β n) (n c:Nat) (hn:n=l.length) (hl:l.length<=100) (x:Int):iR ⟨some ⟨b,0,none⟩,n,c⟩ x w λr w'=>r=decide (x∈l)/\w'=w:=by
 apply sS;refine cmS1 (adR h hv n c hn hl x) ?_;rintro r w' ⟨hr,hw⟩;exact⟨amc.2 hr,hw⟩
theorem ad3 {w:θ} (m:QT) {d:fU} (hd:d.len=m.data.length):Fj m.kind m.code m.rest d w λr w'=>r=m.check/\Ext w w':=by
 apply Wp;refine gy λa w1 r1 e1 z1 f1=> ?_;intro J;have hJ:∀b,b=(!decide m.fine)->J b w1:=by
  rintro b rfl;simp only[sx,iF,iK,J,aeI,aeR,r1.cell];by_cases hf:m.fine
  ·by_cases hs:m.data.length<=65527
   ·have:¬((d.len:Int)>65527):=by omega
    simp only[hf,this,ace,acQ,adp,aaT];exact⟨by simp[QT.check,hf,hs],f1⟩
   ·have:((d.len:Int)>65527):=by omega
    simp only[hf,this,ace,adp,aaT,aaU];exact⟨by simp[QT.check,hf,hs],f1⟩
  ·simp only[hf,acQ,afa,aaU];exact⟨by simp[QT.check,hf],f1⟩
 simp -zeta only[sx,iF,iK,aeI,r1.cell];refine cmS0 (rQ _ _ _) ?_;rintro _ w2 ⟨rfl,hw⟩;subst hw;by_cases c1:jc m.kind 1
 ·simp -zeta only[c1,ace,adp,aaT,aeI,aeR,f_,gq,r1.cell];refine cmS0 (rQ _ _ _) ?_;rintro _ w2 ⟨rfl,hw⟩;subst hw;by_cases c2:jc m.code 1
  ·simp -zeta only[c2,ace,adp,aaT,aeI,aeR,f_,gq,r1.cell];refine cmS0 (rQ _ _ _) ?_;rintro _ w2 ⟨rfl,hw⟩;subst hw;exact hJ _ (congrArg (!·) (amc.2 ⟨λh=>⟨c1,c2,h⟩,λh=>h.2.2⟩))
  ·simp -zeta only[c2,acQ,afa,aaU];exact hJ _ (by rw[adn λh:m.fine=>c2 h.2.1];rfl)
 ·simp -zeta only[c1,acQ,afa,aaU];exact hJ _ (by rw[adn λh:m.fine=>c1 h.1];rfl)
def ahC (m:QT) (w w':θ) (r:fU) (e:Int):Prop:=
 e=m.check/\(m.check=0->iD w' r m.bytes)/\Ext w w'/\(∀b,fU.at r b->w.heap.size<=b)/\(∀a,r.a=some a->fU.at r a.block)
theorem XQ {w:θ} (m:QT) {d:fU} (hd:iD w d m.data):z_ m.kind m.code m.rest d w λr e w'=>ahC m w w' r e:=by
 apply Wn;refine gy λa w1 r1 e1 z1 f1=> ?_;simp only[sx,iF,iK,aeI,aeR,r1.cell];refine cmS1 (ad3 m (d:=d) hd.1) ?_;rintro _ w2 ⟨rfl,f2⟩;have r2:=r1.ext f2;by_cases hc:m.check=0
 ·obtain⟨⟨g1,g2,g3⟩,hs⟩:=ϧ hc;have g1':=Qz g1;have g2':=Qz g2;simp only[hc,show ((0:Int) !=0)=false from rfl,aaT,aeI,aeR,f_,gq,r2.cell];refine gy λb w3 r3 e3 z3 f3=> ?_;have rr:=r2.ext f3;simp only[aeI,aeR,f_,gq,rr.cell];obtain⟨t,ht⟩:∃t:Nat,m.kind=(t:Int):=⟨m.kind.toNat,by omega⟩;obtain⟨u,hu⟩:∃u:Nat,m.code=(u:Int):=⟨m.code.toNat,by omega⟩;rw[ht,hu,VD,VD] at r3;have b3:iD w3 ⟨some ⟨b,0,none⟩,4,4⟩ (jY 1 m.kind.toNat++jY 1 m.code.toNat++jY 2 0):=by
   refine iD.iG ?_;have:=iD.row (l:=jY 1 m.kind.toNat++jY 1 m.code.toNat++jY 2 0) (w:=w3) (b:=b) (by simpa [bytesV,jY,ht,hu] using r3);simpa [iT] using this
  refine cmS2 (zT b3 (by simp[iT]) m.rest 4) ?_;rintro t4 w4 ⟨b4,f4,n4⟩;have e4:lU (jY 1 m.kind.toNat++jY 1 m.code.toNat++jY 2 0) m.rest 4=jY 1 m.kind.toNat++jY 1 m.code.toNat++jY 2 0++jY 4 m.rest.toNat:=by
   unfold lU;rw[aeH g3];rfl
  rw[e4] at b4;have r4:=rr.ext f4;simp only[aeI,aeR,f_,gK,r4.cell];have x4:Ext w w4:=((f1.trans f2).trans f3).trans f4;refine jv b4 (hd.ext x4) (by simp[iT];omega) λt5 w5 b5 f5 n5 _=> ?_;have z3':=((f1.trans f2).trans f3).size;have z4:=x4.size;have x5:Ext w w5:=x4.new f5 λy hy h=>by have:=n4 y h;omega
  have b5:Buf w5 t5 (bytesV (m.body 0)):=b5;have l5:=ae9 m 0;refine gy λc w6 r6 e6 z6 f6=> ?_;refine cmS1 (Uy (EP r6 (iD.iG (b5.ext f6))) (by simp) (by intro q hq;simp only[akU] at hq;subst hq;simp only;omega)) ?_;rintro _ w7 ⟨rfl,f7⟩;rw[OY];have e8:65535 - fold (tot (m.body 0))=m.sum:=rfl;rw[e8];have hsl:m.sum<65536:=by unfold QT.sum;omega
  have x7:=x5.trans (f6.trans f7);have z7:=x7.size;refine cmS7 (Vr (iD.iG ((b5.ext f6).ext f7)) (by omega) 2 (m.sum:Int) 2) ?_;rintro s9 e9 w9 ⟨hr9,f9,n9⟩;obtain⟨rfl,b9⟩:=SC ⟨⟨by omega,by omega⟩,by omega,by simp;omega⟩ (by omega) (by omega) hr9;refine⟨hc.symm,λ_=> ?_,x7.trans f9,λy hy=>by have:=n9 y hy;omega,λa ha=>b9.at_eq ha⟩;have eb:(m.body 0).take 2++jY 2 m.sum++(m.body 0).drop 4=m.bytes:=by
   unfold QT.bytes;rw[acu,acu];simp[jY]
  have:=iD.iG b9;rw[show (2:Int).toNat=2 from rfl,ab3,show (2+2:Nat)=4 from rfl,eb] at this;exact this
 ·have hc':(m.check !=0)=true:=by simpa using hc
  simp only[hc',aaU];exact⟨rfl,λh=>absurd h hc,f1.trans f2,(by rintro b ⟨o,h⟩;cases h),(by rintro a h;cases h)⟩
end Go.Proofs.VN
end
section
namespace Go.Proofs.AN
open Gp Gp.V4 Go.Proofs Go.Proofs.VN
open Gp.Bind (In64)
theorem aco {w:θ} {b:Nat} {l:List Value} {R:Prop} (h:Row w b l) (hR:R):∀(vs:List Value) (i:Nat),(∀(j:Nat) (v:Value),vs[j]? =some v->l[i+j]? =some v)->VJ vs w ⟨b,0,none⟩ i R
 |[],_,_=>(iK _ _ _ _).2 hR
 |v::vs,i,hv=>(iF _ _ _ _ _ _).2 ⟨by rw[gJ,ahO,h.cell];exact hv 0 v rfl,aco h hR vs (i+1) λj u hj=>by rw[show i+1+j=i+(j+1) by omega];simp_all⟩
theorem Et {w:θ} {b:Nat} {l:List Value} {R:Prop} (h:Row w b l) (hR:R):VJ l w ⟨b,0,none⟩ 0 R:=aco h hR l 0 λj v hj=>by simp_all
theorem kJ {W:θ} {a:Nat} {x0 x1 x2 x3 x4 x5 x6:Int} {x7 x8:Bool} {x9 h:fU} {Q:Int->Int->Int->Int->Int->Int->Int->Bool->Bool->fU->fU->Prop} (hr:Row W a (gQ x0 x1 x2 x3 x4 x5 x6 x7 x8 x9 h)) (hq:Q x0 x1 x2 x3 x4 x5 x6 x7 x8 x9 h):iq W ⟨a,0,none⟩ Q:=by
 simp only[sx,hr.cell];exact hq
theorem Qj {W:θ} {a:Nat} {s0:fU} {x0 x1 x2 x3 x4 x5 x6 h:Int} {x7 x8:Bool} {x9 u:fU} {Q:fU->Int->Int->Int->Int->Int->Int->Int->Bool->Bool->fU->fU->Int->Prop} (hr:Row W a (nV s0 x0 x1 x2 x3 x4 x5 x6 x7 x8 x9 u h)) (hq:Q s0 x0 x1 x2 x3 x4 x5 x6 x7 x8 x9 u h):uf W ⟨a,0,none⟩ Q:=by
 simp only[sx,hr.cell];exact hq
theorem ajA {l:List UInt8} (h:mW l false=0):mW l true=0:=by
 unfold mW at h ⊢
 grind
theorem aar (l:List UInt8) (q:Bool):(V4.read l q).opts.length<=l.length/\(V4.read l q).data.length<=l.length:=by
 unfold V4.read;split
 ·rename_i h;have ho:mW l true=0:=by
   unfold qR at h;by_cases h0:mW l q=0
   ·cases q
    ·exact ajA h0
    ·exact h0
   omega
  have:=(T_ ho).2;unfold lV.size at this;omega
 ·simp[lV.zero]
theorem Aw (l:List UInt8) (n:Int) (k:Nat):(lU l n (k:Int)).length<=l.length+k:=by
 unfold lU;split
 ·rw[ahY,iT];simp
 ·omega
end Go.Proofs.AN
end
section
namespace Go.Proofs.AN
open Gp Gp.V4 Go.Proofs Go.Proofs.VN
section
variable {w0 w w':θ}
theorem X5 {W:θ} {a:Nat} {x0 x1 x2:Int} {x3:fU} {K:Int->Int->Int->fU->b_} (hr:Row W a [Β x0,Β x1,Β x2,Δ x3]) (hq:K x0 x1 x2 x3 W):
  Ld ν W (Addr.add ⟨a,0,none⟩ 0) λy0=>Ld ν W (Addr.add ⟨a,0,none⟩ 1) λy1=>Ld ν W (Addr.add ⟨a,0,none⟩ 2) λy2=>Ld .slice W (Addr.add ⟨a,0,none⟩ 3) λy3=>K y0 y1 y2 y3 W:=
 gZ hr rfl (gZ hr rfl (gZ hr rfl (gZ hr rfl hq)))
theorem six {W:θ} {s:fU} {l:List UInt8} (hs:iD W s l) {i:Nat} {u:UInt8} (hi:l[i]? =some u) {K:Addr->Prop} (hK:∀a,W.cell? a=some (.int .u8 u.toNat)->K a):iE s 1 (i:Int) K:=by
 obtain⟨a,ha,hc⟩:=hs.at_ hi;refine⟨a,ha,by omega,by have:=hs.1;grind,?_⟩;rw[ab3,aiG];exact hK _ hc
theorem aiZ {W:θ} {s:fU} {vs:List Value} (h:Buf W s vs) {ad:Addr} (ha:s.a=some ad):fU.at s ad.block:=by
 obtain⟨_,⟨hn,_⟩|⟨b,pad,hb,_⟩⟩:=h
 ·rw[hn] at ha;cases ha
 ·rw[hb] at ha;cases ha;exact⟨0,hb⟩
theorem agd (x:Int) {b:Nat} {l:List Int} (hr:Row w b (l.map λn=>Β n)) (hl:l.length<=100):Fq x ⟨some ⟨b,0,none⟩,l.length,l.length⟩ w λ_ w'=>w'=w:=by
 apply ϰ;refine cmS0 (Yu hr rfl l.length l.length rfl hl x) ?_;simp
theorem aao (x:Int) (w:θ):Ac x w λ_ w'=>Ext w w':=by
 apply Wu;refine gy λa w1 r1 e1 z1 f1=> ?_;refine cmS0 (agd x (l:=[0,8]) r1 (by simp)) ?_;rintro r w2 rfl;exact f1
theorem adJ (x:Int) (w:θ):Fp x w λ_ w'=>Ext w w':=by
 apply Wq;refine gy λa w1 r1 e1 z1 f1=> ?_;refine cmS0 (agd x (l:=[3,4,5,11,12]) r1 (by simp)) ?_;rintro r w2 rfl;exact f1
theorem Ui {s:fU} {l:List UInt8} (hs:iD w s l) (hl:l.length<=2^40) {K:Int->Int->Int->fU->Int->b_}
  (hK:∀k c r d e w' (m:List UInt8),Ext w w'->iD w' d m->m.length<=2^40->K k c r d e w'):Aa s w K:=by
 apply Ws;refine gy λa w1 r1 e1 z1 f1=> ?_;have hlen:=hs.1;have fin:∀(W:θ) k c r (d:fU) e (m:List UInt8),Ext w1 W->iD W d m->m.length<=2^40->(∀ad,d.a=some ad->0<m.length->¬ad.block=a)->
   h_ [Β k,Β c,Β r,Δ d] W ⟨a,0,none⟩ 0 λw4=>Ld ν w4 (Addr.add ⟨a,0,none⟩ 0) λy0=>Ld ν w4 (Addr.add ⟨a,0,none⟩ 1) λy1=>Ld ν w4 (Addr.add ⟨a,0,none⟩ 2) λy2=>Ld .slice w4 (Addr.add ⟨a,0,none⟩ 3) λy3=>K y0 y1 y2 y3 e w4:=by
  intro W k c r d e m hW hd hm hn;refine StN_f (r1.ext hW) λw4 r4 f4 z4=> ?_;refine X5 r4 ?_;exact hK k c r d e w4 m ((f1.trans hW).nw f4) (hd.fr f4 λad ha h0 e=>hn ad ha h0 e) hm
 by_cases c1:(s.len:Int)<8
 ·rw[aeJ c1,aaU];exact fin w1 0 0 0 ⟨none,0,0⟩ 3 [] (Ext.refl _) iD.nil (by simp) (by simp)
 rw[adn c1,aaT];by_cases c2:(s.len:Int)>65535
 ·rw[aeJ c2,aaU];exact fin w1 0 0 0 ⟨none,0,0⟩ 6 [] (Ext.refl _) iD.nil (by simp) (by simp)
 rw[adn c2,aaT];refine gy λb w2 r2 e2 z2 f2=> ?_;have hs2:=(hs.ext f1).ext f2;refine cmS0 (Qp (EP r2 hs2) (by simp) (by simp;omega)) ?_;rintro rt w3 ⟨_,f3⟩;have x3:=f2.trans f3
 cases rt
 ·exact fin w3 0 0 0 ⟨none,0,0⟩ 5 [] x3 iD.nil (by simp) (by simp)
 rw[adp,aaT];have hs3:=hs2.ext f3;refine cmS8 (Pz hs3 (by omega) 4 4) ?_;rintro n e w4 ⟨hw,_⟩;subst hw;have h:=hs3.ext (Ext.drew w4);have b0:=ade (show 0<l.length by omega);have b1:=ade (show 1<l.length by omega);generalize l[0]=u0 at b0;generalize l[1]=u1 at b1;refine six h b0 λa0 h0=> ?_;refine ig h0 ?_;refine six h b1 λa1 h1=> ?_;refine ig h1 ?_;refine lX h (by omega) (by omega) (by omega) λs' hs' _=> ?_;refine cmS2 (nR hs' (by simp;omega)) ?_;rintro cd w5 ⟨b5,_,f5,n5⟩;refine⟨kQ h1 f5,kQ h0 f5,?_⟩;refine fin w5 _ _ _ cd 0 _ ((x3.trans (Ext.drew w4)).trans f5) (iD.iG b5) (by simp;omega) λad ha h0' e=> ?_;have:=n5 ad.block (aiZ b5 ha);have:=r1.lt;have:=x3.size;simp_all;omega
end
end Go.Proofs.AN
end
