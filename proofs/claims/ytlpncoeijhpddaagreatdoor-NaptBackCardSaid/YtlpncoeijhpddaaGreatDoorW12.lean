import Derived.Test.YtlpncoeijhpddaaGreatDoorW11
import Derived.Test.YtlpncoeijhpddaaGreatDoorW5
import Derived.Test.YtlpncoeijhpddaaGreatDoorW3
import Derived.Test.YtlpncoeijhpddaaGreatDoorW2
set_option maxRecDepth 100000
set_option maxHeartbeats 2000000
section
namespace Go.Proofs.AN
open Gp Go.Proofs
theorem iO {k:Kind} {w:θ} {ad:Addr} {y:k.T} {K:k.T->Prop} (h:w.cell? ad=some (k.enc y)) (hK:K y):Ld k w ad K:=⟨y,h,hK⟩
theorem ak1 {w:θ} {ad:Addr} {A0 A1 A2 A3 A4 A5 A6 A7 A8 A9 h u I J N O:Int} {R U:gG} {W Y Z aa ab ac ae af ag ah ai aj ak am an ao aq:Int} {ar:gG} {K:Int->Int->Int->Int->Int->Int->Int->Int->Int->Int->Int->Int->Int->Int->Int->Int->gG->gG->Int->Int->Int->Int->Int->Int->Int->Int->Int->Int->Int->Int->Int->Int->Int->Int->Int->gG->Prop} (hc:∀j,j<36->w.cell? (ad.add j)=(jO A0 A1 A2 A3 A4 A5 A6 A7 A8 A9 h u I J N O R U W Y Z aa ab ac ae af ag ah ai aj ak am an ao aq ar)[j]?) (hK:K A0 A1 A2 A3 A4 A5 A6 A7 A8 A9 h u I J N O R U W Y Z aa ab ac ae af ag ah ai aj ak am an ao aq ar):tC w ad K:=by
 unfold tC;refine⟨A0,hc 0 (by omega),?_⟩;refine⟨A1,hc 1 (by omega),?_⟩;refine⟨A2,hc 2 (by omega),?_⟩;refine⟨A3,hc 3 (by omega),?_⟩;refine⟨A4,hc 4 (by omega),?_⟩;refine⟨A5,hc 5 (by omega),?_⟩;refine⟨A6,hc 6 (by omega),?_⟩;refine⟨A7,hc 7 (by omega),?_⟩;refine⟨A8,hc 8 (by omega),?_⟩;refine⟨A9,hc 9 (by omega),?_⟩;refine⟨h,hc 10 (by omega),?_⟩;refine⟨u,hc 11 (by omega),?_⟩;refine⟨I,hc 12 (by omega),?_⟩;refine⟨J,hc 13 (by omega),?_⟩;refine⟨N,hc 14 (by omega),?_⟩;refine⟨O,hc 15 (by omega),?_⟩;refine⟨R,hc 16 (by omega),?_⟩;refine⟨U,hc 17 (by omega),?_⟩;refine⟨W,hc 18 (by omega),?_⟩;refine⟨Y,hc 19 (by omega),?_⟩;refine⟨Z,hc 20 (by omega),?_⟩;refine⟨aa,hc 21 (by omega),?_⟩;refine⟨ab,hc 22 (by omega),?_⟩;refine⟨ac,hc 23 (by omega),?_⟩;refine⟨ae,hc 24 (by omega),?_⟩;refine⟨af,hc 25 (by omega),?_⟩;refine⟨ag,hc 26 (by omega),?_⟩;refine⟨ah,hc 27 (by omega),?_⟩;refine⟨ai,hc 28 (by omega),?_⟩;refine⟨aj,hc 29 (by omega),?_⟩;refine⟨ak,hc 30 (by omega),?_⟩;refine⟨am,hc 31 (by omega),?_⟩;refine⟨an,hc 32 (by omega),?_⟩;refine⟨ao,hc 33 (by omega),?_⟩;refine⟨aq,hc 34 (by omega),?_⟩;refine⟨ar,hc 35 (by omega),?_⟩;exact hK
end Go.Proofs.AN
namespace Go.Proofs.EN
open Gp Go.Proofs Go.Proofs.AN
open Gp.Bind (Bnd Slots live GoodB freeN getS In64)
open Gp.Ses (Ses)
variable {w w':θ} {a:EA} {c:Cf} {e:ES}
def ci (c:Cf) (j:Nat):Int:=match c.C[j]? with
 |some (.int _ x)=>x
 |_=>0
def Hq (c:Cf) (pr st:Int):Int:=if pr=17 then ci c 30 else if pr=1 then ci c 33 else if pr=6 then (if st=3 then ci c 31 else ci c 32) else 0
theorem abk (hm:CfM c) {pr st:Int} (hp:pr=1\/pr=6\/pr=17):1<=Hq c pr st/\Hq c pr st<=2^40:=by
 obtain⟨A0,A1,A2,A3,A4,A5,A6,A7,A8,A9,A10,A11,A12,A13,A14,A15,A16,A17,A18,A19,A20,A21,A22,A23,A24,A25,A26,A27,A28,A29,h,u,I,J,A34,A35,hC,h1,h2,h3,h4⟩:=hm.wt;have e30:ci c 30=h:=by unfold ci;rw[hC];rfl
 have e31:ci c 31=u:=by unfold ci;rw[hC];rfl
 have e32:ci c 32=I:=by unfold ci;rw[hC];rfl
 have e33:ci c 33=J:=by unfold ci;rw[hC];rfl
 unfold Hq;omega
theorem aiZ {ad:Addr} (hm:CfM c) (hc:∀j,j<36->w.cell? (ad.add j)=c.C[j]?) (pr st:Int) {K:Int->b_} (hK:∀w',Ext w w'->K (Hq c pr st) w'):
  tC w ad λO R U W Y Z aa ab ac ae af ag ah ai aj ak am an ao aq ar au av aw ax ay az aA aB aC aD aE aF aG aH aI=>D8 O R U W Y Z aa ab ac ae af ag ah ai aj ak am an ao aq ar au av aw ax ay az aA aB aC aD aE aF aG aH aI pr st w K:=by
 obtain⟨A0,A1,A2,A3,A4,A5,A6,A7,A8,A9,A10,A11,A12,A13,A14,A15,A16,A17,A18,A19,A20,A21,A22,A23,A24,A25,A26,A27,A28,A29,h,u,I,J,A34,A35,hC,h1,h2,h3,h4⟩:=hm.wt;rw[hC] at hc;refine ak1 hc ?_;apply U4;refine gU λp w1 r1 e1 z1 f1=> ?_;have aJ:ci c 30=h:=by unfold ci;rw[hC];rfl
 have aK:ci c 31=u:=by unfold ci;rw[hC];rfl
 have aL:ci c 32=I:=by unfold ci;rw[hC];rfl
 have aM:ci c 33=J:=by unfold ci;rw[hC];rfl
 have hK:=hK w1 f1;unfold Hq at hK;rw[aJ,aK,aL,aM] at hK;have aN:w1.cell? ((⟨p,0,none⟩:Addr).add 30)=some (Β h):=by rw[gY,r1.cell];rfl
 have aO:w1.cell? ((⟨p,0,none⟩:Addr).add 31)=some (Β u):=by rw[gY,r1.cell];rfl
 have aP:w1.cell? ((⟨p,0,none⟩:Addr).add 32)=some (Β I):=by rw[gY,r1.cell];rfl
 have aQ:w1.cell? ((⟨p,0,none⟩:Addr).add 33)=some (Β J):=by rw[gY,r1.cell];rfl
 by_cases N:pr=17
 ·subst N;exact iO aN hK
 have aR:(pr==17)=false:=by simp_all
 rw[acZ N] at hK;rw[aR,aaf];by_cases p1:pr=1
 ·subst p1;exact iO aQ hK
 have b1:(pr==1)=false:=by simp_all
 rw[acZ p1] at hK;rw[b1,aaf];by_cases p6:pr=6
 ·subst p6;rw[adZ rfl] at hK;by_cases s3:st=3
  ·subst s3;exact iO aO hK
  ·have b3:(st==3)=false:=by simp_all
   rw[acZ s3] at hK;rw[b3];exact iO aP hK
 ·have b6:(pr==6)=false:=by simp_all
  rw[acZ p6] at hK;rw[b6,aaf];exact hK
theorem Gy:∀{S:Gp.Ses.Slots} {i:Nat} {b b':Ses} (k:Nat),S[i]? =some (some b)->(Gp.Ses.live k (S.set i (some b'))).length=(Gp.Ses.live k S).length
 |[],_,_,_,_,h=>by simp at h
 |x::r,0,b,b',k,h=>by
  simp at h;subst h;rfl
 |none::r,i+1,b,b',k,h=>by
  rw[ahm,Gp.Ses.live,Gp.Ses.live];exact Gy (k+1) (by simpa using h)
 |some x::r,i+1,b,b',k,h=>by
  rw[ahm,Gp.Ses.live,Gp.Ses.live,ajg,ajg,Gy (k+1) (by simpa using h)]
theorem acU {l:WN.PL} (id:Int) (t:Gp.Wh.Tm):(CS l id t).length=if id∈l.map (·.1) then l.length else l.length+1:=by
 have h:=congrArg List.length (Tj l id t)
 grind
theorem VU:∀{S:Gp.Ses.Slots} (k:Nat),Gp.Ses.freeN S=none->(Gp.Ses.live k S).length=S.length
 |[],_,_=>rfl
 |none::r,_,h=>by trivial
 |some b::r,k,h=>by
  have:=VU (k+1) (by simpa [Gp.Ses.freeN] using h);simp[Gp.Ses.live,this]
end Go.Proofs.EN
end
section
namespace Go.Proofs.EN
open Gp Go.Proofs Go.Proofs.AN
open Gp.Bind (Bnd Slots live GoodB freeN getS In64)
open Gp.Ses (Ses)
variable {w w':θ} {a:EA} {c:Cf} {e:ES}
theorem ajx (h:lS w a c e) {id u:Int} (h0:0<=id) (h1:id<=4096) (u0:0<=u) (u1:u<=1099511627776) (hr:mg e.l id≠none\/(e.l.length:Int)<c.ns) (ht:e.tn<2^62) {K:Int->b_}
  (hK:∀r w' ss' F',ig w w' (own a 5)->lS w' {a with ss:=ss'} c {e with l:=CS e.l id ⟨id,max u.toNat e.wn,e.tn+1⟩,tn:=e.tn+1,F:=F'}->(∀x,WN.qR a.d a.m ss' x->WN.qR a.d a.m a.ss x\/w.heap.size<=x)->K r w'):
  sN (some ⟨a.d,0,none⟩) id u w K:=by
 refine cmS1 (WN.ai0 h.wh id u ht) ?_;rintro r w1 ⟨_,f1,ss',F',hs,hw⟩;have hE:WN.YK e.l c.ns id u=0:=by
  unfold WN.YK;rw[acZ (by omega),acZ ?_];rintro⟨q1,q2⟩;rcases hr with hr|hr
  ·exact hr q1
  ·omega
 rw[hE,adZ rfl,adZ rfl] at hw;exact hK r w1 ss' F' f1 (h.setW f1 hw hs) hs
def N8 (c:Cf) (e:ES) (pr nx:Int):Int:=if (1099511627776:Int)<(e.now:Int)+Hq c pr nx then 1099511627776 else (e.now:Int)+Hq c pr nx
theorem akq (hg:Gd c e) (hm:CfM c) {pr nx:Int} (hp:pr=1\/pr=6\/pr=17):0<=N8 c e pr nx/\N8 c e pr nx<=1099511627776/\(e.now:Int)<=N8 c e pr nx/\ο.wrap ((e.now:Int)+Hq c pr nx)=(e.now:Int)+Hq c pr nx:=by
 obtain⟨h1,h2⟩:=abk hm (st:=nx) hp;have:=hg.le;refine⟨?_,?_,?_,?_⟩
 ·unfold N8;split<;>omega
 ·unfold N8;split<;>omega
 ·unfold N8;split<;>omega
 ·rw[Α]
theorem Gd.note (hg:Gd c e) (_:(e.l.map (·.1)).Nodup) {k:Nat} {s:Ses} {M:ByteArray->Option Int} {F:Gp.Wh.Fs} {u:Int} {t:Int} (hu:s.un=u) (u0:0<=u) (un:(e.now:Int)<=u)
  (hb:∃(j:Nat) (b:Bnd),s.bd=(j:Int)/\e.S[j]? =some (some b))
  (hk:(∃s0,e.SS[k]? =some (some s0))\/Gp.Ses.freeN e.SS=some k):
  Gd c {e with SS:=e.SS.set k (some s),M:=M,l:=CS e.l (k:Int) ⟨(k:Int),max u.toNat e.wn,t⟩,tn:=t,F:=F}:=by
 have N:k<e.SS.length:=by
  rcases hk with ⟨s0,h0⟩|h0
  ·exact(afg.1 h0).1
  ·exact(Gp.Ses.jE 0 h0).1
 have I:∀(j:Nat) (x:Ses),(e.SS.set k (some s))[j]? =some (some x)↔(j=k/\x=s)\/(j≠k/\e.SS[j]? =some (some x)):=by
  intro j x;rw[Gp.Ses.jl N];by_cases hj:k=j
  ·subst hj;simp[eq_comm]
  ·have:j≠k:=λh=>hj h.symm;simp[hj,this]
 refine⟨⟨hg.inv.ql,hg.inv.cn,hg.inv.gv,hg.inv.mp⟩,λj x hx=> ?_,λid x hx=> ?_,λj x hx=> ?_,?_,hg.wn,hg.le⟩
 ·rcases(I j x).1 hx with ⟨_,rfl⟩|⟨_,h2⟩
  ·exact hb
  ·exact hg.sb j x h2
 ·rw[Ce] at hx;split at hx
  ·rename_i J
   cases hx
   refine⟨k,s,J,(I k s).2 (.inl ⟨rfl,rfl⟩),?_⟩;rw[hg.wn,hu];show ((max u.toNat e.now:Nat):Int)=u;omega
  ·rename_i J;obtain⟨j,y,h1,h2,h3⟩:=hg.ts id x hx;exact⟨j,y,h1,(I j y).2 (.inr ⟨λhj=>J (by rw[h1,hj]),h2⟩),h3⟩
 ·rcases(I j x).1 hx with ⟨rfl,_⟩|⟨hj,h2⟩
  ·exact⟨_,by rw[Ce,adZ rfl]⟩
  ·obtain⟨y,hy⟩:=hg.st j x h2;exact⟨y,by rw[Ce,acZ (by omega)];exact hy⟩
 ·rw[acU];rcases hk with ⟨s0,h0⟩|h0
  ·obtain⟨y,hy⟩:=hg.st k s0 h0;have:(k:Int)∈e.l.map (·.1):=ame λhn=>by rw[qV.2 hn] at hy;cases hy
   rw[adZ this,Gy 0 h0];exact hg.lc
  ·have hn:(k:Int)∉e.l.map (·.1):=qV.1 (by
    cases hl:mg e.l (k:Int) with
    |none=>rfl
    |some y=>
     obtain⟨j,z,h1,h2,_⟩:=hg.ts _ y hl;have:j=k:=by omega
     subst this;rw[(Gp.Ses.jE 0 h0).2.1] at h2
     cases h2)
   rw[acZ hn];have h7:=(Gp.Ses.jE 0 h0).2.2.2.2.2.2 s;have h4:=(Gp.Ses.jE 0 h0).2.2.2.1;rw[h7,ahP,ajg,ajH,al2];have:=hg.lc;omega
theorem lS.sl (h:lS w a c e):e.SS.length=c.ns.toNat:=h.se.len
theorem adw (h:lS w a c e) (hg:Gd c e) (hm:CfM c) {bd sid st0 ra rp pr nx:Int} {kn:Bool} (hp:pr=1\/pr=6\/pr=17) (ht:e.tn<2^62)
  (hk:(kn=true/\∃(k:Nat) (s0:Ses),sid=(k:Int)/\e.SS[k]? =some (some s0))\/
   (kn=false/\e.M (Bind.keyS [bd,ra,rp])=none/\((Gp.Ses.live 0 e.SS).length:Int)<c.ns/\(∃(j:Nat) (b:Bnd),bd=(j:Int)/\e.S[j]? =some (some b))/\(In64 bd/\In64 ra/\In64 rp)))
  {K:b_}
  (hK:∀w' a' M F (k:Nat) (s:Ses),ig w w' (iW a)->(k:Int)<=4096->s.un=N8 c e pr nx->s.st=nx->
   ((kn=true/\sid=(k:Int)/\∃s0,e.SS[k]? =some (some s0)/\s={s0 with st:=nx,un:=N8 c e pr nx})\/(kn=false/\Gp.Ses.freeN e.SS=some k/\s=⟨bd,nx,N8 c e pr nx,ra,rp⟩))->
   lS w' a' c {e with SS:=e.SS.set k (some s),M:=M,l:=CS e.l (k:Int) ⟨(k:Int),max (N8 c e pr nx).toNat e.wn,e.tn+1⟩,tn:=e.tn+1,F:=F}->
   Gd c {e with SS:=e.SS.set k (some s),M:=M,l:=CS e.l (k:Int) ⟨(k:Int),max (N8 c e pr nx).toNat e.wn,e.tn+1⟩,tn:=e.tn+1,F:=F}->Grow a a' w.heap.size->a'.x=a.x->K w'):
  oz (some ⟨a.x,0,none⟩) bd true sid kn st0 ra rp pr nx w K:=by
 apply Ls;refine gU λp w1 r1 e1 z1 f1=> ?_;have x1:=f1.trans (Ext.drew w1);have h1:=h.ext x1;obtain⟨u0,u1,un,uw⟩:=akq hg hm (nx:=nx) hp;obtain⟨v0,v1⟩:=abk hm (st:=nx) hp;have ns1:=h.cf.s1;have hsl:=h.sl;refine jS.2 (iO (k:= .int .i64) (y:=(e.now:Int)) (by rw[gY];exact h1.c41) (jS.2 ?_));refine aiZ hm (λj hj=>by rw[gY,gY];have:=h1.cC hj;simpa using this) pr nx λw2 f2=> ?_;have x2:=x1.trans f2;have h2:=h.ext x2;have r2:=(r1.drew).ext f2;have hz:w.heap.size<=p:=by omega
 refine⟨by rw[gY];exact h2.c41,?_⟩;intro J;rw[uw];have eu:(if (1099511627776:Int)<(e.now:Int)+Hq c pr nx then 1099511627776 else (e.now:Int)+Hq c pr nx)=N8 c e pr nx:=rfl
 rw[eu];have hJ:∀(W:θ) (A:SN.Rn) (M:ByteArray->Option Int) (k:Nat) (s:Ses),ig w W (λb=>SN.fp a.T b)->lS W {a with T:=A} c {e with SS:=e.SS.set k (some s),M:=M}->(∀x,SN.fp A x->SN.fp a.T x\/w.heap.size<=x)->
   W.cell? ⟨p,2,none⟩=some (Β (k:Int))->s.un=N8 c e pr nx->s.st=nx->
   ((kn=true/\sid=(k:Int)/\∃s0,e.SS[k]? =some (some s0)/\s={s0 with st:=nx,un:=N8 c e pr nx})\/(kn=false/\Gp.Ses.freeN e.SS=some k/\((Gp.Ses.live 0 e.SS).length:Int)<c.ns/\s=⟨bd,nx,N8 c e pr nx,ra,rp⟩))->
   (∃(j:Nat) (b:Bnd),s.bd=(j:Int)/\e.S[j]? =some (some b))->J W:=by
  intro W A M k s hf hE hA hc Z ae u R;have aa:=hE.ext (Ext.drew W);simp only[J];refine jS.2 (iO (k:= .ptr) (y:=some ⟨a.d,0,none⟩) (by rw[gY];exact aa.c4) (iO (k:= .int .i64) (y:=(k:Int)) (by rw[gY];exact hc) ?_));rw[uw,eu];have hkl:k<e.SS.length:=by
   rcases u with ⟨_,_,s0,h0,_⟩|⟨_,h0,_⟩
   ·exact(afg.1 h0).1
   ·exact(Gp.Ses.jE 0 h0).1
  have hk4:(k:Int)<=4096:=by omega
  refine ajx aa (by omega) hk4 u0 u1 ?_ ht λr w3 ss' F' f3 hE3 hs3=> ?_
  ·rcases u with ⟨_,_,s0,h0,_⟩|⟨_,h0,ab,_⟩
   ·obtain⟨y,hy⟩:=hg.st k s0 h0;left;show mg e.l (k:Int)≠none;rw[hy];simp
   ·right;have:=hg.lc;show (e.l.length:Int)<c.ns;omega
  ·have I:(∃s0,e.SS[k]? =some (some s0))\/Gp.Ses.freeN e.SS=some k:=by
    rcases u with ⟨_,_,s0,h0,_⟩|⟨_,h0,_⟩
    ·exact .inl ⟨s0,h0⟩
    ·exact .inr h0
   have af:=hg.note h.ndl (M:=M) (F:=F') (t:=e.tn+1) Z u0 un R I;refine hK w3 _ M F' k s ?_ hk4 Z ae ?_ hE3 af ?_ rfl
   ·have g1:ig w W (iW a):=hf.mono λy hy=>⟨4,hy⟩;exact(g1.ext (Ext.drew W)).trans f3 λy _ hy=>⟨5,hy⟩
   ·rcases u with ⟨q1,q2,q3⟩|⟨q1,q2,_,q3⟩
    ·exact .inl ⟨q1,q2,q3⟩
    ·exact .inr ⟨q1,q2,q3⟩
   ·have g1:Grow a {a with T:=A} w.heap.size:=Qy hA;refine g1.trans (VE (n:=W.drew.heap.size) hs3) ?_;have:=hf.size;show w.heap.size<=W.heap.size;exact this
 clear_value J;have U:∀{b:Nat},SN.fp a.T b->b≠p:=λ{b} hb he=>by have:=h.lt 4 b hb;omega
 simp only[sx,r2.cell];have h2d:=h2.ext (Ext.drew w2);have x2d:=x2.trans (Ext.drew w2);have r2d:=r2.drew;rcases hk with ⟨rfl,k,s0,rfl,hs0⟩|⟨rfl,hM,ab,R,i1,i2,i3⟩
 ·simp only[abt,sx,h2d.c3,r2d.cell];have ag:Gp.Ses.getS e.SS (k:Int)=some s0:=Gp.Ses.lX.2 ⟨by omega,by rw[abu];exact hs0⟩;refine cmS0 (SN.aiT h2d.se _ _ _) ?_;rintro r w3 ⟨_,f3,S',hT,hS'⟩;rw[ag] at hS';simp only[abu] at hS';subst hS';have hE3:=h2d.aiI (A:=a.T) (M:=e.M) f3 hT rfl (λx hx=> .inl hx) (λx hx=>hT.lt hx);refine hJ w3 a.T e.M k _ (x2d.fr f3) hE3 (λx hx=> .inl hx) ?_ rfl rfl (.inl ⟨rfl,rfl,s0,hs0,rfl⟩) (hg.sb k s0 hs0);have r3:=r2d.fr f3 (λhb=>U hb rfl);rw[r3.cell];rfl
 ·simp only[aaf,sx,h2d.c3,r2d.cell];have N:∃i,Gp.Ses.freeN e.SS=some i:=by
   cases ah:Gp.Ses.freeN e.SS with
   |some i=>exact⟨i,rfl⟩
   |none=>
    have:=VU 0 ah;omega
  obtain⟨k,ac⟩:=N;have Y:SN.wS e.SS e.M ⟨bd,nx,N8 c e pr nx,ra,rp⟩=((k:Int),0):=by
   unfold SN.wS;have:Gp.Ses.Ses.k ⟨bd,nx,N8 c e pr nx,ra,rp⟩=[bd,ra,rp]:=rfl;rw[this,hM,ac];rfl
  have ai:Gp.Ses.Ses.ok ⟨bd,nx,N8 c e pr nx,ra,rp⟩:=by
   intro n hn;simp only[Gp.Ses.Ses.k,agI,ajr,alf] at hn;rcases hn with rfl|rfl|rfl
   ·exact i1
   ·exact i2
   ·exact i3
  refine cmS8 (SN.aiO h2d.se ⟨bd,nx,N8 c e pr nx,ra,rp⟩ ai) ?_;rintro n m w3 ⟨hr,f3,A,S',M',hT,aj,O,hS'⟩;rw[Y] at hr hS';simp only[ajn,abu] at hS'
  cases hr
  subst hS';have r3:=r2d.fr f3 (λhb=>U hb rfl);refine iC r3 rfl (by simp) λw4 r4 f4 z4=> ?_;simp only[ahm,af5] at r4;have ak:¬SN.fp A p:=λhc=>(O p hc).elim (λhb=>U hb rfl) λhb=>by
   have h9:p<w1.heap.size:=by omega
   have:=f2.size;have am:w2.drew.heap.size=w2.heap.size:=rfl;have an:w1.drew.heap.size=w1.heap.size:=rfl;omega
  have hT4:=hT.fr (f4 (·=p) rfl) (λb hb he=>ak (he ▸ hb));have f34:ig w2.drew w4 (λb=>SN.fp a.T b\/b=p):=(f3.mono λb hb=> .inl hb).trans ((f4 (·=p) rfl).mono λb hb=> .inr hb) λ_ _ h=>h;have hE3:=(h2d.aiI f3 hT aj O (λx hx=>hT.lt hx)).fr (f4 (·=p) rfl) (λkk b hb he=>by
   subst he;rcases Qy (a:=a) (n:=w2.drew.heap.size) O b ⟨kk,hb⟩ with ⟨k2,hb2⟩|hb2
   ·have:=h.lt k2 b hb2;omega
   ·have h9:b<w1.heap.size:=by omega
    have:=f2.size;have am:w2.drew.heap.size=w2.heap.size:=rfl;have an:w1.drew.heap.size=w1.heap.size:=rfl;omega)
  have ao:ig w w4 (λb=>SN.fp a.T b):=by
   have g:=x2d.fr (f34);refine⟨g.size,λb hb hn=>g.same b hb ?_,g.io⟩;rintro(hc|hc)
   ·exact hn hc
   ·omega
  refine hJ w4 A M' k _ ao hE3 (λx hx=>(O x hx).imp id λhx=> ?_) ?_ rfl rfl (.inr ⟨rfl,ac,ab,rfl⟩) R
  ·have:=x2d.size;omega
  ·rw[r4.cell];rfl
end Go.Proofs.EN
end
section
namespace Go.Proofs.EN
open Gp Go.Proofs Go.Proofs.AN
open Gp.Bind (Bnd Slots live GoodB freeN getS In64)
open Gp.Ses (Ses)
variable {w w':θ} {a:EA} {c:Cf} {e:ES}
abbrev QT (d:Int):Value:=Value.iface 115 (Β d)
def Full (c:Cf) (e:ES) (sw pr po d:Int):Prop:=(d=5/\c.q<=QN.at_ e.Q sw)\/(d=6/\(c.nb<=((live 0 e.S).length:Int)\/c.ns<=((Gp.Ses.live 0 e.SS).length:Int)))\/(d=7/\PN.Fp pr po sw c.lo c.hi c.pl e.G=none)
theorem agJ (h:lS w a c e) (hg:Gd c e) (hm:CfM c) {sw pr ad po:Int} (aa:UD c sw) (hp:pr=1\/pr=6\/pr=17) (ao:0<=ad/\ad<=4294967295) (O:0<=po/\po<=65535) (aq:e.Mi (Bind.keyS [sw,pr,ad,po])=none)
  {K:Int->Value->b_}
  (hD:∀d w',Full c e sw pr po d->Ext w w'->K 0 (QT d) w')
  (hK:∀w' a' (i:Nat) (o:PN.O3) Mi Mo,ig w w' (iW a)->freeN e.S=some i->PN.Fp pr po sw c.lo c.hi c.pl e.G=some o->QN.at_ e.Q sw<c.q->
   lS w' a' c {e with S:=e.S.set i (some ⟨sw,pr,ad,po,o.1,o.2.1,o.2.2,false⟩),Mi:=Mi,Mo:=Mo,Q:=e.Q.set sw.toNat (QN.at_ e.Q sw+1),G:=CS e.G o ()}->
   Gd c {e with S:=e.S.set i (some ⟨sw,pr,ad,po,o.1,o.2.1,o.2.2,false⟩),Mi:=Mi,Mo:=Mo,Q:=e.Q.set sw.toNat (QN.at_ e.Q sw+1),G:=CS e.G o ()}->Grow a a' w.heap.size->a'.x=a.x->
   K (i:Int) .nilIface w'):
  vZ (some ⟨a.x,0,none⟩) sw pr ad po w K:=by
 apply Lm;refine gU λt w1 r1 e1 z1 f1=> ?_;have x1:=f1.trans (Ext.drew w1);have h1:=h.ext x1;have r1d:=r1.drew;simp -zeta only[sx,Ci,Cw,h1.c1,h1.c25,r1d.cell];refine cmS1 (QN.Ϫ h1.qr _) ?_;rintro n w2 ⟨rfl,hw⟩;subst hw;have am:QN.inR e.Q sw:=⟨aa.1,by rw[hg.inv.ql];exact aa.2⟩;have ag:QN.Es e.Q sw=QN.at_ e.Q sw:=by unfold QN.Es;rw[adZ am]
 refine⟨h1.c25,?_⟩;by_cases hq:QN.Es e.Q sw>=c.q
 ·simp only[hq,acI,abt];exact hD 5 _ (.inl ⟨rfl,by rw[<- ag];exact hq⟩) x1
 simp -zeta only[hq,acR,aaf];refine cmS0 (SK h1) ?_;rintro n w2 ⟨rfl,f2⟩;by_cases I:((live 0 e.S).length:Int)>=c.nb
 ·simp only[I,acI,abt];exact hD 6 w2 (.inr (.inl ⟨rfl,.inl I⟩)) (x1.trans f2)
 simp -zeta only[I,acR,aaf];have x2:=(x1.trans f2).trans (Ext.drew w2);have h2:=h.ext x2;have r2:=(r1d.ext f2).drew;have hne:∀{b:Nat},iW a b->b≠t:=λ{b} ⟨k,hb⟩ he=>by have:=h.lt k b hb;omega
 have htz:w.heap.size<=t:=by omega
 intro J;have ql:QN.at_ e.Q sw<c.q:=by rw[<- ag];omega
 have hJ0:∀(u:Nat) (W:θ) (v:Int),v≠0->PN.Fp pr po sw c.lo c.hi c.pl e.G=none->Ext w W->J ⟨u,0,none⟩ v W:=by
  intro u W v hv R hx;have hv':(v !=0)=true:=by simpa using hv
  simp only[J,hv',abt];exact hD 7 W (.inr (.inr ⟨rfl,R⟩)) hx
 have hJ1:∀(u:Nat) (W:θ) (o:PN.O3),PN.Fp pr po sw c.lo c.hi c.pl e.G=some o->ig w W (λb=>b=a.g)->PN.PL W a.p a.g a.ps c.lo c.hi c.pl (CS e.G o ())->Row W t [Β sw,Β pr,Β ad,Β po]->Row W u [Β o.1,Β o.2.1,Β o.2.2]->w.heap.size<=u->J ⟨u,0,none⟩ 0 W:=by
  intro u W o ho hf U ab ah hu;have h0:((0:Int) !=0)=false:=rfl;simp only[J,h0,aaf];have hE:=(h.ake hf U).ext (Ext.drew W);have ab:=ab.drew;have ah:=ah.drew;simp only[sx,hE.c1,ab.cell];have ai:QN.Fj e.Q c.q sw=(0,e.Q.set sw.toNat (QN.at_ e.Q sw+1)):=by
   unfold QN.Fj;rw[adZ am,acZ (by rw[<- ag];exact hq)]
  refine cmS1 (QN.Pv hE.qr hE.qo _) ?_;rintro n w7 ⟨rfl,q7,f7⟩;have q7':QN.QR w7 a.qb a.qs (e.Q.set sw.toNat (QN.at_ e.Q sw+1)) c.q:=by
   have:QN.Fj e.Q c.q sw=_:=ai;rw[show (QN.Fj ({e with G:=CS e.G o ()}:ES).Q c.q sw)=_ from ai] at q7;exact q7
  have o7:QN.QOk (e.Q.set sw.toNat (QN.at_ e.Q sw+1)) c.q:=by
   have:=QN.aa8 h.qo sw;rw[ai] at this;exact this
  have h7:=(hE.akg f7 q7' o7).ext (Ext.drew w7);have nq:a.qs≠t/\a.qs≠u:=by have:=h.lt 2 a.qs (.inr rfl);omega
  have rt7:=(ab.fr f7 (λhe=>nq.1 he.symm)).drew;have ru7:=(ah.fr f7 (λhe=>nq.2 he.symm)).drew;simp only[sx,h7.c2,rt7.cell,ru7.cell];obtain⟨o1,o2,o3,o4⟩:=PN.VZ ho;have ar:agG c ⟨sw,pr,ad,po,o.1,o.2.1,o.2.2,false⟩:=⟨hp,ao,o2,O,⟨by have:=hm.l1;show 0<=o.2.2;omega,by have:=hm.h1;show o.2.2<=65535;omega⟩,o1.symm,aa⟩;have bok:Bnd.ok ⟨sw,pr,ad,po,o.1,o.2.1,o.2.2,false⟩:=by
   have hh:=h.cf.hp _ o2;have hl:=h.cf.sw;obtain⟨s0,s1⟩:=aa;have g1:=hm.l1;have g2:=hm.h1;constructor
   ·intro n hn;simp only[Bnd.i,agI,ajr,alf] at hn;unfold In64;rcases hn with rfl|rfl|rfl|rfl<;>omega
   ·intro n hn;simp only[Bnd.o,agI,ajr,alf] at hn;unfold In64;have hh1:=hh.1;have hh2:=hh.2.1;rcases hn with rfl|rfl|rfl<;>omega
  have au:e.Mo (Bind.keyS [o.1,o.2.1,o.2.2])=none:=by
   cases av:e.Mo (Bind.keyS [o.1,o.2.1,o.2.2]) with
   |none=>rfl
   |some v=>
    obtain⟨j,b,hb,hk,_⟩:=(h.db.good.o _ _).1 av;exfalso;apply o4;refine(hg.inv.gv o).2 ⟨j,b,hb,?_⟩;have hb2:=(h.db.good.ok j b hb).2;have:=Gp.Bind.keyS_inj (by simp[Bnd.o]) hb2 bok.2 hk;simp only[Bnd.o,amh,amf] at this;rw[this.1,this.2.1,this.2.2]
  have Y:∃i,freeN e.S=some i:=by
   cases aw:freeN e.S with
   |some i=>exact⟨i,rfl⟩
   |none=>
    have h10:=Nc 0 aw;have h11:=h.db.len;have:=h.cf.b1;omega
  obtain⟨i,ac⟩:=Y;have Z:wS e.S e.Mi e.Mo ⟨sw,pr,ad,po,o.1,o.2.1,o.2.2,false⟩=((i:Int),0):=by
   unfold wS;have k1:e.Mi (Bind.keyS (Bnd.i ⟨sw,pr,ad,po,o.1,o.2.1,o.2.2,false⟩))=none:=aq;have k2:e.Mo (Bind.keyS (Bnd.o ⟨sw,pr,ad,po,o.1,o.2.1,o.2.2,false⟩))=none:=au;rw[k1,k2,ac];rfl
  refine cmS8 (ac_ h7.db ⟨sw,pr,ad,po,o.1,o.2.1,o.2.2,false⟩ bok (h7.lt 3)) ?_;rintro n m w9 ⟨hr,f9,A,S',Mi',Mo',d9,ax,an,aj,hS'⟩;have ha9:wS ({e with Q:=e.Q.set sw.toNat (QN.at_ e.Q sw+1),G:=CS e.G o ()}:ES).S ({e with Q:=e.Q.set sw.toNat (QN.at_ e.Q sw+1),G:=CS e.G o ()}:ES).Mi ({e with Q:=e.Q.set sw.toNat (QN.at_ e.Q sw+1),G:=CS e.G o ()}:ES).Mo ⟨sw,pr,ad,po,o.1,o.2.1,o.2.2,false⟩=((i:Int),0):=Z;rw[ha9] at hr hS';simp only[ajn,abu] at hS'
  cases hr
  subst hS';have h9:=h7.setB f9 d9 ax (λx hx=>an x hx) aj;have hz7:=f7.size;have hzW:=hf.size;have hxz:w.heap.size<=w7.drew.heap.size:=by
   have q1:w7.drew.heap.size=w7.heap.size:=rfl;have q2:W.drew.heap.size=W.heap.size:=rfl;omega
  refine hK w9 _ i o Mi' Mo' ?_ ac ho ql h9 ?_ (Yq λx hx=>(an x hx).imp id λhx=>by omega) rfl
  ·have g1:ig w W (iW a):=hf.mono λy hy=>⟨1,.inr (.inl hy)⟩;have g2:ig w w7 (iW a):=(g1.ext (Ext.drew _)).trans f7 λy _ hy=>⟨2,.inr hy⟩;exact(g2.ext (Ext.drew _)).trans f9 λy _ hy=>⟨3,hy⟩
  ·have ak:=hg.inv.add ac ar Mi' Mo';refine⟨ak,λk s hs=> ?_,hg.ts,hg.st,hg.lc,hg.wn,hg.le⟩;obtain⟨j,b,hj1,hj2⟩:=hg.sb k s hs;refine⟨j,b,hj1,?_⟩;show (e.S.set i _)[j]? =_;rw[akQ];have:¬i=j:=λhc=>by
    rw[<- hc,(Gp.Bind.jE 0 ac).2.1] at hj2;cases hj2
   rw[acZ this];exact hj2
 clear_value J;simp only[sx,h2.c0,r2.cell];have hl1:=hm.l1;have hlh:=hm.lh;have hh1:=hm.h1;have ip1:PO.wQ c.lo:=⟨by omega,by omega⟩;have ip2:PO.wQ c.hi:=⟨by omega,by omega⟩;refine⟨?_,?_⟩
 ·refine cmS10 (PN.Pv h2.pl hp ip1 ip2 O.1 O.2 hm.p1 (f:=sw)) ?_;rintro x y z v w5 ⟨f5,N⟩;refine gU λu w6 r6 e6 z6 f6=> ?_;have ay:a.g<w.heap.size:=h.lt 1 a.g (.inr (.inl rfl));have ae:=(r2.fr f5 (λhe=>by omega)).ext f6;have hE0:w6.cell? ⟨a.x,0,none⟩=some (.pointer (some ⟨a.p,0,none⟩)):=by
   have:=Gu (S:=(·=a.g)) h2.c0 f5 (λhe=>by have:=h.off (j:=1) (k:=0) (b:=a.x) rfl (by decide);exact this (.inr (.inl he)));exact kS this f6
  have hz:=x2.size;have hz5:=f5.size;have az:=r2.lt;refine⟨by rw[ae.cell];rfl,by rw[ae.cell];rfl,by rw[ae.cell];rfl,hE0,?_⟩;refine gZ r6 rfl rfl λw8 r8 f8 z8=> ?_;have f68:ig w6 w8 (·=u):=f8 (·=u) rfl;rcases N with ⟨o,ho,rfl,rfl,rfl,rfl,U⟩|⟨R,rfl,hx⟩
  ·refine hJ1 u w8 o ho ((x2.fr (f5.ext f6)).trans f68 λy hy he=>by omega) ?_ (ae.fr f68 (by omega)) r8 (by omega);exact(U.ext f6).fr f68 λb hb he=>by
    have:iW a b:=⟨1,hb⟩;obtain⟨k,hk⟩:=this;have:=h.lt k b hk;omega
  ·exact hJ0 u w8 12 (by decide) R (((x2.trans hx).trans f6).nw f68)
 ·refine gU λu w6 r6 e6 z6 f6=> ?_;have h6:=h2.ext f6;have af:=r2.ext f6;have ay:a.g<w.heap.size:=h.lt 1 a.g (.inr (.inl rfl));have hz:=x2.size;have az:=r2.lt;refine⟨by rw[af.cell];rfl,by rw[af.cell];rfl,by rw[af.cell];rfl,h6.c0,?_⟩;refine cmS10 (PN.Pv h6.pl hp ip1 ip2 O.1 O.2 hm.p1 (f:=sw)) ?_;rintro x y z v w7 ⟨f7,N⟩;have aA:=r6.fr f7 (λhe=>by omega);refine gZ aA rfl rfl λw8 r8 f8 z8=> ?_;have f78:ig w7 w8 (·=u):=f8 (·=u) rfl;have aB:=(af.fr f7 (λhe=>by omega)).fr f78 (by omega);have x6:=x2.trans f6;rcases N with ⟨o,ho,rfl,rfl,rfl,rfl,U⟩|⟨R,rfl,hx⟩
  ·refine hJ1 u w8 o ho ((x6.fr f7).trans f78 λy hy he=>by omega) ?_ aB r8 (by omega);exact U.fr f78 λb hb he=>by
    have:iW a b:=⟨1,hb⟩;obtain⟨k,hk⟩:=this;have:=h.lt k b hk;omega
  ·exact hJ0 u w8 12 (by decide) R ((x6.trans hx).nw f78)
end Go.Proofs.EN
end
section
namespace Gp.V4
theorem OI (l:List UInt8):oK l<256^l.length:=by
 induction l with
 |nil=>simp[oK]
 |cons b l ih=>
  rw[UO,ajg,Nat.pow_succ];have:=b.toNat_lt;have h2:b.toNat * 256^l.length<=255 * 256^l.length:=amw _ (by omega);omega
theorem Wj:∀l:List UInt8,tot l<=65535 * l.length
 |[]=>by simp[tot]
 |[a]=>by have:=a.toNat_lt;simp[tot];omega
 |a::b::r=>by
  have:=a.toNat_lt;have:=b.toNat_lt;have:=Wj r;simp only[tot,ajg];omega
theorem Wi:∀(l m:List UInt8),l.length % 2=0->tot (l++m)=tot l+tot m
 |[],m,_=>by simp[tot]
 |[a],m,h=>by simp at h
 |a::b::r,m,h=>by
  simp only[alY,tot];rw[Wi r m (by simp at h;omega)];omega
theorem OB (n:Nat):fold n<65536:=by unfold fold;split<;>omega
theorem Ux {n:Nat} (h:n<65536):fold n=n:=by unfold fold;split<;>omega
theorem Yc {n:Nat} (h:65535<n):fold (n % 65536+n / 65536)=fold n:=by
 unfold fold;rw[acZ (by omega),acZ (by omega)];omega
instance (k:Int):Decidable (lN k):=inferInstanceAs (Decidable (_/\_))
instance (n k:Int):Decidable (jm n k):=inferInstanceAs (Decidable (_/\_))
instance (n:Int):Decidable (kL n):=inferInstanceAs (Decidable (_/\_))
instance (p:kZ):Decidable p.fine:=inferInstanceAs (Decidable (_/\_))
instance (p:kZ):Decidable p.short:=inferInstanceAs (Decidable (_/\_))
def kZ.check (p:kZ):Int:=if p.fine then if p.short then 0 else 6 else 1
theorem I9 (p:kZ) (s:Nat):(p.head s).length=20+p.opts.length:=by
 simp only[kZ.head,ahP,jf]
def ver (b:List UInt8):Nat:=((b[0]?).getD 0).toNat / 16
def nO (b:List UInt8) (quoted:Bool):Int:=
 if b.length<20 then 3
 else if ver b≠4\/hlen b<20 then 4
 else if b.length<hlen b\/(b.length<num b 2 2/\quoted=false) then 3
 else if num b 2 2<hlen b\/32768<=num b 6 2 then 4
 else 0
def rO (b:List UInt8) (quoted:Bool):Int:=
 if nO b quoted≠0 then nO b quoted
 else if quoted then 0
 else if fold (tot (b.take (hlen b)))≠65535 then 5
 else if (field b).check≠0 then 4
 else 0
def read (b:List UInt8) (quoted:Bool):kZ:=if rO b quoted=0 then field b else kZ.zero
theorem pG {p:kZ} (h:p.check=0):p.fine/\p.short:=by
 unfold kZ.check at h;split at h
 ·split at h
  ·exact⟨by assumption,by assumption⟩
  ·omega
 ·omega
theorem QW {n:Int} (h:jm n 1):0<=n/\n<256:=⟨h.2.1,by have:=h.2.2;simpa using this⟩
theorem head_eq (p:kZ) (s:Nat):p.head s=UInt8.ofNat (64+(20+p.opts.length) / 4)::UInt8.ofNat p.tos.toNat::UInt8.ofNat ((20+p.opts.length+p.data.length) / 256)::UInt8.ofNat (20+p.opts.length+p.data.length)::
  UInt8.ofNat (p.id.toNat / 256)::UInt8.ofNat p.id.toNat::UInt8.ofNat (p.bits / 256)::UInt8.ofNat p.bits::UInt8.ofNat p.ttl.toNat::UInt8.ofNat p.proto.toNat::UInt8.ofNat (s / 256)::UInt8.ofNat s::
  UInt8.ofNat (p.src.toNat / 16777216)::UInt8.ofNat (p.src.toNat / 65536)::UInt8.ofNat (p.src.toNat / 256)::UInt8.ofNat p.src.toNat::
  UInt8.ofNat (p.dst.toNat / 16777216)::UInt8.ofNat (p.dst.toNat / 65536)::UInt8.ofNat (p.dst.toNat / 256)::UInt8.ofNat p.dst.toNat::p.opts:=by
 simp[kZ.head,kC]
theorem ac3 {p:kZ} (h:p.fine):p.bits<32768:=by
 obtain⟨_,_,⟨h1,h2,h3,_⟩,_⟩:=h;unfold kZ.bits;split<;>split<;>omega
end Gp.V4
end
section
namespace Go.Proofs.VN
open Gp Gp.V4
theorem YD {w:θ} {s:gG} {l:List UInt8} (h:iH w s l) (hl:l.length<=2^62) (at_ k:Int):Dj s at_ k w λr e w'=>w'=w/\
  if ¬lN k\/at_<0 then e=1/\r=⟨none,0,0⟩ else if (l.length:Int)<at_+k then e=3/\r=⟨none,0,0⟩ else e=0/\iH w r ((l.drop at_.toNat).take k.toNat)/\∀a,s.a=some a->r.a=some (a.add at_.toNat):=by
 apply ZB;have hlen:=h.1;refine cmS0 (zY k w) ?_;rintro r w1 ⟨rfl,rfl⟩;by_cases hk:lN k
 ·have hk1:=hk.1;have hk2:=hk.2;by_cases ha:at_<0
  ·simp only[hk,ha,acI,adt,abt,aaf];exact⟨by trivial,by simp⟩
  ·have hno:¬(¬lN k\/at_<0):=by rintro(h|h)<;>contradiction
   simp only[hk,ha,acI,acR,adt,aaf,not_true_eq_false,or_self,aku];by_cases h1:((s.len:Int)<k)
   ·simp only[h1,acI,abt];exact⟨by trivial,by rw[adZ (by omega)];exact⟨by trivial,by trivial⟩⟩
   ·simp only[h1,acR,aaf];rw[Α (n:=(s.len:Int) - k) (by omega) (by omega)];by_cases h2:at_>(s.len:Int) - k
    ·simp only[h2,acI,abt];exact⟨by trivial,by rw[adZ (by omega)];exact⟨by trivial,by trivial⟩⟩
    ·simp only[h2,acR,aaf];rw[Α (n:=at_+k) (by omega) (by omega)];have hcap:=h.2.2;refine⟨by omega,by omega,by omega,by omega,by trivial,?_⟩;rw[acZ (by omega)];have hc:=h.cut (lo:=at_.toNat) (hi:=(at_+k).toNat) (by omega) (by omega) (at_+k).toNat (ajq _) (at_+k).toNat (λe=>by omega);rw[List.drop_take,show (at_+k).toNat - at_.toNat=k.toNat by omega] at hc;refine⟨by trivial,?_,λa u=> ?_⟩
     ·rw[show (at_+k).toNat - at_.toNat=k.toNat by omega];exact hc
     ·have I:¬((at_+k).toNat=at_.toNat):=by omega
      simp only[rP,I,aku,u,ahF,aiC]
 ·simp only[hk,acR,afk,abt];exact⟨by trivial,by simp⟩
theorem aaN {n x:Nat} (hn:n<2^40) (hx:x<256):orI .i64 (LX .i64 (n:Int) 8) (x:Int)=((n * 256+x:Nat):Int):=by
 have e0:LX .i64 (n:Int) 8=((n * 256:Nat):Int):=by
  unfold LX;have:(2:Int)^(min (8:Int).toNat (IntKind.bits .i64))=256:=by decide
  rw[this,Α];omega
 rw[e0];unfold orI;have eb:IntKind.bits .i64=64:=rfl;have h1:(BitVec.ofInt (IntKind.bits .i64) ((n * 256:Nat):Int)).toNat=n * 256:=by
  rw[eb,alZ];omega
 have h2:(BitVec.ofInt (IntKind.bits .i64) (x:Int)).toNat=x:=by
  rw[eb,alZ];omega
 rw[BitVec.toNat_or,h1,h2];have h3:n * 256|||x=n * 256+x:=by
  have:=Nat.two_pow_add_eq_or_of_lt (i:=8) (b:=x) (by omega) n;rw[show (2:Nat)^8=256 by decide] at this;rw[Nat.mul_comm n 256,this]
 rw[h3,Α]
theorem UQ {l:List UInt8} (h:l.length<=4):oK l<2^32:=by
 have h1:=OI l;have:(256:Nat)^l.length<=256^4:=amB (by omega) h;have e:(256:Nat)^4=4294967296:=by decide
 omega
theorem UR (l:List UInt8) {i:Nat} (h:i<l.length):oK (l.take (i+1))=oK (l.take i) * 256+l[i].toNat:=by
 unfold oK;rw[akx h,List.foldl_append];rfl
def Nh (l:List UInt8) (at_ k:Int) (n e:Int):Prop:=
 if ¬lN k\/at_<0 then e=1/\n=0 else if (l.length:Int)<at_+k then e=3/\n=0 else e=0/\n=(num l at_.toNat k.toNat:Int)
theorem P_ {w:θ} {s:gG} {l:List UInt8} (h:iH w s l) (hl:l.length<=2^62) (at_ k:Int):zL s at_ k w λn e w'=>w'=w/\Nh l at_ k n e:=by
 apply aeI;refine cmS5 (YD h hl at_ k) ?_;rintro r e w1 ⟨rfl,hr⟩;have main:∀(m:List UInt8),iH w1 r m->m.length<=4->∀(K:Int->Prop),K (oK m:Int)->iQ (S:=Int×Int×Unit) (λs7 w8 next9=>
   (bif (decide (s7.2.1<(r.len:Int))) then
    iK r 1 s7.2.1 λN=>Ld (.int .u8) w8 N λO=>0<=(8:Int)/\next9 ((orI .i64 (LX .i64 s7.1 8) (ο.wrap O)),(ο.wrap (s7.2.1+1)),()) w8
   else (w8=w1/\K s7.1))) (0,0,()) w1:=by
  intro m hm hm4 K hK;have hml:=hm.1;refine g_ (λst W=>W=w1/\∃i:Nat,i<=m.length/\st.2.1=i/\st.1=(oK (m.take i):Int)) (λst _=>m.length - st.2.1.toNat) ⟨rfl,0,by omega,rfl,rfl⟩ ?_;rintro⟨n,j,⟨⟩⟩ W ⟨rfl,i,hi,rfl,rfl⟩ next I
  by_cases J:i<m.length
  ·have u:((i:Int)<(r.len:Int)):=by omega
   simp only[u,acI,abt];obtain⟨a,ha,hc⟩:=hm.at_ (adP J);refine⟨a,ha,by omega,by omega,?_⟩;simp only[sx,abu,aiC,hc];refine⟨by omega,?_⟩;have hb:=m[i].toNat_lt;have hn2:oK (m.take i)<2^32:=UQ (by simp;omega);rw[Α (n:=((m[i].toNat:Nat):Int)) (by omega) (by omega),aaN (by omega) (by omega),Α];refine I _ _ ⟨rfl,i+1,by omega,by simp,?_⟩ (by simp only;omega);simp only[UR _ J]
  ·have u:¬((i:Int)<(r.len:Int)):=by omega
   simp only[u,acR,aaf];have:i=m.length:=by omega
   subst this;rw[alo];exact⟨trivial,hK⟩
 by_cases c1:¬lN k\/at_<0
 ·rw[adZ c1] at hr;obtain⟨rfl,rfl⟩:=hr;exact main [] iH.nil (by simp) (λn=>Nh l at_ k n 1) (by unfold Nh;rw[adZ c1];exact⟨rfl,rfl⟩)
 ·rw[acZ c1] at hr;by_cases c2:(l.length:Int)<at_+k
  ·rw[adZ c2] at hr;obtain⟨rfl,rfl⟩:=hr;exact main [] iH.nil (by simp) (λn=>Nh l at_ k n 3) (by unfold Nh;rw[acZ c1,adZ c2];exact⟨rfl,rfl⟩)
  ·rw[acZ c2] at hr;obtain⟨rfl,hr,_⟩:=hr;refine main _ hr ?_ (λn=>Nh l at_ k n 0) (by unfold Nh;rw[acZ c1,acZ c2];exact⟨rfl,rfl⟩);have hk:lN k:=ame λh=>c1 (.inl h);have:=hk.2;simp;omega
theorem adp {l:List UInt8} {at_ k:Nat} {n e:Int} (hk:1<=k/\k<=4) (h:at_+k<=l.length) (hr:Nh l at_ k n e):n=(num l at_ k:Int):=by
 unfold Nh at hr;rw[acZ (by unfold lN;omega),acZ (by omega)] at hr;simpa using hr.2
theorem FK {w0 w:θ} {s:gG} {v:Value} {l m:List UInt8} (hs:Buf w s (bytesV l)) (hv:SA w0 w v m) (hd:∀b,gG.at s b->¬(w0.heap.size<=b/\b<w.heap.size)) (hl:l.length+m.length<=2^46):
  jP s v w λr w'=>Buf w' r (bytesV (l++m))/\ig w w' (gG.at s)/\(∀b,gG.at r b->gG.at s b\/w.heap.size<=b)/\(r.a=none->l++m=[]/\s.a=none):=by
 obtain⟨C,hi,hC⟩:=hv;apply qC;refine⟨rfl,gU λa w1 r1 e1 z1 f1=> ?_⟩;have hlen:(yB m).length=m.length:=by simp[yB]
 have u:∀b,gG.at s b->b<w.heap.size:=λb hb=>hs.lt hb;refine vU hi (λi W=>∃t:gG,Row W a [Δ t]/\Buf W t (bytesV (l++m.take i))/\ig w W (gG.at s)/\(∀b,gG.at t b->gG.at s b\/(w.heap.size<=b/\b≠a/\b≠lM none w1/\b≠w1.heap.size))/\(t.a=none->l++m.take i=[]/\s.a=none)/\lM none w1<W.heap.size)
  (λ_ _=>False) (by simp) ?_ ?_ ?_ (by intro e W W' h;exact h.elim) (by intro e W h;exact h.elim) ?_ ?_ (by intro W h;exact h.elim) (by intro id W h;exact h.elim)
 ·intro w2 f2 z2;refine⟨s,r1.ext f2,by simpa using (hs.ext f1).ext f2,(f1.trans f2) _,λb hb=> .inl hb,?_,by omega⟩;simp only[List.take_zero,List.append_nil];intro ha;obtain⟨_,⟨_,h2,_⟩|⟨c,pad,h2,_⟩⟩:=hs
  ·exact⟨by simpa [bytesV] using h2,ha⟩
  ·rw[ha] at h2;cases h2
 ·rintro i W ⟨t,_,_,hf,_⟩;exact hC W _ hf λb h1 h2 h3=>hd b h3 ⟨h1,h2⟩
 ·rintro i W W' ⟨t,h1,h2,h3,h4,h5,h6⟩ hf;have J:lM none w1=w1.heap.size+1:=rfl;refine⟨t,h1.fr hf (by omega),h2.fr hf λb hb e=> ?_,h3.trans hf (λb hb e=>by omega),h4,h5,by have:=hf.size;omega⟩;rcases h4 b hb with h|h
  ·have:=u b h;omega
  ·omega
 ·intro i x W Kb hx ⟨t,h1,h2,h3,h4,h5,h6⟩ hlt I _;refine⟨rfl,?_⟩;have J:lM none w1=w1.heap.size+1:=rfl;rw[acY] at hx
  cases hb:m[i]? with
  |none=>rw[hb] at hx;simp at hx
  |some y=>
  rw[hb] at hx;simp only[ahF,aho] at hx;subst hx;have fb:=ig.gQ W (lM none w1);have h1':=h1.fr fb (by omega);have h2':Buf (gQ W (lM none w1)) t (bytesV (l++m.take i)):=h2.fr fb λb hb e=>by
   rcases h4 b hb with h|h
   ·have:=u b h;omega
   ·omega
  simp only[sx,afe,h1'.cell];have N:i<m.length:=(afg.1 hb).1;refine gU λc w3 r3 e3 z3 f3=> ?_;have hz3:w3.heap.size=W.heap.size+1:=by rw[z3,e3];simp[gQ]
  have hx3:iH w3 ⟨some ⟨c,0,none⟩,1,1⟩ [y]:= .iM (iH.row (l:=[y]) (by simpa [bytesV] using r3));have h2'':=h2'.ext f3;refine jK h2'' hx3 (by simp;omega) λs' w4 b4 f4 p4 n4=> ?_;have O:¬gG.at t a:=λh=>by
   rcases h4 a h with h|h
   ·have:=u a h;omega
   ·exact h.2.1 rfl
  have h1'':=(h1'.ext f3).fr f4 O;refine iC h1'' rfl (by simp) λw5 r5 f5 z5=> ?_;simp only[af5] at r5;have hbz:(gQ W (lM none w1)).heap.size=W.heap.size:=by simp[gQ]
  have R:∀b,gG.at s' b->b≠a:=λb hb e=>by
   rcases p4 b hb with h|h
   ·exact O (e ▸ h)
   ·have:=h1.lt;omega
  refine I w5 (λb=>gG.at t b\/b=a) ?_ ?_ ⟨s',r5,?_,?_,?_,?_,?_⟩
  ·exact((f3 _).trans (f4.mono λb h=> .inl h) λ_ _ e=>e).trans (f5 (λb=>gG.at t b\/b=a) (.inr rfl)) λ_ _ e=>e
  ·rintro b hb1 hb2 (h|h)
   ·rcases h4 b h with h|h
    ·have:=u b h;omega
    ·rcases Nat.lt_or_ge b (lM none w1) with hx|hx<;>omega
   ·omega
  ·have e:l++m.take (i+1)=l++m.take i++[y]:=by
    rw[akx N];have:m[i]=y:=by rw[adP N] at hb;simpa using hb
    simp[this]
   rw[e];exact b4.fr (f5 (·=a) rfl) λb hb e=>R b hb e
  ·refine((h3.trans fb λb hb e=>by omega).ext f3).trans (S':=λb=>gG.at t b\/b=a) ((f4.mono λb h=> .inl h).trans (f5 (λb=>gG.at t b\/b=a) (.inr rfl)) λ_ _ e=>e) ?_;rintro b hb (h|h)
   ·rcases h4 b h with h|h
    ·exact h
    ·omega
   ·omega
  ·intro b hb;rcases p4 b hb with h|h
   ·exact h4 b h
   ·refine .inr ⟨by have:=h3.size;omega,R b hb,?_,?_⟩<;>omega
  ·intro ha;obtain⟨h1,h2⟩:=n4 ha;simp at h1
  ·have:=f4.size;omega
 ·rintro W ⟨t,h1,h2,h3,h4,h5,h6⟩ hm;have J:lM none w1=w1.heap.size+1:=rfl;simp only[sx,afe,h1.cell];rw[hlen,alo] at h2 h5;refine⟨hm rfl,?_,?_,?_,h5⟩
  ·exact h2.fr (ig.nG _ _ _) λb hb e=>by
    rcases h4 b hb with h|h
    ·have:=u b h;omega
    ·omega
  ·exact h3.trans (ig.nG _ _ _) λb hb e=>by omega
  ·intro b hb;rcases h4 b hb with h|h
   ·exact .inl h
   ·exact .inr h.1
end Go.Proofs.VN
end
section
namespace Go.Proofs.VN
open Gp Gp.V4
theorem abQ {w0 w:θ} {v:Value} {m:List UInt8} (hv:SA w0 w v m) (hl:m.length<=2^46):
  rZ v w λr w'=>Buf w' r (bytesV m)/\Ext w w'/\(∀b,gG.at r b->w.heap.size<=b):=by
 apply GZ;refine cmS2 (FK (l:=[]) Buf.nil hv (by rintro b ⟨o,h⟩;cases h) (by simp_all)) ?_;rintro r w1 ⟨h1,f1,h2,_⟩;refine⟨by simpa using h1,f1.new ?_,λb hb=> ?_⟩
 ·rintro b _ ⟨o,h⟩;cases h
 ·rcases h2 b hb with ⟨o,h⟩|h
  ·cases h
  ·exact h
theorem set_mid {α:Type} (A:List α) (ys:List α) (R:List α) {i:Nat} {y:α} (hi:ys[i]? =some y) (hR:0<R.length):
  (A++ys.take i++R).set (A.length+i) y=A++ys.take (i+1)++R.drop 1:=by
 have h:=(afg.1 hi).1;have e:(A++ys.take i).length=A.length+i:=by simp;omega
 rw[ami _ _ (by omega),e,Nat.sub_self]
 cases R with
 |nil=>simp at hR
 |cons r R=>
  simp only[af5,List.drop_succ_cons,amW];rw[akx h]
  simp_all
structure ak9 (l:List UInt8) (at_ n k:Int) (w:θ) (r:gG) (e:Int):Prop where
 out:if ¬jm n k\/at_<0 then e=1/\r=⟨none,0,0⟩ else if (l.length:Int)<at_+k then e=3/\r=⟨none,0,0⟩ else e=0/\Buf w r (bytesV (l.take at_.toNat++kC k.toNat n.toNat++l.drop (at_.toNat+k.toNat)))
theorem VT {w:θ} {s:gG} {l:List UInt8} (hs:iH w s l) (hl:l.length<=2^46) (at_ n k:Int):
  zM s at_ n k w λr e w'=>ak9 l at_ n k w' r e/\Ext w w'/\(∀b,gG.at r b->w.heap.size<=b):=by
 apply aeK;refine cmS0 (sQ n k w) ?_;rintro _ _ ⟨rfl,rfl⟩;by_cases hf:jm n k
 ·simp only[hf,acI,adt,aaf];refine cmS2 (oG hs (by omega)) ?_;rintro r w1 ⟨b1,_,f1,n1⟩;have hk:=hf.1;refine cmS5 (YD (iH.iM b1) (by omega) at_ k) ?_;rintro r2 e w2 ⟨rfl,hr⟩;by_cases c1:at_<0
  ·rw[adZ (.inr c1)] at hr;obtain⟨rfl,rfl⟩:=hr;refine⟨?_,f1,by rintro b ⟨o,h⟩;cases h⟩;refine⟨?_⟩;rw[adZ (.inr c1)];trivial
  have c1':¬(¬lN k\/at_<0):=by rintro(h|h)<;>contradiction
  have c1'':¬(¬jm n k\/at_<0):=by rintro(h|h)<;>contradiction
  rw[acZ c1'] at hr;by_cases c2:(l.length:Int)<at_+k
  ·rw[adZ c2] at hr;obtain⟨rfl,rfl⟩:=hr;refine⟨?_,f1,by rintro b ⟨o,h⟩;cases h⟩;refine⟨?_⟩;rw[acZ c1'',adZ c2];trivial
  rw[acZ c2] at hr;obtain⟨rfl,hr,ha⟩:=hr;simp only[show ((0:Int) !=0)=false from rfl,aaf];refine cmS4 (X5 hk hf.2.1 _) ?_;rintro v w3 ⟨f3,hv⟩;refine cmS2 (abQ hv (by rw[jf];omega)) ?_;rintro q w4 ⟨b4,f4,n4⟩;obtain⟨m,rfl⟩:∃m:Nat,k=(m:Int):=⟨k.toNat,by have:=hk.1;omega⟩;obtain⟨o,rfl⟩:∃o:Nat,at_=(o:Int):=⟨at_.toNat,by omega⟩;simp only[abu] at hr ha b4;have hq:=b4.1;rw[jW,jf] at hq;have N:(kC m n.toNat).length=m:=jf _ _;have O:=hr.1;simp only[ajH,al2] at O;have R:∀b,gG.at q b->¬gG.at r b:=λb h1 h2=>by
   have:=n4 b h1;have:=b1.lt h2;have:=f3.size;omega
  refine g_ (λst W=>∃i:Nat,i<=m/\st.1=i/\Buf W r (bytesV (l.take o++(kC m n.toNat).take i++l.drop (o+i)))/\Buf W q (bytesV (kC m n.toNat))/\ig w4 W (gG.at r))
   (λst _=>m - st.1.toNat) ⟨0,by omega,rfl,by simpa using (b1.ext f3).ext f4,b4,ig.refl _ _⟩ ?_
  rintro⟨x,⟨⟩⟩ W ⟨i,hi,rfl,h1,h2,h3⟩ next I
  by_cases hlt:i<m
  ·have u:((i:Int)<(q.len:Int)):=by omega
   simp only[u,acI,abt];have hy:(kC m n.toNat)[i]? =some (kC m n.toNat)[i]:=adP (by omega);obtain⟨a,U,hc⟩:=(iH.iM h2).at_ hy;refine⟨a,U,by omega,by omega,?_⟩;simp only[sx,abu,aiC,hc];have hol:o+i<l.length:=by omega
   obtain⟨b,hb,J⟩:=h1.set (i:=o+i) (by simp[jW,N];omega);have Y:=ha _ hb;refine⟨_,Y,by omega,by omega,?_⟩;rw[PD];simp only[sx,abu,aiC];refine J _ _ rfl λw5 b5 f5 z5=> ?_;rw[Α];refine I _ _ ⟨i+1,by omega,by simp,?_,h2.fr f5 (λb hb h=>R b hb h),h3.trans f5 λ_ _ h=>h⟩ (by omega);have e:=set_mid (l.take o) (kC m n.toNat) (l.drop (o+i)) hy (by simp;omega);rw[ajH,amb (by omega)] at e;have e':(bytesV (l.take o++(kC m n.toNat).take i++l.drop (o+i))).set (o+i) (.int .u8 (kC m n.toNat)[i].toNat)=bytesV (l.take o++(kC m n.toNat).take (i+1)++l.drop (o+(i+1))):=by
    rw[show l.drop (o+(i+1))=(l.drop (o+i)).drop 1 by simp;omega,<- e];unfold bytesV;simp
   rw[e'] at b5;exact b5
  ·have u:¬((i:Int)<(q.len:Int)):=by omega
   simp only[u,acR,aaf];have:i=m:=by omega
   subst this;refine⟨?_,((f1.trans f3).trans f4).new h3 λb hb h=>by grind,n1⟩;refine⟨?_⟩;rw[acZ c1'',acZ c2];refine⟨rfl,?_⟩;rw[ali (l:=kC i n.toNat) (by omega)] at h1;simpa using h1
 ·simp only[hf,acR,afk,abt];refine⟨?_,Ext.refl _,by rintro b ⟨o,h⟩;cases h⟩;refine⟨?_⟩;rw[adZ (.inl hf)];trivial
theorem Td {l:List UInt8} {at_ n k:Int} {w:θ} {r:gG} {e:Int} (h1:jm n k) (h2:0<=at_) (h3:at_+k<=l.length) (h:ak9 l at_ n k w r e):e=0/\Buf w r (bytesV (l.take at_.toNat++kC k.toNat n.toNat++l.drop (at_.toNat+k.toNat))):=by
 have:=h.out
 grind
def wordAt (l:List UInt8) (j:Nat):Nat:=((l[j]?).getD 0).toNat * 256+((l[j+1]?).getD 0).toNat
def wB (l:List UInt8):List (zZ [.one ν,.one ν]):=(List.range ((l.length+1) / 2)).map λi=>(((2 * i:Nat):Int),((wordAt l (2 * i):Nat):Int),())
theorem QK (l:List UInt8):(wB l).length=(l.length+1) / 2:=by simp[wB]
theorem ό (l:List UInt8) {i:Nat} (h:2 * i<l.length):(wB l)[i]? =some (((2 * i:Nat):Int),((wordAt l (2 * i):Nat):Int),()):=by
 simp only[wB,aiK]
 grind
theorem abe (l:List UInt8) {i:Nat} (h:2 * i<l.length):tot (l.take (2 * (i+1)))=tot (l.take (2 * i))+wordAt l (2 * i):=by
 have e:l.take (2 * (i+1))=l.take (2 * i)++(l.drop (2 * i)).take 2:=by
  grind
 rw[e,Wi _ _ (by simp;omega)];congr 1;unfold wordAt;rw[<- amN,show l[2 * i]? =(l.drop (2 * i))[0]? by simp]
 match hd:l.drop (2 * i) with
 |[]=>rfl
 |[a]=>simp[tot]
 |a::b::r=>simp[tot]
theorem Fv (l:List UInt8) (j:Nat):wordAt l j<65536:=by
 unfold wordAt;have h1:=((l[j]?).getD 0).toNat_lt;have h2:=((l[j+1]?).getD 0).toNat_lt;omega
theorem NZ {s:gG} {f0:Nat} {l:List UInt8} (hl:l.length<=2^46):
  qE υ [.one ν,.one ν] (Value.func (.func Zu) #[] #[(Value.pointer (some ⟨f0,0,none⟩))])
   (λW=>Row W f0 [Δ s]/\iH W s l) (wB l):=by
 refine⟨by kernel_rfl,λn Q D hC hQ hD hy w h0=> ?_⟩;refine Calls.mono (Xb ?_) (λe w' h=>h);rw[QK];refine g_ (λst W=>∃i:Nat,i<=(l.length+1) / 2/\st.1=((2 * i:Nat):Int)/\Q i W) (λst _=>l.length+1 - st.1.toNat) ⟨0,by omega,rfl,h0⟩ ?_;rintro⟨x,⟨⟩⟩ W ⟨i,hi,rfl,hq⟩ next J
 obtain⟨r0,hs⟩:=hC _ _ hq;have hsl:=hs.1;simp only[sx,r0.cell];by_cases R:2 * i<l.length
 ·have I:(((2 * i:Nat):Int)<(s.len:Int)):=by omega
  simp only[I,acI,abt];obtain⟨a,ha,hc⟩:=hs.at_ (adP R);refine⟨a,ha,by omega,by omega,?_⟩;rw[abu];simp only[aiC,gJ,gK,hc];refine⟨by omega,?_⟩;have hb:=l[2 * i].toNat_lt;have fin:jF υ [.one .bool] (.func (.yield n) #[] #[]) [Β ((2 * i:Nat):Int),Β ((wordAt l (2 * i):Nat):Int)] W (λY N=>
    ∃U:Bool,Y=(Value.bool U)/\(bif (!U) then (Q ((l.length+1) / 2) N\/D N) else next ((ο.wrap (((2 * i:Nat):Int)+2)),()) N)):=by
   refine kP (hy i (((2 * i:Nat):Int),((wordAt l (2 * i):Nat):Int),()) W _ (ό l R) hq ?_ ?_)
   ·intro W' hq';refine⟨true,rfl,?_⟩;simp only[adt,aaf];rw[Α];exact J _ _ ⟨i+1,by omega,by rfl,hq'⟩ (by omega)
   simp_all
  rw[Α,Α];by_cases O:2 * i+1<l.length
  ·have u:(((2 * i:Nat):Int)+1<(s.len:Int)):=by omega
   simp only[u,acI,abt];obtain⟨a',ha',hc'⟩:=hs.at_ (adP O);refine⟨a',ha',by omega,by omega,?_⟩;rw[show (((2 * i:Nat):Int)+1).toNat=2 * i+1 by omega];simp only[aiC,gJ,gK,hc'];have hb':=l[2 * i+1].toNat_lt;rw[Α,aaN (by omega) (by omega)];have e:wordAt l (2 * i)=l[2 * i].toNat * 256+l[2 * i+1].toNat:=by
    unfold wordAt
    simp_all
   rw[e] at fin;exact fin
  ·have u:¬(((2 * i:Nat):Int)+1<(s.len:Int)):=by omega
   simp only[u,acR,aaf];have e0:LX .i64 (l[2 * i].toNat:Int) 8=((l[2 * i].toNat * 256:Nat):Int):=by
    have:=aiJ (a:=l[2 * i].toNat) (k:=8) (by omega) (by omega);trivial
   rw[e0];have e:wordAt l (2 * i)=l[2 * i].toNat * 256:=by
    unfold wordAt
    simp_all
   rw[e] at fin;exact fin
 ·have I:¬(((2 * i:Nat):Int)<(s.len:Int)):=by omega
  simp only[I,acR,aaf]
  grind
def Parts (w:θ) (s:gG) (ps:List (gG×List UInt8)):Prop:=
 s.len=ps.length/\(∀i p,ps[i]? =some p->∃b o,s.a=some ⟨b,o,none⟩/\w.cell? ⟨b,o+i,none⟩=some (.slice p.1.a p.1.len p.1.cap)/\iH w p.1 p.2)
theorem Parts.fr {w w':θ} {s:gG} {ps:List (gG×List UInt8)} (h:Parts w s ps) (hf:Ext w w'):Parts w' s ps:=
 ⟨h.1,λi p hi=>by obtain⟨b,o,h1,h2,h3⟩:=h.2 i p hi;exact⟨b,o,h1,kS h2 hf,h3.ext hf⟩⟩
def sZ (ps:List (gG×List UInt8)):Nat:=(ps.map λp=>tot p.2).foldr (·+·) 0
theorem YB {ps:List (gG×List UInt8)} {i:Nat} {p:gG×List UInt8} (h:ps[i]? =some p):sZ (ps.take (i+1))=sZ (ps.take i)+tot p.2:=by
 have u:=(afg.1 h).1;rw[akx u];have:ps[i]=p:=by simp_all
 rw[this];unfold sZ;generalize ps.take i=q
 induction q with
 |nil=>simp
 |cons x q ih=>grind
theorem adI {ps:List (gG×List UInt8)} {n:Nat} (h:∀p∈ps,p.2.length<=n):sZ ps<=ps.length * (65535 * n):=by
 unfold sZ
 induction ps with
 |nil=>simp
 |cons p ps ih=>
  simp only[akh,List.foldr_cons,ajg];have h1:=Wj p.2
  grind
theorem abf {w:θ} {s:gG} {ps:List (gG×List UInt8)} (hs:Parts w s ps) (hn:ps.length<=64) (hl:∀p∈ps,p.2.length<=2^40):
  Dv s w λr w'=>r=(sZ ps:Int)/\Ext w w':=by
 apply ZT;refine gU λa w1 r1 e1 z1 f1=> ?_;refine iC r1 rfl (by simp) λw2 r2 f2 z2=> ?_;have hsl:=hs.1;have x2:=f1.new (f2 (·=a) rfl) λb hb e=>by omega
 have N:∀i,sZ (ps.take i)<=2^62:=λi=>by
  have h1:=adI (ps:=ps.take i) (n:=2^40) λp hp=>hl p (amZ hp)
  grind
 refine g_ (λst W=>∃i:Nat,i<=ps.length/\st.1.1=i/\Row W a [Β (sZ (ps.take i):Int)]/\Ext w W/\(∀d∈st.2,w2.heap.size<=d/\d<W.heap.size/\W.heap[d]? =some (.deferred (some [])))/\st.2.Nodup/\w2.heap.size<=W.heap.size)
  (λst _=>ps.length - st.1.1.toNat) ⟨0,by omega,rfl,by simpa [sZ] using r2,x2,by simp,by simp,ajq _⟩ ?_
 rintro⟨⟨x,⟨⟩⟩,ds⟩ W ⟨i,hi,rfl,h1,h2,h3,h4,h5⟩ next I
 by_cases R:i<ps.length
 ·have u:((i:Int)<(s.len:Int)):=by omega
  simp only[u,acI,abt];obtain⟨b,o,ha,hc,hb⟩:=(hs.fr h2).2 i _ (adP R);refine⟨_,ha,by omega,by omega,?_⟩;simp only[sx,abu,aiC,hc];generalize hp:ps[i]=p at hc hb;have O:ps[i]? =some p:=by simp_all
  have hpl:=hl p (als O);apply Jh;refine⟨rfl,gU λc w3 r3 e3 z3 f3=> ?_⟩;have U:∀j,tot (p.2.take j)<=2^60:=λj=>by
   have:=Wj (p.2.take j)
   grind
  have haw:a<w2.heap.size:=by omega
  have hla:lM none w3=w3.heap.size+1:=rfl;have hsz:=h2.size;have hbw:∀a',p.1.a=some a'->0<p.2.length->a'.block<w.heap.size:=λa' h h'=>by
   obtain⟨b',o',_,_,hb'⟩:=hs.2 i p O;exact hb'.lt h h'
  refine vU (NZ (s:=p.1) (l:=p.2) (by omega)) (λj W'=>Row W' a [Β ((sZ (ps.take i)+tot (p.2.take (2 * j)):Nat):Int)]/\ig w3 W' (·=a)/\w3.heap.size+2<=W'.heap.size)
   (λ_ _=>False) (by simp) ?_ ?_ ?_ (by simp) (by simp) ?_ ?_ (by intro W h;exact h.elim) (by intro id W h;exact h.elim)
  ·intro w4 f4 z4;exact⟨by simpa [tot] using (h1.ext f3).ext f4,f4 _,by omega⟩
  ·exact λj W' h=>⟨r3.fr h.2.1 (by omega),(hb.ext f3).fr h.2.1 λa' ha' hl' e=>by simp_all⟩
  ·rintro j W' W'' ⟨g1,g5,g6⟩ hf;exact⟨g1.fr hf (by omega),g5.trans hf λb hb e=>by omega,by have:=hf.size;omega⟩
  ·intro j x W' Kb hx ⟨g1,g5,g6⟩ hlt3 J _;refine⟨by trivial,?_⟩;have hj:2 * j<p.2.length:=by
    have:=(afg.1 hx).1;rw[QK] at this;omega
   rw[ό _ hj] at hx;simp only[aho] at hx;subst hx;have fb:=ig.gQ W' (lM none w3);have g1':=g1.fr fb (by omega);simp only[afe,gJ,gK,g1'.cell];refine iC g1' rfl (by simp) λw5 r5 f5 z5=> ?_;refine J w5 (·=a) (f5 _ rfl) (λb hb1 hb2 e=>by omega) ⟨?_,(g5.trans fb λb hb e=>by omega).trans (f5 (·=a) rfl) λb hb e=>e,by simp[gQ] at z5;omega⟩;simp only[af5] at r5;have:=N i;have:=U (2 * j);have:=Fv p.2 (2 * j);rw[Α] at r5;rw[abe _ hj];have e:((sZ (ps.take i)+tot (p.2.take (2 * j)):Nat):Int)+((wordAt p.2 (2 * j):Nat):Int)=((sZ (ps.take i)+(tot (p.2.take (2 * j))+wordAt p.2 (2 * j)):Nat):Int):=by omega
   rw[e] at r5;exact r5
  ·rintro W' ⟨g1,g5,g6⟩ hm;have hmk:=hm rfl;rw[QK,ali (l:=p.2) (by omega)] at g1;rw[Α];have hx:Ext w W':=(h2.trans f3).new g5 λb hb e=>by omega
   refine I _ _ ⟨i+1,by omega,by simp,by rw[YB O];exact g1,hx,?_,?_,by omega⟩ (by grind)
   ·intro d hd;rcases agI.1 hd with rfl|hd
    ·grind
    ·obtain⟨q1,q2,q3⟩:=h3 d hd;refine⟨q1,by omega,?_⟩;rw[g5.same d (by omega) (by omega),(f3 λ_=>False).same d (by omega) (by simp)];exact q3
   grind
 ·have u:¬((i:Int)<(s.len:Int)):=by omega
  simp only[u,acR,aaf];have:i=ps.length:=by omega
  subst this;rw[alo] at h1;simp only[sx,h1.cell];refine EP (n:=w2.heap.size) ds W (λd hd=>⟨(h3 d hd).1,(h3 d hd).2.2⟩) h4 λw6 f6 z6=>⟨by trivial,h2.new f6 λb hb e=>by omega⟩
end Go.Proofs.VN
end
section
namespace Go.Proofs.VN
open Gp Gp.V4
theorem ado {m:Nat} (hm:m<2^62) (w:θ):Gq (m:Int) w λr w'=>r=(fold m:Int)/\w'=w:=by
 apply aaJ;have h0:¬((0:Int)>(m:Int)):=by omega
 simp only[h0,aku];refine g_ (λst W=>W=w/\∃x:Nat,x<2^62/\st.1=(x:Int)/\fold x=fold m) (λst _=>st.1.toNat) ⟨rfl,m,hm,rfl,rfl⟩ ?_;rintro⟨x,⟨⟩⟩ W ⟨rfl,n,hn,rfl,hf⟩ next u
 by_cases I:65535<n
 ·have h:((n:Int)>65535):=by omega
  simp only[h,acI,abt];refine⟨by omega,?_⟩;have e1:lZ .i64 (n:Int) 65535=((n % 65536:Nat):Int):=by
   have:=Og (a:=n) (b:=65535) (by omega) (by omega);rw[show (65535:Nat)=2^16 - 1 by decide,JZ] at this;exact this
  have e2:jR .i64 (n:Int) 16=((n / 65536:Nat):Int):=DY (k:=16) (by omega);rw[e1,e2,Α];exact u _ _ ⟨rfl,n % 65536+n / 65536,by omega,by rfl,by rw[Yc I,hf]⟩ (by omega)
 ·have h:¬((n:Int)>65535):=by omega
  simp only[h,acR,aaf];exact⟨by rw[<- hf,Ux (by omega)],by trivial⟩
theorem adJ {ps:List (gG×List UInt8)} (hn:ps.length<=64) (hl:∀p∈ps,p.2.length<=2^40) (i:Nat):sZ (ps.take i)<2^62:=by
 have h1:=adI (ps:=ps.take i) λp hp=>hl p (amZ hp)
 grind
theorem abb {ps:List (gG×List UInt8)} (hn:ps.length<=64) (hl:∀p∈ps,p.2.length<=2^40):sZ ps<2^62:=by
 have:=adJ hn hl ps.length
 simp_all
theorem aft {w:θ} {s:gG} {ps:List (gG×List UInt8)} (hs:Parts w s ps) (hn:ps.length<=64) (hl:∀p∈ps,p.2.length<=2^40):
  J3 s w λr w'=>r=(fold (sZ ps):Int)/\Ext w w':=by
 apply acA;refine cmS1 (abf hs hn hl) ?_;rintro _ w1 ⟨rfl,f1⟩;refine cmS1 (ado (abb hn hl) w1) ?_
 grind
theorem UW {w:θ} {s:gG} {ps:List (gG×List UInt8)} (hs:Parts w s ps) (hn:ps.length<=64) (hl:∀p∈ps,p.2.length<=2^40):
  IB s w λr w'=>r=((65535 - fold (sZ ps):Nat):Int)/\Ext w w':=by
 apply aeL;refine cmS1 (aft hs hn hl) ?_;rintro _ w1 ⟨rfl,f1⟩;have:=OB (sZ ps);exact⟨by rw[Α];omega,f1⟩
theorem QJ {w:θ} {s:gG} {ps:List (gG×List UInt8)} (hs:Parts w s ps) (hn:ps.length<=64) (hl:∀p∈ps,p.2.length<=2^40):
  zN s w λr w'=>r=decide (fold (sZ ps)=65535)/\Ext w w':=by
 apply ZR;refine cmS1 (aft hs hn hl) ?_
 grind
theorem Fe {w:θ} {b:Nat} {s:gG} {l:List UInt8} (h:Row w b [Δ s]) (hs:iH w s l):Parts w ⟨some ⟨b,0,none⟩,1,1⟩ [(s,l)]:=by
 refine⟨rfl,λi p hi=> ?_⟩
 cases i with
 |zero=>
  simp at hi;subst hi;exact⟨b,0,rfl,by rw[h.cell];rfl,hs⟩
 |succ i=>simp at hi
theorem Px (s:gG) (l:List UInt8):sZ [(s,l)]=tot l:=by simp[sZ]
theorem BX (n:Int) (w:θ):mX n w λr w'=>r=decide (kL n)/\w'=w:=by
 apply MB;by_cases h1:n>=0
 ·have h1':=h1;simp[h1',kL]
 ·have h1':=h1;simp[h1',kL]
theorem PG {w:θ} {b:Nat} {l:List Bool} {vs:List Value} (h:Row w b vs) (hv:vs=l.map Value.bool) (n:Nat) (hn:n=l.length) (hl:l.length<=100):zO ⟨some ⟨b,0,none⟩,n,n⟩ w λr w'=>r=l.all id/\w'=w:=by
 subst hv;apply aeM;apply Af;apply Dc;subst hn;refine g_ (λst W=>W=w/\∃i:Nat,i<=l.length/\st.1=(i:Int)/\(l.take i).all id=true) (λst _=>l.length - st.1.toNat) ⟨rfl,0,by omega,rfl,rfl⟩ ?_;rintro⟨x,⟨⟩⟩ W ⟨rfl,i,hi,rfl,hp⟩ next I
 by_cases J:i<l.length
 ·have u:((i:Int)<(l.length:Int)):=by omega
  simp only[u,acI,abt];simp only[sx,h.cell,abu,aiC,aiK,adP J,ahF];refine⟨by omega,by trivial,?_⟩
  cases hb:l[i] with
  |true=>
   simp only[show (false==true)=false from rfl,aaf];rw[Α];refine I _ _ ⟨rfl,i+1,by omega,by simp,?_⟩ (by omega);rw[akx J,List.all_append,hp,hb];rfl
  |false=>
   simp only[show (false==false)=true from rfl,abt];refine⟨?_,by trivial⟩;have:l.all id=false:=by
    apply Bool.eq_false_iff.2;intro h;have:=al5.1 h false (hb ▸ akU J)
    cases this
   simp_all
 ·have u:¬((i:Int)<(l.length:Int)):=by omega
  simp only[u,acR,aaf]
  grind
end Go.Proofs.VN
end
section
open List (all_cons all_nil)
namespace Go.Proofs.VN
open Gp Gp.V4
theorem adL (a0 a1 a2 a3 a4 a5 a6:Int) (a7 a8:Bool) (a9 u:gG) (h:a9.len<=2^60) (w:θ):J5 a0 a1 a2 a3 a4 a5 a6 a7 a8 a9 u w λr w'=>r=20+(a9.len:Int)/\Ext w w':=by
 apply acC;refine gU λa w1 r1 _ _ f1=> ?_;simp only[sx,afe,afh,r1.cell];exact⟨by rw[Α],f1⟩
theorem aiX (a0 a1 a2 a3 a4 a5 a6:Int) (a7 a8:Bool) (a9 u:gG) (h:a9.len<=2^60) (h':u.len<=2^60) (w:θ):PW a0 a1 a2 a3 a4 a5 a6 a7 a8 a9 u w λr w'=>r=20+(a9.len:Int)+(u.len:Int)/\Ext w w':=by
 apply acD;refine gU λa w1 r1 _ _ f1=> ?_;simp only[sx,afe,afh,r1.drew.cell];refine cmS1 (adL _ _ _ _ _ _ _ _ _ _ _ h _) ?_;rintro r w2 ⟨rfl,f2⟩;refine⟨by rw[(r1.drew.ext f2).cell];rfl,?_,(f1.trans (Ext.drew _)).trans f2⟩;rw[Α]
theorem Ol {w:θ} (p:kZ) {o d:gG} (ho:o.len=p.opts.length) (hd:d.len=p.data.length) (h1:p.opts.length<=2^46) (h2:p.data.length<=2^46):
  Gt p.tos p.id p.off p.ttl p.proto p.src p.dst p.df p.mf o d w λr w'=>r=p.check/\Ext w w':=by
 apply aaK;refine gU λa w1 r1 _ _ f1=> ?_;have r1d:=r1.drew;simp -zeta only[sx,Ci,afe,afh,r1d.cell];refine cmS0 (sQ _ _ _) ?_;rintro _ _ ⟨rfl,rfl⟩;simp -zeta only[afp,afe,afh,r1d.cell];refine cmS0 (sQ _ _ _) ?_;rintro _ _ ⟨rfl,rfl⟩;simp -zeta only[afp,afe,afh,r1d.cell];refine cmS0 (sQ _ _ _) ?_;rintro _ _ ⟨rfl,rfl⟩;simp -zeta only[afp,afe,afh,r1d.cell];refine cmS0 (sQ _ _ _) ?_;rintro _ _ ⟨rfl,rfl⟩;refine gU λb w2 r2 _ _ f2=> ?_;refine cmS0 (PG (l:=[decide (jm p.tos 1),decide (jm p.ttl 1),decide (jm p.proto 1),decide (jm p.id 2)]) r2 rfl 4 rfl (by simp)) ?_;rintro _ w2 ⟨rfl,rfl⟩;have r3:=(r1d.ext f2).drew;simp -zeta only[afe,afh,gJ,gK,r3.cell];refine cmS0 (BX _ _) ?_;rintro _ _ ⟨rfl,rfl⟩;simp -zeta only[afp,afe,afh,r3.cell];refine cmS0 (BX _ _) ?_;rintro _ _ ⟨rfl,rfl⟩;refine gU λc w4 r4 _ _ f4=> ?_;refine cmS0 (PG (l:=[decide (kL p.src),decide (kL p.dst)]) r4 rfl 2 rfl (by simp)) ?_;rintro _ w4 ⟨rfl,rfl⟩;have r5:=r3.ext f4;have x5:=(((f1.trans (Ext.drew _)).trans f2).trans (Ext.drew _)).trans f4;intro h;have hJ:∀(b:Bool) (W:θ),Ext w4 W->b=decide (0<=p.off/\p.off<=65528/\Int.tmod p.off 8=0/\(p.mf=true->p.data.length % 8=0))->h b W:=by
  rintro b W fW rfl;have rW:=r5.ext fW;simp only[h,abt,afe,afh,gJ,h_,rW.cell];refine⟨by omega,gU λe w6 r6 _ _ f6=> ?_⟩;refine cmS0 (PG (l:=[_,_]) r6 rfl 2 rfl (by simp)) ?_;rintro _ _ ⟨rfl,rfl⟩;refine gU λg w7 r7 _ _ f7=> ?_;refine cmS0 (PG (l:=[_,_,_,_]) r7 rfl 4 rfl (by simp)) ?_;rintro _ _ ⟨rfl,rfl⟩;have e1:decide ((o.len:Int)<=40)=decide (p.opts.length<=40):=by grind
  have e2:(Int.tmod (o.len:Int) 4==0)=decide (p.opts.length % 4=0):=by
   grind
  have e3:([[decide (jm p.tos 1),decide (jm p.ttl 1),decide (jm p.proto 1),decide (jm p.id 2)].all id,[decide (kL p.src),decide (kL p.dst)].all id,decide (0<=p.off/\p.off<=65528/\Int.tmod p.off 8=0/\(p.mf=true->p.data.length % 8=0)),
    [decide ((o.len:Int)<=40),(Int.tmod (o.len:Int) 4==0)].all id].all id)=decide p.fine:=by
   rw[e1,e2];simp only[all_cons,all_nil,id,Bool.and_true];rw[<- alS,<- alS,<- alS,<- alS,<- alS,<- alS,<- alS,<- alS];rfl
  rw[e3];have x7:=(x5.trans fW).trans (f6.trans f7);by_cases hf:p.fine
  ·simp only[hf,acI,adt,aaf];have r8:=rW.ext (f6.trans f7);simp -zeta only[afe,afh,gJ,h_,gK,jr,r8.cell];refine cmS1 (aiX _ _ _ _ _ _ _ _ _ _ _ (show o.len<=2^60 by omega) (show d.len<=2^60 by omega) _) ?_;rintro _ w8 ⟨rfl,f8⟩;have r9:=r8.ext f8;simp -zeta only[afe,afh,gJ,h_,gK,r9.cell];rw[Α];by_cases hs:20+p.opts.length+p.data.length<=65535
   ·have:¬(20+(o.len:Int)+(d.len:Int)>65535):=by omega
    simp only[this,acR,aaf];by_cases hs2:p.off<=65535 - (p.data.length:Int)
    ·have:¬(p.off>65535 - (d.len:Int)):=by omega
     simp only[this,acR,aaf];exact⟨by simp[kZ.check,hf,kZ.short,hs,hs2],x7.trans f8⟩
    ·have:(p.off>65535 - (d.len:Int)):=by omega
     simp only[this,acI,abt];exact⟨by simp[kZ.check,hf,kZ.short,hs2],x7.trans f8⟩
   ·have:(20+(o.len:Int)+(d.len:Int)>65535):=by omega
    simp only[this,acI,abt];exact⟨by simp[kZ.check,hf,kZ.short,hs],x7.trans f8⟩
  ·simp only[hf,acR,afk,abt];exact⟨by simp[kZ.check,hf],x7⟩
 simp -zeta only[afe,afh,gJ,h_,gK,jr,r5.cell];refine⟨by omega,?_⟩
 cases hm:p.mf with
 |false=>
  simp only[afk,abt];refine gU λe w6 r6 _ _ f6=> ?_;refine cmS0 (PG (l:=[_,_,_,_]) r6 rfl 4 rfl (by simp)) ?_;rintro _ _ ⟨rfl,rfl⟩;refine hJ _ _ f6 ?_
  grind
 |true=>
  simp only[adt,aaf];refine⟨by omega,gU λe w6 r6 _ _ f6=> ?_⟩;refine cmS0 (PG (l:=[_,_,_,_]) r6 rfl 4 rfl (by simp)) ?_;rintro _ _ ⟨rfl,rfl⟩;refine hJ _ _ f6 ?_
  grind
end Go.Proofs.VN
end
section
namespace Go.Proofs.VN
open Gp Gp.V4
def ajB (p:kZ) (w w':θ) (r:gG) (e:Int):Prop:=
 e=p.check/\(p.check≠0->r=⟨none,0,0⟩)/\(p.check=0->Buf w' r (bytesV p.bytes))/\Ext w w'/\∀b,gG.at r b->w.heap.size<=b
theorem agL {w:θ} {s:gG} {l:List UInt8} (h:iH w s l) (hl:l.length<=2^46) {i k:Nat} (hk:1<=k/\k<=4) (hi:i+k<=l.length) (x y:Int):iq s x y (i:Int) (k:Int) w λr w'=>r=(num l i k:Int)/\Ext w w':=by
 apply Qx;refine gU λa w1 r1 _ _ f1=> ?_;simp only[sx,afe,r1.cell];refine cmS8 (P_ (h.ext f1) (by omega) _ _) ?_;rintro n e _ ⟨rfl,hr⟩;exact⟨adp hk hi hr,f1⟩
theorem Zw {w:θ} {s:gG} {l:List UInt8} (h:iH w s l) (hl:l.length<=2^46) {i k:Int} (hk:1<=k/\k<=4) (hi:0<=i/\i+k<=l.length) (x y:Int):iq s x y i k w λr w'=>r=(num l i.toNat k.toNat:Int)/\Ext w w':=by
 obtain⟨m,rfl⟩:∃m:Nat,k=(m:Int):=⟨k.toNat,by omega⟩;obtain⟨o,rfl⟩:∃o:Nat,i=(o:Int):=⟨i.toNat,by omega⟩;exact agL h hl (by omega) (by omega) x y
def abz (w:θ) (q:kZ) (t i o l p s d:Int) (df mf:Bool) (op da:gG):Prop:=
 t=q.tos/\i=q.id/\o=q.off/\l=q.ttl/\p=q.proto/\s=q.src/\d=q.dst/\df=q.df/\mf=q.mf/\iH w op q.opts/\iH w da q.data
def YH (w:θ) (s:gG):Prop:=∀x,s.a=some x->w.heap.size<=x.block
theorem Gv (l:List UInt8) (i:Nat):num l i 2<65536:=by
 have:=OI ((l.drop i).take 2);have h2:(256:Nat)^((l.drop i).take 2).length<=256^2:=amB (by omega) (by simp;omega);unfold num;omega
theorem abP {n k:Nat} (hn:n<2^63) (hk:k<63):(lZ .i64 (n:Int) ((2^k:Nat):Int) !=0)=(n / 2^k % 2==1):=by
 have hp:0<2^k:=Nat.pow_pos (by omega);have hp2:2^k<2^63:=Nat.pow_lt_pow_right (by omega) hk;rw[Og hn hp2,ahy]
 grind
set_option maxRecDepth 100000 in
theorem Qz {w:θ} {s:gG} {l:List UInt8} (hs:iH w s l) (hl:l.length<=2^46) (h1:20<=hlen l) (h2:hlen l<=l.length) (h3:hlen l<=num l 2 2):
  wC s (hlen l:Int) (num l 2 2:Int) w λt i o l' p s' d df mf op da w'=>abz w' (field l) t i o l' p s' d df mf op da/\YH w op/\YH w da/\Ext w w':=by
 apply LQ;refine gU λa w1 r1 e1 z1 f1=>gU λb w2 r2 e2 z2 f2=> ?_;have ra2:=r1.ext f2;have hsl:=hs.1;simp -zeta only[sx,Ci,Cs,Ct,afe,afh,ra2.cell];have hs2:=(hs.ext f1).ext f2;refine uF (agL (i:=6) (k:=2) hs2 hl (by omega) (by omega) _ _) ?_;rintro _ w3 ⟨rfl,f3⟩;have x3:=(f1.trans f2).trans f3;have ra3:=ra2.ext f3;have rb3:=r2.ext f3;have hs3:=hs2.ext f3;have h:=f3.size;intro J;have hJ:∀c W,Row W c [Β (num l 1 1:Int),Β (num l 4 2:Int),Β 0,Β (num l 8 1:Int),Β (num l 9 1:Int),Β (num l 12 4:Int),Β (num l 16 4:Int),.bool false,.bool false,.slice none 0 0,.slice none 0 0]->Ext w3 W->w3.heap.size<=c->J ⟨c,0,none⟩ W:=by
  intro c W rc hx hc;simp only[sx,J];have n6:=Gv l 6;refine iC rc rfl (by simp) λw4 r4 f4 z4=>iC r4 rfl (by simp) λw5 r5 f5 z5=>iC r5 rfl (by simp) λw6 r6 f6 z6=> ?_;have x6:Ext w3 w6:=hx.new (((f4 (·=c) rfl).trans (f5 (·=c) rfl) λ_ _ e=>e).trans (f6 (·=c) rfl) λ_ _ e=>e) λy hy e=>by omega
  have ra6:=ra3.ext x6;have hs6:=hs3.ext x6;have hsz6:=x6.size;simp only[af5,ahm] at r6;simp only[afe,afh,gJ,h_,gK,ra6.cell];refine mY hs6 (by omega) (by omega) (by omega) λs7 hs7 _=> ?_;refine cmS2 (oG hs7 (by simp;omega)) ?_;rintro o8 w8 ⟨b8,_,f8,n8⟩;have r8:=r6.ext f8;refine iC r8 rfl (by simp) λw9 r9 f9 z9=> ?_;have f89:Ext w6 w8:=f8;have x9:Ext w3 w9:=(x6.trans f8).new (f9 (·=c) rfl) λy hy e=>by omega
  have ra9:=ra3.ext x9;have hs9:=hs3.ext x9;have hsz8:=f8.size;have b9:Buf w9 o8 _:=b8.fr (f9 (·=c) rfl) λy hy e=>by
   have:=n8 y hy;have:=r6.lt;omega
  simp only[af5,ahm] at r9;simp only[afe,afh,gJ,h_,gK,ra9.cell];have u:(if (s.len:Int)<(num l 2 2:Int) then (s.len:Int) else (num l 2 2:Int))=((min (num l 2 2) l.length:Nat):Int):=by
   split<;>omega
  rw[u];refine mY hs9 (by omega) (by omega) (by omega) λs10 hs10 _=> ?_;refine cmS2 (oG hs10 (by simp;omega)) ?_;rintro d11 w11 ⟨N,_,f11,n11⟩;have U:=r9.ext f11;have hsz11:=f11.size;have hcl:=r9.lt;refine iC U rfl (by simp) λI O f12 z12=> ?_;have R:Ext w3 I:=(x9.trans f11).new (f12 (·=c) rfl) λy hy e=>by omega
  have Y:Buf I o8 _:=(b9.ext f11).fr (f12 (·=c) rfl) λy hy e=>by
   have:=n8 y hy;have:=r6.lt;omega
  have d12:Buf I d11 _:=N.fr (f12 (·=c) rfl) λy hy e=>by
   grind
  simp only[af5,ahm] at O;simp only[afe,afh,gJ,h_,gK,jr,O.cell];have rb12:=rb3.ext R;refine gZ rb12 rfl rfl λw13 Z f13 z13=> ?_;simp only[afe,afh,gJ,h_,gK,jr,Z.cell];have hb3:=rb3.lt;have e8191:lZ .i64 (num l 6 2:Int) 8191=((num l 6 2 % 8192:Nat):Int):=by
   have:=Og (a:=num l 6 2) (b:=8191) (by omega) (by omega);rw[show (8191:Nat)=2^13 - 1 by decide,JZ] at this;exact this
  have hszx:=x3.size;refine⟨⟨rfl,rfl,?_,rfl,rfl,rfl,rfl,?_,?_,?_,?_⟩,λx hx=>by have:=n8 _ (b8.at_eq hx);omega,λx hx=>by have:=n11 _ (N.at_eq hx);omega,?_⟩
  ·rw[e8191,Α];rfl
  ·exact abP (k:=14) (by omega) (by omega)
  ·exact abP (k:=13) (by omega) (by omega)
  ·refine iH.iM (Y.fr (f13 (·=b) rfl) λy hy e=> ?_)
   grind
  ·have e:(l.take (min (num l 2 2) l.length)).drop (hlen l)=(field l).data:=by
    simp only[field]
    grind
   have d13:=d12.fr (f13 (·=b) rfl) λy hy e=>by
    grind
   rw[abu,abu,e] at d13;exact iH.iM d13
  ·exact(x3.trans R).new (f13 (·=b) rfl) λy hy e=>by omega
 have ra3d:=ra3.drew;simp -zeta only[afe,afh,gJ,h_,gK,ra3d.cell];have hx:=Ext.drew w3;have l2:20<=l.length:=by omega
 clear h
 repeat' (first
  |(with_reducible refine And.intro ?_ ?_)
  |((with_reducible refine uF (Zw (hs3.ext hx) hl (by omega) (by omega) _ _) ?_);rintro _ W ⟨rfl,f⟩;replace hx:=hx.trans f;(try replace rc:=rc.ext f);(try simp -zeta only[afp,afe,afh,(ra3.ext hx).cell]))
  |((with_reducible refine gU λc W rc ec _ f=> ?_);have hc:=hx.size;rw[<- ec] at hc;clear ec;replace hx:=hx.trans f;(try simp -zeta only[afp,afe,afh,(ra3.ext hx).cell]))
  |((with_reducible refine gZ rc rfl rfl λW rc2 fc zc=> ?_);exact hJ _ W rc2 (hx.new (fc (·=_) rfl) λy hy e=>by omega) hc))
theorem byte_at {w:θ} {s:gG} {l:List UInt8} (h:iH w s l) {i:Nat} (hi:i<l.length) {K:Addr->Prop} (hK:∀a,w.cell? (a)=some (.int .u8 (l[i].toNat:Int))->(a.block<w.heap.size)->K a):iK s 1 (i:Int) K:=by
 have hsl:=h.1;obtain⟨a,ha,hc⟩:=h.at_ (adP hi);exact⟨a,ha,by omega,by omega,hK _ (by simp_all) (by rw[abu,aiC];exact cell_lt hc)⟩
theorem low4 (x:UInt8):ο.wrap ((ο.wrap (lZ .u8 (x.toNat:Int) 15)) * 4)=((x.toNat % 16 * 4:Nat):Int):=by
 have h:=x.toNat_lt;have:=ajw (b:=15) (by omega) (by omega);rw[show (15:Nat)=2^4 - 1 by decide,JZ] at this;rw[show (((2^4 - 1:Nat):Nat):Int)=15 from rfl] at this;rw[this,Α (n:=((x.toNat % 2^4:Nat):Int)) (by omega) (by omega),Α];omega
theorem SL {l:List UInt8} (h:0<l.length):hlen l=l[0].toNat % 16 * 4:=by
 unfold hlen
 simp_all
theorem ahk {l:List UInt8} (h:0<l.length):ver l=l[0].toNat / 16:=by
 unfold ver
 simp_all
theorem aiq {w:θ} {s:gG} {l:List UInt8} (hs:iH w s l) (hl:l.length<=2^46) (q:Bool):
  PX s q w λb h z e w'=>e=nO l q/\Ext w w'/\(e=0->b=s/\h=(hlen l:Int)/\z=(num l 2 2:Int)):=by
 apply acE;have hsl:=hs.1;refine gU λa w1 r1 e1 z1 f1=> ?_;by_cases c1:l.length<20
 ·have c1':((s.len:Int)<20):=by omega
  simp only[c1',acI,abt];refine gZ r1 rfl rfl λw2 r2 f2 _=> ?_;simp only[sx,afe,afh,r2.cell];exact⟨by simp[nO,c1],f1.new (f2 (·=a) rfl) λy hy e=>by omega,λh=>by cases h⟩
 have c1':¬((s.len:Int)<20):=by omega
 simp only[c1',acR,aaf];have hs1:=hs.ext f1;refine byte_at (i:=0) hs1 (by omega) λa0 hc0 hb0=> ?_;simp -zeta only[sx,hc0,low4,<- SL (show 0<l.length by omega)];refine D5 rfl rfl λb w2 r2 e2 z2 f2=> ?_;simp -zeta only[sx,afe,afh,r2.cell];refine uF (Zw (hs1.ext f2) hl (by omega) (by omega) _ _) ?_;rintro _ w3 ⟨rfl,f3⟩;refine iC (r2.ext f3) rfl (by simp) λw4 r4 f4 z4=> ?_;have hsz3:=f3.size;have x4:=(f2.trans f3).new (f4 (·=b) rfl) λy hy e=>by omega
 have x5:=f1.trans x4;have ra:=r1.ext x4;simp only[af5,ahm,show (Int.toNat 2)=2 from rfl] at r4;have hs4:=hs1.ext x4;have hlt16:hlen l<=60:=by rw[SL (show 0<l.length by omega)];omega
 have fin:∀(e:Int) W,Ext w4 W->e=nO l q->e≠0->iE [(Value.slice none 0 0),(Β 0),(Β 0)] W ⟨a,0,none⟩ 0 λI=>
   Ϗ .slice (I.cell? ⟨a,0,none⟩) λN=>Ϗ ν (I.cell? ⟨a,1,none⟩) λO=>Ϗ ν (I.cell? ⟨a,2,none⟩) λR=>(e=nO l q/\Ext w I/\(e=0->N=s/\O=(hlen l:Int)/\R=(num l 2 2:Int))):=by
  intro e W hx he U;refine gZ (ra.ext hx) rfl rfl λI J f28 _=> ?_;simp only[afe,afh,gJ,h_,gK,J.cell];exact⟨he,(x5.trans hx).new (f28 (·=a) rfl) λy hy e=>by omega,λh=>absurd h U⟩
 refine byte_at (i:=0) hs4 (by omega) λa1 hc1 _=> ?_;have ev:(jR .u8 (l[0].toNat:Int) 4 !=4)=decide (ver l≠4):=by
  rw[ahk (show 0<l.length by omega)];have:=aki (a:=l[0].toNat) (k:=4) (by omega)
  grind
 simp only[afe,afh,gJ,h_,gK,hc1,r4.cell,ev];refine⟨by omega,?_⟩;by_cases v:ver l≠4
 ·simp only[v,ne_eq,am6,acI,abt];exact fin 4 w4 (Ext.refl _) (by simp only[nO];omega) (by omega)
 simp only[v,acR,aaf];by_cases h20:hlen l<20
 ·have u:((hlen l:Int)<20):=by omega
  simp only[u,acI,abt];exact fin 4 w4 (Ext.refl _) (by simp only[nO];omega) (by omega)
 have u:¬((hlen l:Int)<20):=by omega
 have o1:nO l q=if l.length<hlen l\/(l.length<num l 2 2/\q=false) then 3 else if num l 2 2<hlen l\/32768<=num l 6 2 then 4 else 0:=by
  simp only[nO];omega
 simp only[u,acR,aaf];by_cases c3:l.length<hlen l
 ·have c3':((hlen l:Int)>(s.len:Int)):=by omega
  simp only[c3',acI,abt];exact fin 3 w4 (Ext.refl _) (by omega) (by omega)
 have c3':¬((hlen l:Int)>(s.len:Int)):=by omega
 simp only[c3',acR,aaf];by_cases c4:l.length<num l 2 2/\q=false
 ·have c4':((num l 2 2:Int)>(s.len:Int)):=by omega
  simp only[c4',acI,c4.2,afk,abt];have:=fin 3 w4 (Ext.refl _) (by simp_all) (by omega);rw[c4.2] at this;exact this
 have cont:∀X Y:Prop,(bif decide ((num l 2 2:Int)>(s.len:Int)) then (bif !q then X else Y) else Y)=Y:=by
  simp_all
 rw[acZ (by simp_all)] at o1;simp only[cont];by_cases c5:num l 2 2<hlen l
 ·have c5':((num l 2 2:Int)<(hlen l:Int)):=by omega
  simp only[c5',acI,abt];exact fin 4 w4 (Ext.refl _) (by omega) (by omega)
 have c5':¬((num l 2 2:Int)<(hlen l:Int)):=by omega
 simp only[c5',acR,aaf];refine uF (Zw hs4 hl (by omega) (by omega) _ _) ?_;rintro _ w5 ⟨rfl,f5⟩;have n6:=Gv l 6;have eb:(lZ .i64 ((num l (Int.toNat 6) (Int.toNat 2):Nat):Int) 32768 !=0)=decide (32768<=num l 6 2):=by
  have:=abP (n:=num l 6 2) (k:=15) (by omega) (by omega)
  grind
 have r5:=r4.ext f5;simp only[afe,afh,gJ,h_,gK,eb,r5.cell];by_cases c6:32768<=num l 6 2
 ·simp only[c6,acI,abt];exact fin 4 w5 f5 (by omega) (by omega)
 simp only[c6,acR,aaf];refine gZ (ra.ext f5) rfl rfl λI J f28 _=> ?_;simp only[sx,afp,afe,afh,J.cell];exact⟨by omega,(x5.trans f5).new (f28 (·=a) rfl) λy hy e=>by omega,λ_=>by trivial⟩
theorem Yp {l:List UInt8} {q:Bool} (h:nO l q=0):20<=hlen l/\hlen l<=l.length/\hlen l<=num l 2 2/\20<=l.length:=by
 unfold nO at h;omega
theorem YF (w:θ):abz w kZ.zero 0 0 0 0 0 0 0 false false ⟨none,0,0⟩ ⟨none,0,0⟩:=⟨rfl,rfl,rfl,rfl,rfl,rfl,rfl,rfl,rfl,iH.nil,iH.nil⟩
end Go.Proofs.VN
end
section
namespace Go.Proofs.VN
open Gp Gp.V4
theorem SV (a b:Int):(a==b)=decide (a=b):=rfl
theorem aeS {w:θ} {s:gG} {l:List UInt8} (hs:iH w s l) (hl:l.length<=2^40):
  IL s w λt i o l' p s' d df mf op da e w'=>e=rO l true/\abz w' (V4.read l true) t i o l' p s' d df mf op da/\Ext w w':=by
 apply Z5;have hsl:=hs.1;refine gU λa w1 r1 e1 z1 f1=> ?_;refine cmS18 (aiq (hs.ext f1) (by omega) true) ?_;rintro b h z e w2 ⟨rfl,f2,h2⟩;refine D5 rfl rfl λc w3 r3 e3 z3 f3=> ?_;have x3:=f2.trans f3;have ra:=r1.ext x3;have hsz3:=x3.size;by_cases ho:nO l true=0
 ·obtain⟨rfl,rfl,rfl⟩:=h2 ho;have hz:=Yp ho;simp only[sx,r3.cell,ho,show ((0:Int) !=0)=false from rfl];refine cmS12 (Qz ((hs.ext f1).ext x3) (by omega) hz.1 hz.2.1 hz.2.2.1) ?_;rintro _ _ _ _ _ _ _ _ _ op da w6 ⟨⟨rfl,rfl,rfl,rfl,rfl,rfl,rfl,rfl,rfl,hop,u⟩,no,nd,f6⟩;refine gZ (ra.ext f6) rfl rfl λw9 r9 f9 _=> ?_;simp only[d_,gJ,h_,gK,jr,r9.cell];have rd0:rO l true=0:=by unfold rO;rw[ho];simp
  refine⟨by rw[rd0],?_,((f1.trans x3).trans f6).new (f9 (·=a) rfl) λy hy e=>by omega⟩;unfold V4.read;rw[adZ rd0];refine⟨rfl,rfl,rfl,rfl,rfl,rfl,rfl,rfl,rfl,?_,?_⟩
  ·exact iH.fr hop (f9 (·=a) rfl) λx hx _ e=>by have:=no x hx;omega
  ·exact iH.fr u (f9 (·=a) rfl) λx hx _ e=>by have:=nd x hx;omega
 ·have ho':(nO l true !=0)=true:=by simpa using ho
  simp only[sx,ho'];refine gZ ra rfl rfl λw9 r9 f9 _=> ?_;simp only[d_,gJ,h_,gK,jr,r9.cell];have rd0:rO l true=nO l true:=by unfold rO;rw[adZ ho]
  refine⟨by rw[rd0],?_,(f1.trans x3).new (f9 (·=a) rfl) λy hy e=>by omega⟩;unfold V4.read;rw[rd0,acZ ho];exact YF _
theorem Wp {n:Nat}:IntKind.u8.wrap (n:Int)=((UInt8.ofNat n).toNat:Int):=by
 rw[IntKind.wrap_u8];simp
end Go.Proofs.VN
end
section
namespace Gp.V4
def ags (a:Int):Prop:=16777216<=a/\a<3758096384/\a / 16777216≠127
instance (a:Int):Decidable (ags a):=inferInstanceAs (Decidable (_/\_))
def ajJ (k:Int):Prop:=(3<=k/\k<=5)\/k=11\/k=12
instance (a:Int):Decidable (ajJ a):=inferInstanceAs (Decidable (_\/_))
theorem ags.right {a:Int} (h:ags a):kL a:=⟨by have:=h.1;omega,by have:=h.2.1;omega⟩
structure Ro where
 kind:Int
 code:Int
 rest:Int
 data:List UInt8
def Ro.fine (m:Ro):Prop:=jm m.kind 1/\jm m.code 1/\jm m.rest 4
instance (m:Ro):Decidable m.fine:=inferInstanceAs (Decidable (_/\_))
def Ro.check (m:Ro):Int:=if m.fine then if m.data.length<=65527 then 0 else 6 else 1
def Ro.body (m:Ro) (s:Nat):List UInt8:=kC 1 m.kind.toNat++kC 1 m.code.toNat++kC 2 s++kC 4 m.rest.toNat++m.data
def Ro.sum (m:Ro):Nat:=65535 - fold (tot (m.body 0))
def Ro.bytes (m:Ro):List UInt8:=m.body m.sum
theorem afH (m:Ro) (s:Nat):(m.body s).length=8+m.data.length:=by
 simp only[Ro.body,ahP,jf]
theorem ac4 (m:Ro) (s:Nat):m.body s=UInt8.ofNat m.kind.toNat::UInt8.ofNat m.code.toNat::UInt8.ofNat (s / 256)::UInt8.ofNat s::
  UInt8.ofNat (m.rest.toNat / 16777216)::UInt8.ofNat (m.rest.toNat / 65536)::UInt8.ofNat (m.rest.toNat / 256)::UInt8.ofNat m.rest.toNat::m.data:=by
 simp[Ro.body,kC]
theorem aan {m:Ro} (h:m.check=0):m.fine/\m.data.length<=65527:=by
 unfold Ro.check at h;split at h
 ·split at h
  ·exact⟨by assumption,by assumption⟩
  ·omega
 ·omega
def kZ.size (p:kZ):Nat:=20+p.opts.length+p.data.length
theorem Ut {l:List UInt8} (h:nO l true=0):20<=(field l).size/\(field l).size<=l.length:=by
 unfold nO at h;split at h
 ·omega
 split at h
 ·omega
 split at h
 ·omega
 split at h
 ·omega
 simp only[kZ.size,field,al2,ajH];omega
end Gp.V4
end
section
namespace Go.Proofs.VN
open Gp Gp.V4
theorem aeu {w:θ} {b:Nat} {l:List Int} {vs:List Value} (h:Row w b vs) (hv:vs=l.map λn=>Β n) (n c:Nat) (hn:n=l.length) (hl:l.length<=100) (x:Int):nY ⟨some ⟨b,0,none⟩,n,c⟩ x w λr w'=>(r>=0↔x∈l)/\w'=w:=by
 subst hv hn;apply wM;refine g_ (λst W=>W=w/\∃i:Nat,i<=l.length/\st.1=(i:Int)/\x∉l.take i) (λst _=>l.length - st.1.toNat) ⟨rfl,0,by omega,rfl,by simp⟩ ?_;rintro⟨y,⟨⟩⟩ W ⟨rfl,i,hi,rfl,hp⟩ next I
 by_cases J:i<l.length
 ·have u:((i:Int)<(l.length:Int)):=by omega
  simp only[sx,u,acI,h.cell,abu,aiC,aiK,adP J,ahF];refine⟨by omega,by trivial,?_⟩;by_cases hx:x=l[i]
  ·simp only[SV,hx,acI,abt];exact⟨⟨λ_=>akU J,λ_=>by omega⟩,by trivial⟩
  ·simp only[SV,hx,acR,aaf];rw[Α];refine I _ _ ⟨rfl,i+1,by omega,by simp,?_⟩ (by simp only;omega);rw[akx J,alj];rintro(h|h)
   ·exact hp h
   ·simp only[alk] at h;exact hx h
 ·have u:¬((i:Int)<(l.length:Int)):=by omega
  simp only[u,acR,aaf];have:i=l.length:=by omega
  subst this;rw[alo] at hp;exact⟨⟨λh=>by omega,λh=>absurd h hp⟩,by trivial⟩
theorem YX {w:θ} {b:Nat} {l:List Int} {vs:List Value} (h:Row w b vs) (hv:vs=l.map λn=>Β n) (n c:Nat) (hn:n=l.length) (hl:l.length<=100) (x:Int):jd ⟨some ⟨b,0,none⟩,n,c⟩ x w λr w'=>r=decide (x∈l)/\w'=w:=by
 apply ug;refine cmS1 (aeu h hv n c hn hl x) ?_;rintro r w' ⟨hr,hw⟩;exact⟨amJ.2 hr,hw⟩
theorem aeG {w:θ} (m:Ro) {d:gG} (hd:d.len=m.data.length):FQ m.kind m.code m.rest d w λr w'=>r=m.check/\Ext w w':=by
 apply Xd;refine gU λa w1 r1 e1 z1 f1=> ?_;intro J;have hJ:∀b,b=(!decide m.fine)->J b w1:=by
  rintro b rfl;simp only[sx,J,afe,afh,r1.cell];by_cases hf:m.fine
  ·by_cases hs:m.data.length<=65527
   ·have:¬((d.len:Int)>65527):=by omega
    simp only[hf,this,acI,acR,adt,aaf];exact⟨by simp[Ro.check,hf,hs],f1⟩
   ·have:((d.len:Int)>65527):=by omega
    simp only[hf,this,acI,adt,aaf,abt];exact⟨by simp[Ro.check,hf,hs],f1⟩
  ·simp only[hf,acR,afk,abt];exact⟨by simp[Ro.check,hf],f1⟩
 simp -zeta only[sx,afe,r1.cell];refine cmS0 (sQ _ _ _) ?_;rintro _ w2 ⟨rfl,hw⟩;subst hw;by_cases c1:jm m.kind 1
 ·simp -zeta only[c1,acI,adt,aaf,afe,afh,gJ,gK,r1.cell];refine cmS0 (sQ _ _ _) ?_;rintro _ w2 ⟨rfl,hw⟩;subst hw;by_cases c2:jm m.code 1
  ·simp -zeta only[c2,acI,adt,aaf,afe,afh,gJ,gK,r1.cell];refine cmS0 (sQ _ _ _) ?_;rintro _ w2 ⟨rfl,hw⟩;subst hw;exact hJ _ (congrArg (!·) (amJ.2 ⟨λh=>⟨c1,c2,h⟩,λh=>h.2.2⟩))
  ·simp -zeta only[c2,acR,afk,abt];exact hJ _ (by rw[adX λh:m.fine=>c2 h.2.1];rfl)
 ·simp -zeta only[c1,acR,afk,abt];exact hJ _ (by rw[adX λh:m.fine=>c1 h.1];rfl)
def aic (m:Ro) (w w':θ) (r:gG) (e:Int):Prop:=
 e=m.check/\(m.check=0->iH w' r m.bytes)/\Ext w w'/\(∀b,gG.at r b->w.heap.size<=b)/\(∀a,r.a=some a->gG.at r a.block)
theorem Yk {w:θ} (m:Ro) {d:gG} (hd:iH w d m.data):Ap m.kind m.code m.rest d w λr e w'=>aic m w w' r e:=by
 apply Xc;refine gU λa w1 r1 e1 z1 f1=> ?_;simp only[sx,afe,afh,r1.cell];refine cmS1 (aeG m (d:=d) hd.1) ?_;rintro _ w2 ⟨rfl,f2⟩;have r2:=r1.ext f2;by_cases hc:m.check=0
 ·obtain⟨⟨g1,g2,g3⟩,hs⟩:=aan hc;have g1':=QW g1;have g2':=QW g2;simp only[hc,show ((0:Int) !=0)=false from rfl,aaf,afe,afh,gJ,gK,r2.cell];refine gU λb w3 r3 e3 z3 f3=> ?_;have rr:=r2.ext f3;simp only[afe,afh,gJ,gK,rr.cell];obtain⟨t,ht⟩:∃t:Nat,m.kind=(t:Int):=⟨m.kind.toNat,by omega⟩;obtain⟨u,hu⟩:∃u:Nat,m.code=(u:Int):=⟨m.code.toNat,by omega⟩;rw[ht,hu,Wp,Wp] at r3;have b3:iH w3 ⟨some ⟨b,0,none⟩,4,4⟩ (kC 1 m.kind.toNat++kC 1 m.code.toNat++kC 2 0):=by
   refine iH.iM ?_;have:=iH.row (l:=kC 1 m.kind.toNat++kC 1 m.code.toNat++kC 2 0) (w:=w3) (b:=b) (by simpa [bytesV,kC,ht,hu] using r3);simpa [jf] using this
  refine cmS2 (Ah b3 (by simp[jf]) m.rest 4) ?_;rintro t4 w4 ⟨b4,f4,n4⟩;have e4:mP (kC 1 m.kind.toNat++kC 1 m.code.toNat++kC 2 0) m.rest 4=kC 1 m.kind.toNat++kC 1 m.code.toNat++kC 2 0++kC 4 m.rest.toNat:=by
   unfold mP;rw[adZ g3];rfl
  rw[e4] at b4;have r4:=rr.ext f4;simp only[afe,afh,gJ,h_,r4.cell];have x4:Ext w w4:=((f1.trans f2).trans f3).trans f4;refine jK b4 (hd.ext x4) (by simp[jf];omega) λt5 w5 b5 f5 n5 _=> ?_;have z3':=((f1.trans f2).trans f3).size;have z4:=x4.size;have x5:Ext w w5:=x4.new f5 λy hy h=>by have:=n4 y h;omega
  have b5:Buf w5 t5 (bytesV (m.body 0)):=b5;have l5:=afH m 0;refine gU λc w6 r6 e6 z6 f6=> ?_;refine cmS1 (UW (Fe r6 (iH.iM (b5.ext f6))) (by simp) (by intro q hq;simp only[alk] at hq;subst hq;simp only;omega)) ?_;rintro _ w7 ⟨rfl,f7⟩;rw[Px];have e8:65535 - fold (tot (m.body 0))=m.sum:=rfl;rw[e8];have hsl:m.sum<65536:=by unfold Ro.sum;omega
  have x7:=x5.trans (f6.trans f7);have z7:=x7.size;refine cmS5 (VT (iH.iM ((b5.ext f6).ext f7)) (by omega) 2 (m.sum:Int) 2) ?_;rintro s9 e9 w9 ⟨hr9,f9,n9⟩;obtain⟨rfl,b9⟩:=Td ⟨⟨by omega,by omega⟩,by omega,by simp;omega⟩ (by omega) (by omega) hr9;refine⟨hc.symm,λ_=> ?_,x7.trans f9,λy hy=>by have:=n9 y hy;omega,λa ha=>b9.at_eq ha⟩;have eb:(m.body 0).take 2++kC 2 m.sum++(m.body 0).drop 4=m.bytes:=by
   unfold Ro.bytes;rw[ac4,ac4];simp[kC]
  have:=iH.iM b9;rw[show (2:Int).toNat=2 from rfl,abu,show (2+2:Nat)=4 from rfl,eb] at this;exact this
 ·have hc':(m.check !=0)=true:=by simpa using hc
  simp only[hc',abt];exact⟨rfl,λh=>absurd h hc,f1.trans f2,(by rintro b ⟨o,h⟩;cases h),(by rintro a h;cases h)⟩
end Go.Proofs.VN
end
section
namespace Go.Proofs.AN
open Gp Gp.V4 Go.Proofs Go.Proofs.VN
open Gp.Bind (In64)
theorem ac0 {w:θ} {b:Nat} {l:List Value} {R:Prop} (h:Row w b l) (hR:R):∀(vs:List Value) (i:Nat),(∀(j:Nat) (v:Value),vs[j]? =some v->l[i+j]? =some v)->WB vs w ⟨b,0,none⟩ i R
 |[],_,_=>(iT _ _ _ _).2 hR
 |v::vs,i,hv=>(iL _ _ _ _ _ _).2 ⟨by rw[gY,ahn,h.cell];exact hv 0 v rfl,ac0 h hR vs (i+1) λj u hj=>by rw[show i+1+j=i+(j+1) by omega];simp_all⟩
theorem Ij {w:θ} {b:Nat} {l:List Value} {R:Prop} (h:Row w b l) (hR:R):WB l w ⟨b,0,none⟩ 0 R:=ac0 h hR l 0 λj v hj=>by simp_all
theorem lu {W:θ} {a:Nat} {x0 x1 x2 x3 x4 x5 x6:Int} {x7 x8:Bool} {x9 h:gG} {Q:Int->Int->Int->Int->Int->Int->Int->Bool->Bool->gG->gG->Prop} (hr:Row W a (gX x0 x1 x2 x3 x4 x5 x6 x7 x8 x9 h)) (hq:Q x0 x1 x2 x3 x4 x5 x6 x7 x8 x9 h):iG W ⟨a,0,none⟩ Q:=by
 simp only[sx,hr.cell];exact hq
theorem QC {W:θ} {a:Nat} {s0:gG} {x0 x1 x2 x3 x4 x5 x6 h:Int} {x7 x8:Bool} {x9 u:gG} {Q:gG->Int->Int->Int->Int->Int->Int->Int->Bool->Bool->gG->gG->Int->Prop} (hr:Row W a (oI s0 x0 x1 x2 x3 x4 x5 x6 x7 x8 x9 u h)) (hq:Q s0 x0 x1 x2 x3 x4 x5 x6 x7 x8 x9 u h):uN W ⟨a,0,none⟩ Q:=by
 simp only[sx,hr.cell];exact hq
theorem akb {l:List UInt8} (h:nO l false=0):nO l true=0:=by
 unfold nO at h ⊢
 grind
theorem aaX (l:List UInt8) (q:Bool):(V4.read l q).opts.length<=l.length/\(V4.read l q).data.length<=l.length:=by
 unfold V4.read;split
 ·rename_i h;have ho:nO l true=0:=by
   unfold rO at h;by_cases h0:nO l q=0
   ·cases q
    ·exact akb h0
    ·exact h0
   omega
  have:=(Ut ho).2;unfold kZ.size at this;omega
 ·simp[kZ.zero]
theorem AY (l:List UInt8) (n:Int) (k:Nat):(mP l n (k:Int)).length<=l.length+k:=by
 unfold mP;split
 ·rw[ahP,jf];simp
 ·omega
end Go.Proofs.AN
end
section
namespace Go.Proofs.AN
open Gp Gp.V4 Go.Proofs Go.Proofs.VN
section
variable {w0 w w':θ}
theorem Yx {W:θ} {a:Nat} {x0 x1 x2:Int} {x3:gG} {K:Int->Int->Int->gG->b_} (hr:Row W a [Β x0,Β x1,Β x2,Δ x3]) (hq:K x0 x1 x2 x3 W):
  Ld ν W (Addr.add ⟨a,0,none⟩ 0) λy0=>Ld ν W (Addr.add ⟨a,0,none⟩ 1) λy1=>Ld ν W (Addr.add ⟨a,0,none⟩ 2) λy2=>Ld .slice W (Addr.add ⟨a,0,none⟩ 3) λy3=>K y0 y1 y2 y3 W:=
 iF hr rfl (iF hr rfl (iF hr rfl (iF hr rfl hq)))
theorem six {W:θ} {s:gG} {l:List UInt8} (hs:iH W s l) {i:Nat} {u:UInt8} (hi:l[i]? =some u) {K:Addr->Prop} (hK:∀a,W.cell? a=some (.int .u8 u.toNat)->K a):iK s 1 (i:Int) K:=by
 obtain⟨a,ha,hc⟩:=hs.at_ hi;refine⟨a,ha,by omega,by have:=hs.1;grind,?_⟩;rw[abu,aiC];exact hK _ hc
theorem ajy {W:θ} {s:gG} {vs:List Value} (h:Buf W s vs) {ad:Addr} (ha:s.a=some ad):gG.at s ad.block:=by
 obtain⟨_,⟨hn,_⟩|⟨b,pad,hb,_⟩⟩:=h
 ·rw[hn] at ha;cases ha
 ·rw[hb] at ha;cases ha;exact⟨0,hb⟩
theorem agP (x:Int) {b:Nat} {l:List Int} (hr:Row w b (l.map λn=>Β n)) (hl:l.length<=100):FU x ⟨some ⟨b,0,none⟩,l.length,l.length⟩ w λ_ w'=>w'=w:=by
 apply aay;refine cmS0 (YX hr rfl l.length l.length rfl hl x) ?_;simp
theorem aaU (x:Int) (w:θ):Ar x w λ_ w'=>Ext w w':=by
 apply Xg;refine gU λa w1 r1 e1 z1 f1=> ?_;refine cmS0 (agP x (l:=[0,8]) r1 (by simp)) ?_;rintro r w2 rfl;exact f1
theorem aek (x:Int) (w:θ):FT x w λ_ w'=>Ext w w':=by
 apply Xe;refine gU λa w1 r1 e1 z1 f1=> ?_;refine cmS0 (agP x (l:=[3,4,5,11,12]) r1 (by simp)) ?_;rintro r w2 rfl;exact f1
theorem UE {s:gG} {l:List UInt8} (hs:iH w s l) (hl:l.length<=2^40) {K:Int->Int->Int->gG->Int->b_}
  (hK:∀k c r d e w' (m:List UInt8),Ext w w'->iH w' d m->m.length<=2^40->K k c r d e w'):Aq s w K:=by
 apply Xf;refine gU λa w1 r1 e1 z1 f1=> ?_;have hlen:=hs.1;have fin:∀(W:θ) k c r (d:gG) e (m:List UInt8),Ext w1 W->iH W d m->m.length<=2^40->(∀ad,d.a=some ad->0<m.length->¬ad.block=a)->
   iE [Β k,Β c,Β r,Δ d] W ⟨a,0,none⟩ 0 λw4=>Ld ν w4 (Addr.add ⟨a,0,none⟩ 0) λy0=>Ld ν w4 (Addr.add ⟨a,0,none⟩ 1) λy1=>Ld ν w4 (Addr.add ⟨a,0,none⟩ 2) λy2=>Ld .slice w4 (Addr.add ⟨a,0,none⟩ 3) λy3=>K y0 y1 y2 y3 e w4:=by
  intro W k c r d e m hW hd hm hn;refine StN_f (r1.ext hW) λw4 r4 f4 z4=> ?_;refine Yx r4 ?_;exact hK k c r d e w4 m ((f1.trans hW).nw f4) (hd.fr f4 λad ha h0 e=>hn ad ha h0 e) hm
 by_cases c1:(s.len:Int)<8
 ·rw[aff c1,abt];exact fin w1 0 0 0 ⟨none,0,0⟩ 3 [] (Ext.refl _) iH.nil (by simp) (by simp)
 rw[adX c1,aaf];by_cases c2:(s.len:Int)>65535
 ·rw[aff c2,abt];exact fin w1 0 0 0 ⟨none,0,0⟩ 6 [] (Ext.refl _) iH.nil (by simp) (by simp)
 rw[adX c2,aaf];refine gU λb w2 r2 e2 z2 f2=> ?_;have hs2:=(hs.ext f1).ext f2;refine cmS0 (QJ (Fe r2 hs2) (by simp) (by simp;omega)) ?_;rintro rt w3 ⟨_,f3⟩;have x3:=f2.trans f3
 cases rt
 ·exact fin w3 0 0 0 ⟨none,0,0⟩ 5 [] x3 iH.nil (by simp) (by simp)
 rw[adt,aaf];have hs3:=hs2.ext f3;refine cmS8 (P_ hs3 (by omega) 4 4) ?_;rintro n e w4 ⟨hw,_⟩;subst hw;have h:=hs3.ext (Ext.drew w4);have b0:=adP (show 0<l.length by omega);have b1:=adP (show 1<l.length by omega);generalize l[0]=u0 at b0;generalize l[1]=u1 at b1;refine six h b0 λa0 h0=> ?_;refine iO h0 ?_;refine six h b1 λa1 h1=> ?_;refine iO h1 ?_;refine mY h (by omega) (by omega) (by omega) λs' hs' _=> ?_;refine cmS2 (oG hs' (by simp;omega)) ?_;rintro cd w5 ⟨b5,_,f5,n5⟩;refine⟨kS h1 f5,kS h0 f5,?_⟩;refine fin w5 _ _ _ cd 0 _ ((x3.trans (Ext.drew w4)).trans f5) (iH.iM b5) (by simp;omega) λad ha h0' e=> ?_;have:=n5 ad.block (ajy b5 ha);have:=r1.lt;have:=x3.size;simp_all;omega
end
end Go.Proofs.AN
end
