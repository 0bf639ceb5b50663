import Derived.Test.YtnemccmcpllhcaaGreatDoorW12
import Derived.Test.YtnemccmcpllhcaaGreatDoorW6
import Derived.Test.YtnemccmcpllhcaaGreatDoorW3
import Derived.Test.YtnemccmcpllhcaaGreatDoorW2
set_option maxRecDepth 100000
set_option maxHeartbeats 2000000
section
namespace Go.Proofs.EN
open Gp Go.Proofs Go.Proofs.AN
open Gp.Bind (Bnd Slots live GoodB freeN getS In64)
open Gp.Ses (Ses)
variable {w w':θ} {a:EA} {c:Cf} {e:ES}
theorem ahG (h:nK w a c e) {id u:Int} (h0:0<=id) (h1:id<=4096) (u0:0<=u) (u1:u<=1099511627776) (hr:lJ e.l id≠none\/(e.l.length:Int)<c.ns) (ht:e.tn<2^62) {K:Int->b_}
  (hK:∀r w' ss' F',gU w w' (own a 5)->nK w' {a with ss:=ss'} c {e with l:=Bo e.l id ⟨id,max u.toNat e.wn,e.tn+1⟩,tn:=e.tn+1,F:=F'}->(∀x,WN.pK a.d a.m ss' x->WN.pK a.d a.m a.ss x\/w.heap.size<=x)->K r w'):
  rC (some ⟨a.d,0,none⟩) id u w K:=by
 refine cmS1 (WN.ag8 h.wh id u ht) ?_;rintro r w1 ⟨_,f1,ss',F',hs,hw⟩;have hE:WN.Xd e.l c.ns id u=0:=by
  unfold WN.Xd;rw[Ε (by omega),Ε ?_];rintro⟨q1,q2⟩;rcases hr with hr|hr
  ·exact hr q1
  ·omega
 rw[hE,Ζ rfl,Ζ rfl] at hw;exact hK r w1 ss' F' f1 (h.setW f1 hw hs) hs
def Qa (c:Cf) (e:ES) (pr nx:Int):Int:=if (1099511627776:Int)<(e.now:Int)+FW c pr nx then 1099511627776 else (e.now:Int)+FW c pr nx
theorem aiz (hg:Gd c e) (hm:CfM c) {pr nx:Int} (hp:pr=1\/pr=6\/pr=17):0<=Qa c e pr nx/\Qa c e pr nx<=1099511627776/\(e.now:Int)<=Qa c e pr nx/\ο.wrap ((e.now:Int)+FW c pr nx)=(e.now:Int)+FW c pr nx:=by
 obtain⟨h1,h2⟩:=ϟ hm (st:=nx) hp;have:=hg.le;refine⟨?_,?_,?_,?_⟩
 ·unfold Qa;split<;>omega
 ·unfold Qa;split<;>omega
 ·unfold Qa;split<;>omega
 ·rw[Α]
theorem Ν {ss':List fU} {n:Nat} (hs:∀x,WN.pK a.d a.m ss' x->WN.pK a.d a.m a.ss x\/n<=x):Grow a {a with ss:=ss'} n:=by
 rintro b ⟨k,hk⟩
 match k,hk with
 |0,hk=>exact .inl ⟨0,hk⟩
 |1,hk=>exact .inl ⟨1,hk⟩
 |2,hk=>exact .inl ⟨2,hk⟩
 |3,hk=>exact .inl ⟨3,hk⟩
 |4,hk=>exact .inl ⟨4,hk⟩
 |5,hk=>exact(hs b hk).imp (λh=>⟨5,h⟩) id
theorem WC {A:SN.QZ} {n:Nat} (hs:∀x,SN.fp A x->SN.fp a.T x\/n<=x):Grow a {a with T:=A} n:=by
 rintro b ⟨k,hk⟩
 match k,hk with
 |0,hk=>exact .inl ⟨0,hk⟩
 |1,hk=>exact .inl ⟨1,hk⟩
 |2,hk=>exact .inl ⟨2,hk⟩
 |3,hk=>exact .inl ⟨3,hk⟩
 |4,hk=>exact(hs b hk).imp (λh=>⟨4,h⟩) id
 |5,hk=>exact .inl ⟨5,hk⟩
theorem ac1 {A:QZ} {n:Nat} (hs:∀x,fp A x->fp a.B x\/n<=x):Grow a {a with B:=A} n:=by
 rintro b ⟨k,hk⟩
 match k,hk with
 |0,hk=>exact .inl ⟨0,hk⟩
 |1,hk=>exact .inl ⟨1,hk⟩
 |2,hk=>exact .inl ⟨2,hk⟩
 |3,hk=>exact(hs b hk).imp (λh=>⟨3,h⟩) id
 |4,hk=>exact .inl ⟨4,hk⟩
 |5,hk=>exact .inl ⟨5,hk⟩
theorem Gd.note (hg:Gd c e) (hnd:(e.l.map (·.1)).Nodup) {k:Nat} {s:Ses} {M:ByteArray->Option Int} {F:Gp.Wh.Fs} {u:Int} {t:Int} (hu:s.un=u) (u0:0<=u) (un:(e.now:Int)<=u)
  (hb:∃(j:Nat) (b:Bnd),s.bd=(j:Int)/\e.S[j]? =some (some b))
  (hk:(∃s0,e.SS[k]? =some (some s0))\/Gp.Ses.freeN e.SS=some k):
  Gd c {e with SS:=e.SS.set k (some s),M:=M,l:=Bo e.l (k:Int) ⟨(k:Int),max u.toNat e.wn,t⟩,tn:=t,F:=F}:=by
 have N:k<e.SS.length:=by
  rcases hk with ⟨s0,h0⟩|h0
  ·exact(ady.1 h0).1
  ·exact(Gp.Ses.jm 0 h0).1
 have I:∀(j:Nat) (x:Ses),(e.SS.set k (some s))[j]? =some (some x)↔(j=k/\x=s)\/(j≠k/\e.SS[j]? =some (some x)):=by
  intro j x;rw[Gp.Ses.g_ N];by_cases hj:k=j
  ·subst hj;simp[eq_comm]
  ·have:j≠k:=λh=>hj h.symm;simp[hj,this]
 refine⟨⟨hg.inv.ql,hg.inv.cn,hg.inv.gv,hg.inv.mp⟩,λj x hx=> ?_,λid x hx=> ?_,λj x hx=> ?_,?_,hg.wn,hg.le⟩
 ·rcases(I j x).1 hx with ⟨_,rfl⟩|⟨_,h2⟩
  ·exact hb
  ·exact hg.sb j x h2
 ·rw[Cc] at hx;split at hx
  ·rename_i J
   cases hx
   refine⟨k,s,J,(I k s).2 (.inl ⟨rfl,rfl⟩),?_⟩;rw[hg.wn,hu];show ((max u.toNat e.now:Nat):Int)=u;omega
  ·rename_i J;obtain⟨j,y,h1,h2,h3⟩:=hg.ts id x hx;exact⟨j,y,h1,(I j y).2 (.inr ⟨λhj=>J (by rw[h1,hj]),h2⟩),h3⟩
 ·rcases(I j x).1 hx with ⟨rfl,_⟩|⟨hj,h2⟩
  ·exact⟨_,by rw[Cc,Ζ rfl]⟩
  ·obtain⟨y,hy⟩:=hg.st j x h2;exact⟨y,by rw[Cc,Ε (by omega)];exact hy⟩
 ·rw[aa9];rcases hk with ⟨s0,h0⟩|h0
  ·obtain⟨y,hy⟩:=hg.st k s0 h0;have:(k:Int)∈e.l.map (·.1):=akp λhn=>by rw[qA.2 hn] at hy;cases hy
   rw[Ζ this,Fe 0 h0];exact hg.lc
  ·have hn:(k:Int)∉e.l.map (·.1):=qA.1 (by
    cases hl:lJ e.l (k:Int) with
    |none=>rfl
    |some y=>
     obtain⟨j,z,h1,h2,_⟩:=hg.ts _ y hl;have:j=k:=by omega
     subst this;rw[(Gp.Ses.jm 0 h0).2.1] at h2
     cases h2)
   rw[Ε hn];have h7:=(Gp.Ses.jm 0 h0).2.2.2.2.2.2 s;have h4:=(Gp.Ses.jm 0 h0).2.2.2.1;rw[h7,adH,aeW,ahP,aj0];have:=hg.lc;omega
theorem nK.ndl (h:nK w a c e):(e.l.map (·.1)).Nodup:=h.wh.wm.nd
theorem nK.sl (h:nK w a c e):e.SS.length=c.ns.toNat:=h.se.len
theorem agy (h:nK w a c e) (hg:Gd c e) (hm:CfM c) {bd sid st0 ra rp pr nx:Int} {kn:Bool} (hp:pr=1\/pr=6\/pr=17) (ht:e.tn<2^62)
  (hk:(kn=true/\∃(k:Nat) (s0:Ses),sid=(k:Int)/\e.SS[k]? =some (some s0))\/
   (kn=false/\e.M (Bind.keyS [bd,ra,rp])=none/\((Gp.Ses.live 0 e.SS).length:Int)<c.ns/\(∃(j:Nat) (b:Bnd),bd=(j:Int)/\e.S[j]? =some (some b))/\(In64 bd/\In64 ra/\In64 rp)))
  {K:b_}
  (hK:∀w' a' M F (k:Nat) (s:Ses),gU w w' (jq a)->(k:Int)<=4096->s.un=Qa c e pr nx->s.st=nx->
   ((kn=true/\sid=(k:Int)/\∃s0,e.SS[k]? =some (some s0)/\s={s0 with st:=nx,un:=Qa c e pr nx})\/(kn=false/\Gp.Ses.freeN e.SS=some k/\s=⟨bd,nx,Qa c e pr nx,ra,rp⟩))->
   nK w' a' c {e with SS:=e.SS.set k (some s),M:=M,l:=Bo e.l (k:Int) ⟨(k:Int),max (Qa c e pr nx).toNat e.wn,e.tn+1⟩,tn:=e.tn+1,F:=F}->
   Gd c {e with SS:=e.SS.set k (some s),M:=M,l:=Bo e.l (k:Int) ⟨(k:Int),max (Qa c e pr nx).toNat e.wn,e.tn+1⟩,tn:=e.tn+1,F:=F}->Grow a a' w.heap.size->a'.x=a.x->K w'):
  ni (some ⟨a.x,0,none⟩) bd true sid kn st0 ra rp pr nx w K:=by
 apply JV;refine gu λp w1 r1 e1 z1 f1=> ?_;have x1:=f1.trans (Ext.drew w1);have h1:=h.ext x1;obtain⟨u0,u1,un,uw⟩:=aiz hg hm (nx:=nx) hp;obtain⟨v0,v1⟩:=ϟ hm (st:=nx) hp;have ns1:=h.cf.s1;have hsl:=h.sl;refine kF.2 (iU (k:= .int .i64) (y:=(e.now:Int)) (by rw[gJ];exact h1.c41) (kF.2 ?_));refine ag7 hm (λj hj=>by rw[gJ,gJ];have:=h1.cC hj;simpa using this) pr nx λw2 f2=> ?_;have x2:=x1.trans f2;have h2:=h.ext x2;have r2:=(r1.drew).ext f2;have hz:w.heap.size<=p:=by omega
 refine⟨by rw[gJ];exact h2.c41,?_⟩;intro J;rw[uw];have eu:(if (1099511627776:Int)<(e.now:Int)+FW c pr nx then 1099511627776 else (e.now:Int)+FW c pr nx)=Qa c e pr nx:=rfl
 rw[eu];have hJ:∀(W:θ) (A:SN.QZ) (M:ByteArray->Option Int) (k:Nat) (s:Ses),gU w W (λb=>SN.fp a.T b)->nK W {a with T:=A} c {e with SS:=e.SS.set k (some s),M:=M}->(∀x,SN.fp A x->SN.fp a.T x\/w.heap.size<=x)->
   W.cell? ⟨p,2,none⟩=some (.int .i64 (k:Int))->s.un=Qa c e pr nx->s.st=nx->
   ((kn=true/\sid=(k:Int)/\∃s0,e.SS[k]? =some (some s0)/\s={s0 with st:=nx,un:=Qa c e pr nx})\/(kn=false/\Gp.Ses.freeN e.SS=some k/\((Gp.Ses.live 0 e.SS).length:Int)<c.ns/\s=⟨bd,nx,Qa c e pr nx,ra,rp⟩))->
   (∃(j:Nat) (b:Bnd),s.bd=(j:Int)/\e.S[j]? =some (some b))->J W:=by
  intro W A M k s hf hE hA hc Z ae u R;have aa:=hE.ext (Ext.drew W);simp only[J];refine kF.2 (iU (k:= .ptr) (y:=some ⟨a.d,0,none⟩) (by rw[gJ];exact aa.c4) (iU (k:= .int .i64) (y:=(k:Int)) (by rw[gJ];exact hc) ?_));rw[uw,eu];have hkl:k<e.SS.length:=by
   rcases u with ⟨_,_,s0,h0,_⟩|⟨_,h0,_⟩
   ·exact(ady.1 h0).1
   ·exact(Gp.Ses.jm 0 h0).1
  have hk4:(k:Int)<=4096:=by omega
  refine ahG aa (by omega) hk4 u0 u1 ?_ ht λr w3 ss' F' f3 hE3 hs3=> ?_
  ·rcases u with ⟨_,_,s0,h0,_⟩|⟨_,h0,ab,_⟩
   ·obtain⟨y,hy⟩:=hg.st k s0 h0;left;show lJ e.l (k:Int)≠none;rw[hy];simp
   ·right;have:=hg.lc;show (e.l.length:Int)<c.ns;omega
  ·have I:(∃s0,e.SS[k]? =some (some s0))\/Gp.Ses.freeN e.SS=some k:=by
    rcases u with ⟨_,_,s0,h0,_⟩|⟨_,h0,_⟩
    ·exact .inl ⟨s0,h0⟩
    ·exact .inr h0
   have af:=hg.note h.ndl (M:=M) (F:=F') (t:=e.tn+1) Z u0 un R I;refine hK w3 _ M F' k s ?_ hk4 Z ae ?_ hE3 af ?_ rfl
   ·have g1:gU w W (jq a):=hf.mono λy hy=>⟨4,hy⟩;exact(g1.ext (Ext.drew W)).trans f3 λy _ hy=>⟨5,hy⟩
   ·rcases u with ⟨q1,q2,q3⟩|⟨q1,q2,_,q3⟩
    ·exact .inl ⟨q1,q2,q3⟩
    ·exact .inr ⟨q1,q2,q3⟩
   ·have g1:Grow a {a with T:=A} w.heap.size:=WC hA;refine g1.trans (Ν (n:=W.drew.heap.size) hs3) ?_;have:=hf.size;show w.heap.size<=W.heap.size;exact this
 clear_value J;have U:∀{b:Nat},SN.fp a.T b->b≠p:=λ{b} hb he=>by have:=h.lt 4 b hb;omega
 simp only[sx,r2.cell];have h2d:=h2.ext (Ext.drew w2);have x2d:=x2.trans (Ext.drew w2);have r2d:=r2.drew;rcases hk with ⟨rfl,k,s0,rfl,hs0⟩|⟨rfl,hM,ab,R,i1,i2,i3⟩
 ·simp only[Δ,sx,h2d.c3,r2d.cell];have ag:Gp.Ses.getS e.SS (k:Int)=some s0:=Gp.Ses.nV.2 ⟨by omega,by rw[Η];exact hs0⟩;refine cmS0 (SN.ag1 h2d.se _ _ _) ?_;rintro r w3 ⟨_,f3,S',hT,hS'⟩;rw[ag] at hS';simp only[Η] at hS';subst hS';have hE3:=h2d.aip (A:=a.T) (M:=e.M) f3 hT rfl (λx hx=> .inl hx) (λx hx=>hT.lt hx);refine hJ w3 a.T e.M k _ (x2d.fr f3) hE3 (λx hx=> .inl hx) ?_ rfl rfl (.inl ⟨rfl,rfl,s0,hs0,rfl⟩) (hg.sb k s0 hs0);have r3:=r2d.fr f3 (λhb=>U hb rfl);rw[r3.cell];rfl
 ·simp only[Β,sx,h2d.c3,r2d.cell];have N:∃i,Gp.Ses.freeN e.SS=some i:=by
   cases ah:Gp.Ses.freeN e.SS with
   |some i=>exact⟨i,rfl⟩
   |none=>
    have:=Us 0 ah;omega
  obtain⟨k,ac⟩:=N;have Y:SN.vS e.SS e.M ⟨bd,nx,Qa c e pr nx,ra,rp⟩=((k:Int),0):=by
   unfold SN.vS;have:Gp.Ses.Ses.k ⟨bd,nx,Qa c e pr nx,ra,rp⟩=[bd,ra,rp]:=rfl;rw[this,hM,ac];rfl
  have ai:Gp.Ses.Ses.ok ⟨bd,nx,Qa c e pr nx,ra,rp⟩:=by
   intro n hn;simp only[Gp.Ses.Ses.k,afm,ajp,ajV] at hn;rcases hn with rfl|rfl|rfl
   ·exact i1
   ·exact i2
   ·exact i3
  refine cmS8 (SN.agX h2d.se ⟨bd,nx,Qa c e pr nx,ra,rp⟩ ai) ?_;rintro n m w3 ⟨hr,f3,A,S',M',hT,aj,O,hS'⟩;rw[Y] at hr hS';simp only[ahN,Η] at hS'
  cases hr
  subst hS';have r3:=r2d.fr f3 (λhb=>U hb rfl);refine gX r3 rfl (by simp) λw4 r4 f4 z4=> ?_;simp only[aho,agE] at r4;have ak:¬SN.fp A p:=λhc=>(O p hc).elim (λhb=>U hb rfl) λhb=>by
   have h9:p<w1.heap.size:=by omega
   have:=f2.size;have am:w2.drew.heap.size=w2.heap.size:=rfl;have an:w1.drew.heap.size=w1.heap.size:=rfl;omega
  have hT4:=hT.fr (f4 (·=p) rfl) (λb hb he=>ak (he ▸ hb));have f34:gU w2.drew w4 (λb=>SN.fp a.T b\/b=p):=(f3.mono λb hb=> .inl hb).trans ((f4 (·=p) rfl).mono λb hb=> .inr hb) λ_ _ h=>h;have hE3:=(h2d.aip f3 hT aj O (λx hx=>hT.lt hx)).fr (f4 (·=p) rfl) (λkk b hb he=>by
   subst he;rcases WC (a:=a) (n:=w2.drew.heap.size) O b ⟨kk,hb⟩ with ⟨k2,hb2⟩|hb2
   ·have:=h.lt k2 b hb2;omega
   ·have h9:b<w1.heap.size:=by omega
    have:=f2.size;have am:w2.drew.heap.size=w2.heap.size:=rfl;have an:w1.drew.heap.size=w1.heap.size:=rfl;omega)
  have ao:gU w w4 (λb=>SN.fp a.T b):=by
   have g:=x2d.fr (f34);refine⟨g.size,λb hb hn=>g.same b hb ?_,g.io⟩;rintro(hc|hc)
   ·exact hn hc
   ·omega
  refine hJ w4 A M' k _ ao hE3 (λx hx=>(O x hx).imp id λhx=> ?_) ?_ rfl rfl (.inr ⟨rfl,ac,ab,rfl⟩) R
  ·have:=x2d.size;omega
  ·rw[r4.cell];rfl
end Go.Proofs.EN
end
section
namespace Go.Proofs.EN
open Gp Go.Proofs Go.Proofs.AN
open Gp.Bind (Bnd Slots live GoodB freeN getS In64)
open Gp.Ses (Ses)
variable {w w':θ} {a:EA} {c:Cf} {e:ES}
abbrev PE (d:Int):Value:=Value.iface 102 (.int .i64 d)
def Full (c:Cf) (e:ES) (sw pr po d:Int):Prop:=(d=5/\c.q<=QN.at_ e.Q sw)\/(d=6/\(c.nb<=((live 0 e.S).length:Int)\/c.ns<=((Gp.Ses.live 0 e.SS).length:Int)))\/(d=7/\PN.CO pr po sw c.lo c.hi c.pl e.G=none)
theorem aeX (h:nK w a c e) (hg:Gd c e) (hm:CfM c) {sw pr ad po:Int} (aa:Np c sw) (hp:pr=1\/pr=6\/pr=17) (ao:0<=ad/\ad<=4294967295) (O:0<=po/\po<=65535) (aq:e.Mi (Bind.keyS [sw,pr,ad,po])=none)
  {K:Int->Value->b_}
  (hD:∀d w',Full c e sw pr po d->Ext w w'->K 0 (PE d) w')
  (hK:∀w' a' (i:Nat) (o:PN.O3) Mi Mo,gU w w' (jq a)->freeN e.S=some i->PN.CO pr po sw c.lo c.hi c.pl e.G=some o->QN.at_ e.Q sw<c.q->
   nK w' a' c {e with S:=e.S.set i (some ⟨sw,pr,ad,po,o.1,o.2.1,o.2.2,false⟩),Mi:=Mi,Mo:=Mo,Q:=e.Q.set sw.toNat (QN.at_ e.Q sw+1),G:=Bo e.G o ()}->
   Gd c {e with S:=e.S.set i (some ⟨sw,pr,ad,po,o.1,o.2.1,o.2.2,false⟩),Mi:=Mi,Mo:=Mo,Q:=e.Q.set sw.toNat (QN.at_ e.Q sw+1),G:=Bo e.G o ()}->Grow a a' w.heap.size->a'.x=a.x->
   K (i:Int) .nilIface w'):
  uV (some ⟨a.x,0,none⟩) sw pr ad po w K:=by
 apply JQ;refine gu λt w1 r1 e1 z1 f1=> ?_;have x1:=f1.trans (Ext.drew w1);have h1:=h.ext x1;have r1d:=r1.drew;simp -zeta only[sx,h1.c1,h1.c25,r1d.cell];refine cmS1 (QN.Zm h1.qr _) ?_;rintro n w2 ⟨rfl,hw⟩;subst hw;have am:QN.ZF e.Q sw:=⟨aa.1,by rw[hg.inv.ql];exact aa.2⟩;have ag:QN.Du e.Q sw=QN.at_ e.Q sw:=by unfold QN.Du;rw[Ζ am]
 refine⟨h1.c25,?_⟩;by_cases hq:QN.Du e.Q sw>=c.q
 ·simp only[hq,aaA,Δ];exact hD 5 _ (.inl ⟨rfl,by rw[<- ag];exact hq⟩) x1
 simp -zeta only[hq,aaV,Β];refine cmS0 (QK h1) ?_;rintro n w2 ⟨rfl,f2⟩;by_cases I:((live 0 e.S).length:Int)>=c.nb
 ·simp only[I,aaA,Δ];exact hD 6 w2 (.inr (.inl ⟨rfl,.inl I⟩)) (x1.trans f2)
 simp -zeta only[I,aaV,Β];have x2:=(x1.trans f2).trans (Ext.drew w2);have h2:=h.ext x2;have r2:=(r1d.ext f2).drew;have hne:∀{b:Nat},jq a b->b≠t:=λ{b} ⟨k,hb⟩ he=>by have:=h.lt k b hb;omega
 have htz:w.heap.size<=t:=by omega
 intro J;have ql:QN.at_ e.Q sw<c.q:=by rw[<- ag];omega
 have hJ0:∀(u:Nat) (W:θ) (v:Int),v≠0->PN.CO pr po sw c.lo c.hi c.pl e.G=none->Ext w W->J ⟨u,0,none⟩ v W:=by
  intro u W v hv R hx;have hv':(v !=0)=true:=by simpa using hv
  simp only[J,hv',Δ];exact hD 7 W (.inr (.inr ⟨rfl,R⟩)) hx
 have hJ1:∀(u:Nat) (W:θ) (o:PN.O3),PN.CO pr po sw c.lo c.hi c.pl e.G=some o->gU w W (λb=>b=a.g)->PN.PL W a.p a.g a.ps c.lo c.hi c.pl (Bo e.G o ())->Row W t [.int .i64 sw,.int .i64 pr,.int .i64 ad,.int .i64 po]->Row W u [.int .i64 o.1,.int .i64 o.2.1,.int .i64 o.2.2]->w.heap.size<=u->J ⟨u,0,none⟩ 0 W:=by
  intro u W o ho hf U ab ah hu;have h0:((0:Int) !=0)=false:=rfl;simp only[J,h0,Β];have hE:=(h.ail hf U).ext (Ext.drew W);have ab:=ab.drew;have ah:=ah.drew;simp only[sx,hE.c1,ab.cell];have ai:QN.Ei e.Q c.q sw=(0,e.Q.set sw.toNat (QN.at_ e.Q sw+1)):=by
   unfold QN.Ei;rw[Ζ am,Ε (by rw[<- ag];exact hq)]
  refine cmS1 (QN.N_ hE.qr hE.qo _) ?_;rintro n w7 ⟨rfl,q7,f7⟩;have q7':QN.QR w7 a.qb a.qs (e.Q.set sw.toNat (QN.at_ e.Q sw+1)) c.q:=by
   have:QN.Ei e.Q c.q sw=_:=ai;rw[show (QN.Ei ({e with G:=Bo e.G o ()}:ES).Q c.q sw)=_ from ai] at q7;exact q7
  have o7:QN.QOk (e.Q.set sw.toNat (QN.at_ e.Q sw+1)) c.q:=by
   have:=QN.ϔ h.qo sw;rw[ai] at this;exact this
  have h7:=(hE.aio f7 q7' o7).ext (Ext.drew w7);have nq:a.qs≠t/\a.qs≠u:=by have:=h.lt 2 a.qs (.inr rfl);omega
  have rt7:=(ab.fr f7 (λhe=>nq.1 he.symm)).drew;have ru7:=(ah.fr f7 (λhe=>nq.2 he.symm)).drew;simp only[sx,h7.c2,rt7.cell,ru7.cell];obtain⟨o1,o2,o3,o4⟩:=PN.aa5 ho;have ar:aeU c ⟨sw,pr,ad,po,o.1,o.2.1,o.2.2,false⟩:=⟨hp,ao,o2,O,⟨by have:=hm.l1;show 0<=o.2.2;omega,by have:=hm.h1;show o.2.2<=65535;omega⟩,o1.symm,aa⟩;have bok:Bnd.ok ⟨sw,pr,ad,po,o.1,o.2.1,o.2.2,false⟩:=by
   have hh:=h.cf.hp _ o2;have hl:=h.cf.sw;obtain⟨s0,s1⟩:=aa;have g1:=hm.l1;have g2:=hm.h1;constructor
   ·intro n hn;simp only[Bnd.i,afm,ajp,ajV] at hn;unfold In64;rcases hn with rfl|rfl|rfl|rfl<;>omega
   ·intro n hn;simp only[Bnd.o,afm,ajp,ajV] at hn;unfold In64;have hh1:=hh.1;have hh2:=hh.2.1;rcases hn with rfl|rfl|rfl<;>omega
  have au:e.Mo (Bind.keyS [o.1,o.2.1,o.2.2])=none:=by
   cases av:e.Mo (Bind.keyS [o.1,o.2.1,o.2.2]) with
   |none=>rfl
   |some v=>
    obtain⟨j,b,hb,hk,_⟩:=(h.db.good.o _ _).1 av;exfalso;apply o4;refine(hg.inv.gv o).2 ⟨j,b,hb,?_⟩;have hb2:=(h.db.good.ok j b hb).2;have:=Gp.Bind.keyS_inj (by simp[Bnd.o]) hb2 bok.2 hk;simp only[Bnd.o,akF,akD] at this;rw[this.1,this.2.1,this.2.2]
  have Y:∃i,freeN e.S=some i:=by
   cases aw:freeN e.S with
   |some i=>exact⟨i,rfl⟩
   |none=>
    have h10:=Le 0 aw;have h11:=h.db.len;have:=h.cf.b1;omega
  obtain⟨i,ac⟩:=Y;have Z:vS e.S e.Mi e.Mo ⟨sw,pr,ad,po,o.1,o.2.1,o.2.2,false⟩=((i:Int),0):=by
   unfold vS;have k1:e.Mi (Bind.keyS (Bnd.i ⟨sw,pr,ad,po,o.1,o.2.1,o.2.2,false⟩))=none:=aq;have k2:e.Mo (Bind.keyS (Bnd.o ⟨sw,pr,ad,po,o.1,o.2.1,o.2.2,false⟩))=none:=au;rw[k1,k2,ac];rfl
  refine cmS8 (abp h7.db ⟨sw,pr,ad,po,o.1,o.2.1,o.2.2,false⟩ bok (h7.lt 3)) ?_;rintro n m w9 ⟨hr,f9,A,S',Mi',Mo',d9,ax,an,aj,hS'⟩;have ha9:vS ({e with Q:=e.Q.set sw.toNat (QN.at_ e.Q sw+1),G:=Bo e.G o ()}:ES).S ({e with Q:=e.Q.set sw.toNat (QN.at_ e.Q sw+1),G:=Bo e.G o ()}:ES).Mi ({e with Q:=e.Q.set sw.toNat (QN.at_ e.Q sw+1),G:=Bo e.G o ()}:ES).Mo ⟨sw,pr,ad,po,o.1,o.2.1,o.2.2,false⟩=((i:Int),0):=Z;rw[ha9] at hr hS';simp only[ahN,Η] at hS'
  cases hr
  subst hS';have h9:=h7.setB f9 d9 ax (λx hx=>an x hx) aj;have hz7:=f7.size;have hzW:=hf.size;have hxz:w.heap.size<=w7.drew.heap.size:=by
   have q1:w7.drew.heap.size=w7.heap.size:=rfl;have q2:W.drew.heap.size=W.heap.size:=rfl;omega
  refine hK w9 _ i o Mi' Mo' ?_ ac ho ql h9 ?_ (ac1 λx hx=>(an x hx).imp id λhx=>by omega) rfl
  ·have g1:gU w W (jq a):=hf.mono λy hy=>⟨1,.inr (.inl hy)⟩;have g2:gU w w7 (jq a):=(g1.ext (Ext.drew _)).trans f7 λy _ hy=>⟨2,.inr hy⟩;exact(g2.ext (Ext.drew _)).trans f9 λy _ hy=>⟨3,hy⟩
  ·have ak:=hg.inv.add ac ar Mi' Mo';refine⟨ak,λk s hs=> ?_,hg.ts,hg.st,hg.lc,hg.wn,hg.le⟩;obtain⟨j,b,hj1,hj2⟩:=hg.sb k s hs;refine⟨j,b,hj1,?_⟩;show (e.S.set i _)[j]? =_;rw[ajo];have:¬i=j:=λhc=>by
    rw[<- hc,(Gp.Bind.jm 0 ac).2.1] at hj2;cases hj2
   rw[Ε this];exact hj2
 clear_value J;simp only[sx,h2.c0,r2.cell];have hl1:=hm.l1;have hlh:=hm.lh;have hh1:=hm.h1;have ip1:PO.vN c.lo:=⟨by omega,by omega⟩;have ip2:PO.vN c.hi:=⟨by omega,by omega⟩;refine⟨?_,?_⟩
 ·refine cmS10 (PN.N_ h2.pl hp ip1 ip2 O.1 O.2 hm.p1 (f:=sw)) ?_;rintro x y z v w5 ⟨f5,N⟩;refine gu λu w6 r6 e6 z6 f6=> ?_;have ay:a.g<w.heap.size:=h.lt 1 a.g (.inr (.inl rfl));have ae:=(r2.fr f5 (λhe=>by omega)).ext f6;have hE0:w6.cell? ⟨a.x,0,none⟩=some (.pointer (some ⟨a.p,0,none⟩)):=by
   have:=E5 (S:=(·=a.g)) h2.c0 f5 (λhe=>by have:=h.off (j:=1) (k:=0) (b:=a.x) rfl (by decide);exact this (.inr (.inl he)));exact og this f6
  have hz:=x2.size;have hz5:=f5.size;have az:=r2.lt;refine⟨by rw[ae.cell];rfl,by rw[ae.cell];rfl,by rw[ae.cell];rfl,hE0,?_⟩;refine gZ r6 rfl rfl λw8 r8 f8 z8=> ?_;have f68:gU w6 w8 (·=u):=f8 (·=u) rfl;rcases N with ⟨o,ho,rfl,rfl,rfl,rfl,U⟩|⟨R,rfl,hx⟩
  ·refine hJ1 u w8 o ho ((x2.fr (f5.ext f6)).trans f68 λy hy he=>by omega) ?_ (ae.fr f68 (by omega)) r8 (by omega);exact(U.ext f6).fr f68 λb hb he=>by
    have:jq a b:=⟨1,hb⟩;obtain⟨k,hk⟩:=this;have:=h.lt k b hk;omega
  ·exact hJ0 u w8 12 (by decide) R (((x2.trans hx).trans f6).nw f68)
 ·refine gu λu w6 r6 e6 z6 f6=> ?_;have h6:=h2.ext f6;have af:=r2.ext f6;have ay:a.g<w.heap.size:=h.lt 1 a.g (.inr (.inl rfl));have hz:=x2.size;have az:=r2.lt;refine⟨by rw[af.cell];rfl,by rw[af.cell];rfl,by rw[af.cell];rfl,h6.c0,?_⟩;refine cmS10 (PN.N_ h6.pl hp ip1 ip2 O.1 O.2 hm.p1 (f:=sw)) ?_;rintro x y z v w7 ⟨f7,N⟩;have aA:=r6.fr f7 (λhe=>by omega);refine gZ aA rfl rfl λw8 r8 f8 z8=> ?_;have f78:gU w7 w8 (·=u):=f8 (·=u) rfl;have aB:=(af.fr f7 (λhe=>by omega)).fr f78 (by omega);have x6:=x2.trans f6;rcases N with ⟨o,ho,rfl,rfl,rfl,rfl,U⟩|⟨R,rfl,hx⟩
  ·refine hJ1 u w8 o ho ((x6.fr f7).trans f78 λy hy he=>by omega) ?_ aB r8 (by omega);exact U.fr f78 λb hb he=>by
    have:jq a b:=⟨1,hb⟩;obtain⟨k,hk⟩:=this;have:=h.lt k b hk;omega
  ·exact hJ0 u w8 12 (by decide) R ((x6.trans hx).nw f78)
end Go.Proofs.EN
end
section
namespace Gp.V4
theorem Ns (l:List UInt8):nN l<256^l.length:=by
 induction l with
 |nil=>simp[nN]
 |cons b l ih=>
  rw[Tc,aeW,Nat.pow_succ];have:=b.toNat_lt;have h2:b.toNat * 256^l.length<=255 * 256^l.length:=akA _ (by omega);omega
theorem Uz:∀l:List UInt8,tot l<=65535 * l.length
 |[]=>by simp[tot]
 |[a]=>by have:=a.toNat_lt;simp[tot];omega
 |a::b::r=>by
  have:=a.toNat_lt;have:=b.toNat_lt;have:=Uz r;simp only[tot,aeW];omega
theorem Uy:∀(l m:List UInt8),l.length % 2=0->tot (l++m)=tot l+tot m
 |[],m,_=>by simp[tot]
 |[a],m,h=>by simp at h
 |a::b::r,m,h=>by
  simp only[akv,tot];rw[Uy r m (by simp at h;omega)];omega
theorem Nc (n:Nat):fold n<65536:=by unfold fold;split<;>omega
theorem Sr {n:Nat} (h:n<65536):fold n=n:=by unfold fold;split<;>omega
theorem V_ {n:Nat} (h:65535<n):fold (n % 65536+n / 65536)=fold n:=by
 unfold fold;rw[Ε (by omega),Ε (by omega)];omega
instance (k:Int):Decidable (kP k):=inferInstanceAs (Decidable (_/\_))
instance (n k:Int):Decidable (iZ n k):=inferInstanceAs (Decidable (_/\_))
instance (n:Int):Decidable (kG n):=inferInstanceAs (Decidable (_/\_))
instance (p:kZ):Decidable p.fine:=inferInstanceAs (Decidable (_/\_))
instance (p:kZ):Decidable p.short:=inferInstanceAs (Decidable (_/\_))
def kZ.check (p:kZ):Int:=if p.fine then if p.short then 0 else 6 else 1
theorem Nj (p:kZ) (s:Nat):(p.head s).length=20+p.opts.length:=by
 simp only[kZ.head,adH,iQ]
def ver (b:List UInt8):Nat:=((b[0]?).getD 0).toNat / 16
def mF (b:List UInt8) (quoted:Bool):Int:=
 if b.length<20 then 3
 else if ver b≠4\/hlen b<20 then 4
 else if b.length<hlen b\/(b.length<num b 2 2/\quoted=false) then 3
 else if num b 2 2<hlen b\/32768<=num b 6 2 then 4
 else 0
def qL (b:List UInt8) (quoted:Bool):Int:=
 if mF b quoted≠0 then mF b quoted
 else if quoted then 0
 else if fold (tot (b.take (hlen b)))≠65535 then 5
 else if (field b).check≠0 then 4
 else 0
def read (b:List UInt8) (quoted:Bool):kZ:=if qL b quoted=0 then field b else kZ.zero
theorem oH {p:kZ} (h:p.check=0):p.fine/\p.short:=by
 unfold kZ.check at h;split at h
 ·split at h
  ·exact⟨by assumption,by assumption⟩
  ·omega
 ·omega
theorem PK {n:Int} (h:iZ n 1):0<=n/\n<256:=⟨h.2.1,by have:=h.2.2;simpa using this⟩
theorem head_eq (p:kZ) (s:Nat):p.head s=UInt8.ofNat (64+(20+p.opts.length) / 4)::UInt8.ofNat p.tos.toNat::UInt8.ofNat ((20+p.opts.length+p.data.length) / 256)::UInt8.ofNat (20+p.opts.length+p.data.length)::
  UInt8.ofNat (p.id.toNat / 256)::UInt8.ofNat p.id.toNat::UInt8.ofNat (p.bits / 256)::UInt8.ofNat p.bits::UInt8.ofNat p.ttl.toNat::UInt8.ofNat p.proto.toNat::UInt8.ofNat (s / 256)::UInt8.ofNat s::
  UInt8.ofNat (p.src.toNat / 16777216)::UInt8.ofNat (p.src.toNat / 65536)::UInt8.ofNat (p.src.toNat / 256)::UInt8.ofNat p.src.toNat::
  UInt8.ofNat (p.dst.toNat / 16777216)::UInt8.ofNat (p.dst.toNat / 65536)::UInt8.ofNat (p.dst.toNat / 256)::UInt8.ofNat p.dst.toNat::p.opts:=by
 simp[kZ.head,jX]
theorem abh {p:kZ} (h:p.fine):p.bits<32768:=by
 obtain⟨_,_,⟨h1,h2,h3,_⟩,_⟩:=h;unfold kZ.bits;split<;>split<;>omega
end Gp.V4
end
section
namespace Go.Proofs.VN
open Gp Gp.V4
theorem WV {w:θ} {s:fU} {l:List UInt8} (h:h_ w s l) (hl:l.length<=2^62) (at_ k:Int):BL s at_ k w λr e w'=>w'=w/\
  if ¬kP k\/at_<0 then e=1/\r=⟨none,0,0⟩ else if (l.length:Int)<at_+k then e=3/\r=⟨none,0,0⟩ else e=0/\h_ w r ((l.drop at_.toNat).take k.toNat)/\∀a,s.a=some a->r.a=some (a.add at_.toNat):=by
 apply X_;have hlen:=h.1;refine cmS0 (yI k w) ?_;rintro r w1 ⟨rfl,rfl⟩;by_cases hk:kP k
 ·have hk1:=hk.1;have hk2:=hk.2;by_cases ha:at_<0
  ·simp only[hk,ha,aaA,ab6,Δ,Β];exact⟨by trivial,by simp⟩
  ·have hno:¬(¬kP k\/at_<0):=by rintro(h|h)<;>contradiction
   simp only[hk,ha,aaA,aaV,ab6,Β,not_true_eq_false,or_self,aiC];by_cases h1:((s.len:Int)<k)
   ·simp only[h1,aaA,Δ];exact⟨by trivial,by rw[Ζ (by omega)];exact⟨by trivial,by trivial⟩⟩
   ·simp only[h1,aaV,Β];rw[Α (n:=(s.len:Int) - k) (by omega) (by omega)];by_cases h2:at_>(s.len:Int) - k
    ·simp only[h2,aaA,Δ];exact⟨by trivial,by rw[Ζ (by omega)];exact⟨by trivial,by trivial⟩⟩
    ·simp only[h2,aaV,Β];rw[Α (n:=at_+k) (by omega) (by omega)];have hcap:=h.2.2;refine⟨by omega,by omega,by omega,by omega,by trivial,?_⟩;rw[Ε (by omega)];have hc:=h.cut (lo:=at_.toNat) (hi:=(at_+k).toNat) (by omega) (by omega) (at_+k).toNat (aiq _) (at_+k).toNat (λe=>by omega);rw[List.drop_take,show (at_+k).toNat - at_.toNat=k.toNat by omega] at hc;refine⟨by trivial,?_,λa u=> ?_⟩
     ·rw[show (at_+k).toNat - at_.toNat=k.toNat by omega];exact hc
     ·have I:¬((at_+k).toNat=at_.toNat):=by omega
      simp only[qM,I,aiC,u,aik,ahy]
 ·simp only[hk,aaV,aek,Δ];exact⟨by trivial,by simp⟩
theorem Λ {n x:Nat} (hn:n<2^40) (hx:x<256):orI .i64 (Ky .i64 (n:Int) 8) (x:Int)=((n * 256+x:Nat):Int):=by
 have e0:Ky .i64 (n:Int) 8=((n * 256:Nat):Int):=by
  unfold Ky;have:(2:Int)^(min (8:Int).toNat (IntKind.bits .i64))=256:=by decide
  rw[this,Α];omega
 rw[e0];unfold orI;have eb:IntKind.bits .i64=64:=rfl;have h1:(BitVec.ofInt (IntKind.bits .i64) ((n * 256:Nat):Int)).toNat=n * 256:=by
  rw[eb,aj1];omega
 have h2:(BitVec.ofInt (IntKind.bits .i64) (x:Int)).toNat=x:=by
  rw[eb,aj1];omega
 rw[BitVec.toNat_or,h1,h2];have h3:n * 256|||x=n * 256+x:=by
  have:=Nat.two_pow_add_eq_or_of_lt (i:=8) (b:=x) (by omega) n;rw[show (2:Nat)^8=256 by decide] at this;rw[Nat.mul_comm n 256,this]
 rw[h3,Α]
theorem Td {l:List UInt8} (h:l.length<=4):nN l<2^32:=by
 have h1:=Ns l;have:(256:Nat)^l.length<=256^4:=akO (by omega) h;have e:(256:Nat)^4=4294967296:=by decide
 omega
theorem Tf (l:List UInt8) {i:Nat} (h:i<l.length):nN (l.take (i+1))=nN (l.take i) * 256+l[i].toNat:=by
 unfold nN;rw[ajM h,List.foldl_append];rfl
def Lh (l:List UInt8) (at_ k:Int) (n e:Int):Prop:=
 if ¬kP k\/at_<0 then e=1/\n=0 else if (l.length:Int)<at_+k then e=3/\n=0 else e=0/\n=(num l at_.toNat k.toNat:Int)
theorem OC {w:θ} {s:fU} {l:List UInt8} (h:h_ w s l) (hl:l.length<=2^62) (at_ k:Int):yw s at_ k w λn e w'=>w'=w/\Lh l at_ k n e:=by
 apply acV;refine cmS7 (WV h hl at_ k) ?_;rintro r e w1 ⟨rfl,hr⟩;have main:∀(m:List UInt8),h_ w1 r m->m.length<=4->∀(K:Int->Prop),K (nN m:Int)->iH (S:=Int×Int×Unit) (λs7 w8 next9=>
   (bif (decide (s7.2.1<(r.len:Int))) then
    iF r 1 s7.2.1 λN=>Ld (.int .u8) w8 N λO=>0<=(8:Int)/\next9 ((orI .i64 (Ky .i64 s7.1 8) (ο.wrap O)),(ο.wrap (s7.2.1+1)),()) w8
   else (w8=w1/\K s7.1))) (0,0,()) w1:=by
  intro m hm hm4 K hK;have hml:=hm.1;refine gK (λst W=>W=w1/\∃i:Nat,i<=m.length/\st.2.1=i/\st.1=(nN (m.take i):Int)) (λst _=>m.length - st.2.1.toNat) ⟨rfl,0,by omega,rfl,rfl⟩ ?_;rintro⟨n,j,⟨⟩⟩ W ⟨rfl,i,hi,rfl,rfl⟩ next I
  by_cases J:i<m.length
  ·have u:((i:Int)<(r.len:Int)):=by omega
   simp only[u,aaA,Δ];obtain⟨a,ha,hc⟩:=hm.at_ (abe J);refine⟨a,ha,by omega,by omega,?_⟩;simp only[sx,Η,ahy,hc];refine⟨by omega,?_⟩;have hb:=m[i].toNat_lt;have hn2:nN (m.take i)<2^32:=Td (by simp;omega);rw[Α (n:=((m[i].toNat:Nat):Int)) (by omega) (by omega),Λ (by omega) (by omega),Α];refine I _ _ ⟨rfl,i+1,by omega,by simp,?_⟩ (by simp only;omega);simp only[Tf _ J]
  ·have u:¬((i:Int)<(r.len:Int)):=by omega
   simp only[u,aaV,Β];have:i=m.length:=by omega
   subst this;rw[ajU];exact⟨trivial,hK⟩
 by_cases c1:¬kP k\/at_<0
 ·rw[Ζ c1] at hr;obtain⟨rfl,rfl⟩:=hr;exact main [] h_.nil (by simp) (λn=>Lh l at_ k n 1) (by unfold Lh;rw[Ζ c1];exact⟨rfl,rfl⟩)
 ·rw[Ε c1] at hr;by_cases c2:(l.length:Int)<at_+k
  ·rw[Ζ c2] at hr;obtain⟨rfl,rfl⟩:=hr;exact main [] h_.nil (by simp) (λn=>Lh l at_ k n 3) (by unfold Lh;rw[Ε c1,Ζ c2];exact⟨rfl,rfl⟩)
  ·rw[Ε c2] at hr;obtain⟨rfl,hr,_⟩:=hr;refine main _ hr ?_ (λn=>Lh l at_ k n 0) (by unfold Lh;rw[Ε c1,Ε c2];exact⟨rfl,rfl⟩);have hk:kP k:=akp λh=>c1 (.inl h);have:=hk.2;simp;omega
theorem abz {l:List UInt8} {at_ k:Nat} {n e:Int} (hk:1<=k/\k<=4) (h:at_+k<=l.length) (hr:Lh l at_ k n e):n=(num l at_ k:Int):=by
 unfold Lh at hr;rw[Ε (by unfold kP;omega),Ε (by omega)] at hr;simpa using hr.2
theorem Ep {w0 w:θ} {s:fU} {v:Value} {l m:List UInt8} (hs:Buf w s (bytesV l)) (hv:QD w0 w v m) (hd:∀b,fU.at s b->¬(w0.heap.size<=b/\b<w.heap.size)) (hl:l.length+m.length<=2^46):
  jr s v w λr w'=>Buf w' r (bytesV (l++m))/\gU w w' (fU.at s)/\(∀b,fU.at r b->fU.at s b\/w.heap.size<=b)/\(r.a=none->l++m=[]/\s.a=none):=by
 obtain⟨C,hi,hC⟩:=hv;apply pU;refine⟨rfl,gu λa w1 r1 e1 z1 f1=> ?_⟩;have hlen:(yB m).length=m.length:=by simp[yB]
 have u:∀b,fU.at s b->b<w.heap.size:=λb hb=>hs.lt hb;refine Bh hi (λi W=>∃t:fU,Row W a [.slice t.a t.len t.cap]/\Buf W t (bytesV (l++m.take i))/\gU w W (fU.at s)/\(∀b,fU.at t b->fU.at s b\/(w.heap.size<=b/\b≠a/\b≠nG none w1/\b≠w1.heap.size))/\(t.a=none->l++m.take i=[]/\s.a=none)/\nG none w1<W.heap.size)
  (λ_ _=>False) (by simp) ?_ ?_ ?_ (by intro e W W' h;exact h.elim) (by intro e W h;exact h.elim) ?_ ?_ (by intro W h;exact h.elim) (by intro id W h;exact h.elim)
 ·intro w2 f2 z2;refine⟨s,r1.ext f2,by simpa using (hs.ext f1).ext f2,(f1.trans f2) _,λb hb=> .inl hb,?_,by omega⟩;simp only[List.take_zero,ali];intro ha;obtain⟨_,⟨_,h2,_⟩|⟨c,pad,h2,_⟩⟩:=hs
  ·exact⟨by simpa [bytesV] using h2,ha⟩
  ·rw[ha] at h2;cases h2
 ·rintro i W ⟨t,_,_,hf,_⟩;exact hC W _ hf λb h1 h2 h3=>hd b h3 ⟨h1,h2⟩
 ·rintro i W W' ⟨t,h1,h2,h3,h4,h5,h6⟩ hf;have J:nG none w1=w1.heap.size+1:=rfl;refine⟨t,h1.fr hf (by omega),h2.fr hf λb hb e=> ?_,h3.trans hf (λb hb e=>by omega),h4,h5,by have:=hf.size;omega⟩;rcases h4 b hb with h|h
  ·have:=u b h;omega
  ·omega
 ·intro i x W Kb hx ⟨t,h1,h2,h3,h4,h5,h6⟩ hlt I _;refine⟨rfl,?_⟩;have J:nG none w1=w1.heap.size+1:=rfl;rw[abb] at hx
  cases hb:m[i]? with
  |none=>rw[hb] at hx;simp at hx
  |some y=>
  rw[hb] at hx;simp only[aik,afM] at hx;subst hx;have fb:=gU.gG W (nG none w1);have h1':=h1.fr fb (by omega);have h2':Buf (gG W (nG none w1)) t (bytesV (l++m.take i)):=h2.fr fb λb hb e=>by
   rcases h4 b hb with h|h
   ·have:=u b h;omega
   ·omega
  simp only[sx,abY,h1'.cell];have N:i<m.length:=(ady.1 hb).1;refine gu λc w3 r3 e3 z3 f3=> ?_;have hz3:w3.heap.size=W.heap.size+1:=by rw[z3,e3];simp[gG]
  have hx3:h_ w3 ⟨some ⟨c,0,none⟩,1,1⟩ [y]:= .iG (h_.row (l:=[y]) (by simpa [bytesV] using r3));have h2'':=h2'.ext f3;refine ji h2'' hx3 (by simp;omega) λs' w4 b4 f4 p4 n4=> ?_;have O:¬fU.at t a:=λh=>by
   rcases h4 a h with h|h
   ·have:=u a h;omega
   ·exact h.2.1 rfl
  have h1'':=(h1'.ext f3).fr f4 O;refine gX h1'' rfl (by simp) λw5 r5 f5 z5=> ?_;simp only[agE] at r5;have hbz:(gG W (nG none w1)).heap.size=W.heap.size:=by simp[gG]
  have R:∀b,fU.at s' b->b≠a:=λb hb e=>by
   rcases p4 b hb with h|h
   ·exact O (e ▸ h)
   ·have:=h1.lt;omega
  refine I w5 (λb=>fU.at t b\/b=a) ?_ ?_ ⟨s',r5,?_,?_,?_,?_,?_⟩
  ·exact((f3 _).trans (f4.mono λb h=> .inl h) λ_ _ e=>e).trans (f5 (λb=>fU.at t b\/b=a) (.inr rfl)) λ_ _ e=>e
  ·rintro b hb1 hb2 (h|h)
   ·rcases h4 b h with h|h
    ·have:=u b h;omega
    ·rcases akM b (nG none w1) with hx|hx<;>omega
   ·omega
  ·have e:l++m.take (i+1)=l++m.take i++[y]:=by
    rw[ajM N];have:m[i]=y:=by rw[abe N] at hb;simpa using hb
    simp[this]
   rw[e];exact b4.fr (f5 (·=a) rfl) λb hb e=>R b hb e
  ·refine((h3.trans fb λb hb e=>by omega).ext f3).trans (S':=λb=>fU.at t b\/b=a) ((f4.mono λb h=> .inl h).trans (f5 (λb=>fU.at t b\/b=a) (.inr rfl)) λ_ _ e=>e) ?_;rintro b hb (h|h)
   ·rcases h4 b h with h|h
    ·exact h
    ·omega
   ·omega
  ·intro b hb;rcases p4 b hb with h|h
   ·exact h4 b h
   ·refine .inr ⟨by have:=h3.size;omega,R b hb,?_,?_⟩<;>omega
  ·intro ha;obtain⟨h1,h2⟩:=n4 ha;simp at h1
  ·have:=f4.size;omega
 ·rintro W ⟨t,h1,h2,h3,h4,h5,h6⟩ hm;have J:nG none w1=w1.heap.size+1:=rfl;simp only[sx,abY,h1.cell];rw[hlen,ajU] at h2 h5;refine⟨hm rfl,?_,?_,?_,h5⟩
  ·exact h2.fr (gU.pJ _ _ _) λb hb e=>by
    rcases h4 b hb with h|h
    ·have:=u b h;omega
    ·omega
  ·exact h3.trans (gU.pJ _ _ _) λb hb e=>by omega
  ·intro b hb;rcases h4 b hb with h|h
   ·exact .inl h
   ·exact .inr h.1
end Go.Proofs.VN
end
section
namespace Go.Proofs.VN
open Gp Gp.V4
theorem aad {w0 w:θ} {v:Value} {m:List UInt8} (hv:QD w0 w v m) (hl:m.length<=2^46):
  qR v w λr w'=>Buf w' r (bytesV m)/\Ext w w'/\(∀b,fU.at r b->w.heap.size<=b):=by
 apply FH;refine cmS2 (Ep (l:=[]) Buf.nil hv (by rintro b ⟨o,h⟩;cases h) (by simpa using hl)) ?_;rintro r w1 ⟨h1,f1,h2,_⟩;refine⟨by simpa using h1,f1.new ?_,λb hb=> ?_⟩
 ·rintro b _ ⟨o,h⟩;cases h
 ·rcases h2 b hb with ⟨o,h⟩|h
  ·cases h
  ·exact h
theorem set_mid {α:Type} (A:List α) (ys:List α) (R:List α) {i:Nat} {y:α} (hi:ys[i]? =some y) (hR:0<R.length):
  (A++ys.take i++R).set (A.length+i) y=A++ys.take (i+1)++R.drop 1:=by
 have h:=(ady.1 hi).1;have e:(A++ys.take i).length=A.length+i:=by simp;omega
 rw[akH _ _ (by omega),e,Nat.sub_self]
 cases R with
 |nil=>simp at hR
 |cons r R=>
  simp only[agE,List.drop_succ_cons,alg];rw[ajM h];have:ys[i]=y:=by rw[abe h] at hi;simpa using hi
  simp[this]
structure aja (l:List UInt8) (at_ n k:Int) (w:θ) (r:fU) (e:Int):Prop where
 out:if ¬iZ n k\/at_<0 then e=1/\r=⟨none,0,0⟩ else if (l.length:Int)<at_+k then e=3/\r=⟨none,0,0⟩ else e=0/\Buf w r (bytesV (l.take at_.toNat++jX k.toNat n.toNat++l.drop (at_.toNat+k.toNat)))
theorem Ur {w:θ} {s:fU} {l:List UInt8} (hs:h_ w s l) (hl:l.length<=2^46) (at_ n k:Int):
  yx s at_ n k w λr e w'=>aja l at_ n k w' r e/\Ext w w'/\(∀b,fU.at r b->w.heap.size<=b):=by
 apply acX;refine cmS0 (rE n k w) ?_;rintro _ _ ⟨rfl,rfl⟩;by_cases hf:iZ n k
 ·simp only[hf,aaA,ab6,Β];refine cmS2 (nD hs (by omega)) ?_;rintro r w1 ⟨b1,_,f1,n1⟩;have hk:=hf.1;refine cmS7 (WV (h_.iG b1) (by omega) at_ k) ?_;rintro r2 e w2 ⟨rfl,hr⟩;by_cases c1:at_<0
  ·rw[Ζ (.inr c1)] at hr;obtain⟨rfl,rfl⟩:=hr;refine⟨?_,f1,by rintro b ⟨o,h⟩;cases h⟩;refine⟨?_⟩;rw[Ζ (.inr c1)];exact⟨rfl,rfl⟩
  have c1':¬(¬kP k\/at_<0):=by rintro(h|h)<;>contradiction
  have c1'':¬(¬iZ n k\/at_<0):=by rintro(h|h)<;>contradiction
  rw[Ε c1'] at hr;by_cases c2:(l.length:Int)<at_+k
  ·rw[Ζ c2] at hr;obtain⟨rfl,rfl⟩:=hr;refine⟨?_,f1,by rintro b ⟨o,h⟩;cases h⟩;refine⟨?_⟩;rw[Ε c1'',Ζ c2];exact⟨rfl,rfl⟩
  rw[Ε c2] at hr;obtain⟨rfl,hr,ha⟩:=hr;simp only[show ((0:Int) !=0)=false from rfl,Β];refine cmS5 (VZ hk hf.2.1 _) ?_;rintro v w3 ⟨f3,hv⟩;refine cmS2 (aad hv (by rw[iQ];have:=hk.2;omega)) ?_;rintro q w4 ⟨b4,f4,n4⟩;obtain⟨m,rfl⟩:∃m:Nat,k=(m:Int):=⟨k.toNat,by have:=hk.1;omega⟩;obtain⟨o,rfl⟩:∃o:Nat,at_=(o:Int):=⟨at_.toNat,by omega⟩;simp only[Η] at hr ha b4;have hq:=b4.1;rw[jF,iQ] at hq;have N:(jX m n.toNat).length=m:=iQ _ _;have O:=hr.1;simp only[ahP,aj0] at O;have R:∀b,fU.at q b->¬fU.at r b:=λb h1 h2=>by
   have:=n4 b h1;have:=b1.lt h2;have:=f3.size;omega
  refine gK (λst W=>∃i:Nat,i<=m/\st.1=i/\Buf W r (bytesV (l.take o++(jX m n.toNat).take i++l.drop (o+i)))/\Buf W q (bytesV (jX m n.toNat))/\gU w4 W (fU.at r))
   (λst _=>m - st.1.toNat) ⟨0,by omega,rfl,by simpa using (b1.ext f3).ext f4,b4,gU.refl _ _⟩ ?_
  rintro⟨x,⟨⟩⟩ W ⟨i,hi,rfl,h1,h2,h3⟩ next I
  by_cases U:i<m
  ·have u:((i:Int)<(q.len:Int)):=by omega
   simp only[u,aaA,Δ];have hy:(jX m n.toNat)[i]? =some (jX m n.toNat)[i]:=abe (by rw[N];exact U);obtain⟨a,Y,hc⟩:=(h_.iG h2).at_ hy;refine⟨a,Y,by omega,by omega,?_⟩;simp only[sx,Η,ahy,hc];have hol:o+i<l.length:=by omega
   obtain⟨b,hb,J⟩:=h1.set (i:=o+i) (by simp[jF,N];omega);have Z:=ha _ hb;refine⟨_,Z,by omega,by omega,?_⟩;rw[Oe];simp only[sx,Η,ahy];refine J _ _ rfl λw5 b5 f5 z5=> ?_;rw[Α];refine I _ _ ⟨i+1,by omega,by simp,?_,h2.fr f5 (λb hb h=>R b hb h),h3.trans f5 λ_ _ h=>h⟩ (by simp only;omega);have e:=set_mid (l.take o) (jX m n.toNat) (l.drop (o+i)) hy (by simp;omega);rw[ahP,akw (by omega)] at e;have e':(bytesV (l.take o++(jX m n.toNat).take i++l.drop (o+i))).set (o+i) (.int .u8 (jX m n.toNat)[i].toNat)=bytesV (l.take o++(jX m n.toNat).take (i+1)++l.drop (o+(i+1))):=by
    rw[show l.drop (o+(i+1))=(l.drop (o+i)).drop 1 by rw[alf];rfl,<- e];unfold bytesV;rw[List.map_set]
   rw[e'] at b5;exact b5
  ·have u:¬((i:Int)<(q.len:Int)):=by omega
   simp only[u,aaV,Β];have:i=m:=by omega
   subst this;refine⟨?_,((f1.trans f3).trans f4).new h3 λb hb h=>by have:=n1 b h;omega,n1⟩;refine⟨?_⟩;rw[Ε c1'',Ε c2];refine⟨rfl,?_⟩;rw[aji (l:=jX i n.toNat) (by omega)] at h1;simpa using h1
 ·simp only[hf,aaV,aek,Δ];refine⟨?_,Ext.refl _,by rintro b ⟨o,h⟩;cases h⟩;refine⟨?_⟩;rw[Ζ (.inl hf)];exact⟨rfl,rfl⟩
theorem QW {l:List UInt8} {at_ n k:Int} {w:θ} {r:fU} {e:Int} (h1:iZ n k) (h2:0<=at_) (h3:at_+k<=l.length) (h:aja l at_ n k w r e):e=0/\Buf w r (bytesV (l.take at_.toNat++jX k.toNat n.toNat++l.drop (at_.toNat+k.toNat))):=by
 have:=h.out
 rwa [Ε (by rintro(h|h);exact h h1;omega),Ε (by omega)] at this
def wordAt (l:List UInt8) (j:Nat):Nat:=((l[j]?).getD 0).toNat * 256+((l[j+1]?).getD 0).toNat
def wB (l:List UInt8):List (Ae [.one ν,.one ν]):=(List.range ((l.length+1) / 2)).map λi=>(((2 * i:Nat):Int),((wordAt l (2 * i):Nat):Int),())
theorem Pq (l:List UInt8):(wB l).length=(l.length+1) / 2:=by simp[wB]
theorem YU (l:List UInt8) {i:Nat} (h:2 * i<l.length):(wB l)[i]? =some (((2 * i:Nat):Int),((wordAt l (2 * i):Nat):Int),()):=by
 simp only[wB,aiF];rw[alG (by omega)];rfl
theorem Ϛ (l:List UInt8) {i:Nat} (h:2 * i<l.length):tot (l.take (2 * (i+1)))=tot (l.take (2 * i))+wordAt l (2 * i):=by
 have e:l.take (2 * (i+1))=l.take (2 * i)++(l.drop (2 * i)).take 2:=by
  rw[Nat.mul_add,List.take_add]
 rw[e,Uy _ _ (by simp;omega)];congr 1;unfold wordAt;rw[<- akY,show l[2 * i]? =(l.drop (2 * i))[0]? by simp]
 match hd:l.drop (2 * i) with
 |[]=>have h3:=congrArg List.length hd;rw[aj0] at h3;simp only[aiJ] at h3;omega
 |[a]=>simp[tot]
 |a::b::r=>simp[tot]
theorem Em (l:List UInt8) (j:Nat):wordAt l j<65536:=by
 unfold wordAt;have h1:=((l[j]?).getD 0).toNat_lt;have h2:=((l[j+1]?).getD 0).toNat_lt;omega
theorem Md {s:fU} {f0:Nat} {l:List UInt8} (hl:l.length<=2^46):
  oO υ [.one ν,.one ν] (Value.func (.func X3) #[] #[(Value.pointer (some ⟨f0,0,none⟩))])
   (λW=>Row W f0 [.slice s.a s.len s.cap]/\h_ W s l) (wB l):=by
 refine⟨by kernel_rfl,λn Q D hC hQ hD hy w h0=> ?_⟩;refine Calls.mono (U7 (a0:= .func (.yield n) #[] #[]) (f0:=⟨f0,0,none⟩) (K:=λw'=>Q (wB l).length w'\/D w') ?_) (λe w' h=>h);rw[Pq];refine gK (λst W=>∃i:Nat,i<=(l.length+1) / 2/\st.1=((2 * i:Nat):Int)/\Q i W) (λst _=>l.length+1 - st.1.toNat) ⟨0,by omega,rfl,h0⟩ ?_;rintro⟨x,⟨⟩⟩ W ⟨i,hi,rfl,hq⟩ next J
 obtain⟨r0,hs⟩:=hC _ _ hq;have hsl:=hs.1;simp only[sx,r0.cell];by_cases O:2 * i<l.length
 ·have I:(((2 * i:Nat):Int)<(s.len:Int)):=by omega
  simp only[I,aaA,Δ];obtain⟨a,ha,hc⟩:=hs.at_ (abe O);refine⟨a,ha,by omega,by omega,?_⟩;rw[Η];simp only[ahy,fZ,gq,hc];refine⟨by omega,?_⟩;have hb:=l[2 * i].toNat_lt;have fin:jB υ [.one .bool] (.func (.yield n) #[] #[]) [Value.int .i64 ((2 * i:Nat):Int),Value.int .i64 ((wordAt l (2 * i):Nat):Int)] W (λY R=>
    ∃U:Bool,Y=(Value.bool U)/\(bif (!U) then (Q ((l.length+1) / 2) R\/D R) else next ((ο.wrap (((2 * i:Nat):Int)+2)),()) R)):=by
   refine lI (hy i (((2 * i:Nat):Int),((wordAt l (2 * i):Nat):Int),()) W _ (YU l O) hq ?_ ?_)
   ·intro W' hq';refine⟨true,rfl,?_⟩;simp only[ab6,Β];rw[Α];exact J _ _ ⟨i+1,by omega,by simp only;omega,hq'⟩ (by simp only;omega)
   ·intro W' hd;refine⟨false,rfl,?_⟩;simp only[aek,Δ];exact .inr hd
  rw[Α (n:=((2 * i:Nat):Int)+1) (by omega) (by omega),Α (n:=(l[2 * i].toNat:Int)) (by omega) (by omega)];by_cases N:2 * i+1<l.length
  ·have u:(((2 * i:Nat):Int)+1<(s.len:Int)):=by omega
   simp only[u,aaA,Δ];obtain⟨a',ha',hc'⟩:=hs.at_ (abe N);refine⟨a',ha',by omega,by omega,?_⟩;rw[show (((2 * i:Nat):Int)+1).toNat=2 * i+1 by omega];simp only[ahy,fZ,gq,hc'];have hb':=l[2 * i+1].toNat_lt;rw[Α (n:=(l[2 * i+1].toNat:Int)) (by omega) (by omega),Λ (by omega) (by omega)];have e:wordAt l (2 * i)=l[2 * i].toNat * 256+l[2 * i+1].toNat:=by
    unfold wordAt;rw[abe O,abe N];rfl
   rw[e] at fin;exact fin
  ·have u:¬(((2 * i:Nat):Int)+1<(s.len:Int)):=by omega
   simp only[u,aaV,Β];have e0:Ky .i64 (l[2 * i].toNat:Int) 8=((l[2 * i].toNat * 256:Nat):Int):=by
    have:=agT (a:=l[2 * i].toNat) (k:=8) (by omega) (by omega);simpa using this
   rw[e0];have e:wordAt l (2 * i)=l[2 * i].toNat * 256:=by
    unfold wordAt;rw[abe O,akz (by omega)];simp
   rw[e] at fin;exact fin
 ·have I:¬(((2 * i:Nat):Int)<(s.len:Int)):=by omega
  simp only[I,aaV,Β];have:i=(l.length+1) / 2:=by omega
  subst this;exact .inl hq
def Parts (w:θ) (s:fU) (ps:List (fU×List UInt8)):Prop:=
 s.len=ps.length/\(∀i p,ps[i]? =some p->∃b o,s.a=some ⟨b,o,none⟩/\w.cell? ⟨b,o+i,none⟩=some (.slice p.1.a p.1.len p.1.cap)/\h_ w p.1 p.2)
theorem Parts.fr {w w':θ} {s:fU} {ps:List (fU×List UInt8)} (h:Parts w s ps) (hf:Ext w w'):Parts w' s ps:=
 ⟨h.1,λi p hi=>by obtain⟨b,o,h1,h2,h3⟩:=h.2 i p hi;exact⟨b,o,h1,og h2 hf,h3.ext hf⟩⟩
def qN (ps:List (fU×List UInt8)):Nat:=(ps.map λp=>tot p.2).foldr (·+·) 0
theorem WT {ps:List (fU×List UInt8)} {i:Nat} {p:fU×List UInt8} (h:ps[i]? =some p):qN (ps.take (i+1))=qN (ps.take i)+tot p.2:=by
 have u:=(ady.1 h).1;rw[ajM u];have:ps[i]=p:=by rw[abe u] at h;simpa using h
 rw[this];unfold qN;generalize ps.take i=q
 induction q with
 |nil=>simp
 |cons x q ih=>simp only[akk,akv,aiG,List.foldr_cons,List.foldr_append] at ih ⊢;simp at ih ⊢;omega
theorem abQ {ps:List (fU×List UInt8)} {n:Nat} (h:∀p∈ps,p.2.length<=n):qN ps<=ps.length * (65535 * n):=by
 unfold qN
 induction ps with
 |nil=>simp
 |cons p ps ih=>
  simp only[aiG,List.foldr_cons,aeW];have h1:=Uz p.2;have h2:=h p (akl ..);have h3:=ih λq hq=>h q (aj2 _ hq);have h4:65535 * p.2.length<=65535 * n:=Nat.mul_le_mul_left _ h2;rw[ajD];omega
theorem ϛ {w:θ} {s:fU} {ps:List (fU×List UInt8)} (hs:Parts w s ps) (hn:ps.length<=64) (hl:∀p∈ps,p.2.length<=2^40):
  BU s w λr w'=>r=(qN ps:Int)/\Ext w w':=by
 apply Yp;refine gu λa w1 r1 e1 z1 f1=> ?_;refine gX r1 rfl (by simp) λw2 r2 f2 z2=> ?_;have hsl:=hs.1;have x2:Ext w w2:=f1.new (f2 (·=a) rfl) λb hb e=>by omega
 have N:∀i,qN (ps.take i)<=2^62:=λi=>by
  have h1:=abQ (ps:=ps.take i) (n:=2^40) λp hp=>hl p (alv hp);have h2:(ps.take i).length<=64:=by simp;omega
  have h3:(ps.take i).length * (65535 * 2^40)<=64 * (65535 * 2^40):=akA _ h2;omega
 refine gK (λst W=>∃i:Nat,i<=ps.length/\st.1.1=i/\Row W a [.int .i64 (qN (ps.take i):Int)]/\Ext w W/\(∀d∈st.2,w2.heap.size<=d/\d<W.heap.size/\W.heap[d]? =some (.deferred (some [])))/\st.2.Nodup/\w2.heap.size<=W.heap.size)
  (λst _=>ps.length - st.1.1.toNat) ⟨0,by omega,rfl,by simpa [qN] using r2,x2,by simp,by simp,aiq _⟩ ?_
 rintro⟨⟨x,⟨⟩⟩,ds⟩ W ⟨i,hi,rfl,h1,h2,h3,h4,h5⟩ next I
 by_cases R:i<ps.length
 ·have u:((i:Int)<(s.len:Int)):=by omega
  simp only[u,aaA,Δ];obtain⟨b,o,ha,hc,hb⟩:=(hs.fr h2).2 i _ (abe R);refine⟨_,ha,by omega,by omega,?_⟩;simp only[sx,Η,ahy,hc];generalize hp:ps[i]=p at hc hb;have O:ps[i]? =some p:=by rw[abe R,hp]
  have hpl:=hl p (ajF O);apply Ig;refine⟨rfl,gu λc w3 r3 e3 z3 f3=> ?_⟩;have U:∀j,tot (p.2.take j)<=2^60:=λj=>by
   have:=Uz (p.2.take j);have e:(p.2.take j).length<=2^40:=by simp;omega
   have:65535 * (p.2.take j).length<=65535 * 2^40:=Nat.mul_le_mul_left _ e;omega
  have haw:a<w2.heap.size:=by omega
  have hla:nG none w3=w3.heap.size+1:=rfl;have hsz:=h2.size;have Y:∀a',p.1.a=some a'->0<p.2.length->a'.block<w.heap.size:=λa' h h'=>by
   obtain⟨b',o',_,_,hb'⟩:=hs.2 i p O;exact hb'.lt h h'
  refine Bh (Md (s:=p.1) (l:=p.2) (by omega)) (λj W'=>Row W' a [.int .i64 ((qN (ps.take i)+tot (p.2.take (2 * j)):Nat):Int)]/\gU w3 W' (·=a)/\w3.heap.size+2<=W'.heap.size)
   (λ_ _=>False) (by simp) ?_ ?_ ?_ (by intro e W W' h;exact h.elim) (by intro e W h;exact h.elim) ?_ ?_ (by intro W h;exact h.elim) (by intro id W h;exact h.elim)
  ·intro w4 f4 z4;exact⟨by simpa [tot] using (h1.ext f3).ext f4,f4 _,by omega⟩
  ·exact λj W' h=>⟨r3.fr h.2.1 (by omega),(hb.ext f3).fr h.2.1 λa' ha' hl' e=>by have:=Y a' ha' hl';omega⟩
  ·rintro j W' W'' ⟨g1,g5,g6⟩ hf;exact⟨g1.fr hf (by omega),g5.trans hf λb hb e=>by omega,by have:=hf.size;omega⟩
  ·intro j x W' Kb hx ⟨g1,g5,g6⟩ hlt3 J _;refine⟨by trivial,?_⟩;have hj:2 * j<p.2.length:=by
    have:=(ady.1 hx).1;rw[Pq] at this;omega
   rw[YU _ hj] at hx;simp only[afM] at hx;subst hx;have fb:=gU.gG W' (nG none w3);have g1':=g1.fr fb (by omega);simp only[abY,fZ,gq,g1'.cell];refine gX g1' rfl (by simp) λw5 r5 f5 z5=> ?_;refine J w5 (·=a) (f5 _ rfl) (λb hb1 hb2 e=>by omega) ⟨?_,(g5.trans fb λb hb e=>by omega).trans (f5 (·=a) rfl) λb hb e=>e,by simp[gG] at z5;omega⟩;simp only[agE] at r5;have:=N i;have:=U (2 * j);have:=Em p.2 (2 * j);rw[Α] at r5;rw[Ϛ _ hj];have e:((qN (ps.take i)+tot (p.2.take (2 * j)):Nat):Int)+((wordAt p.2 (2 * j):Nat):Int)=((qN (ps.take i)+(tot (p.2.take (2 * j))+wordAt p.2 (2 * j)):Nat):Int):=by omega
   rw[e] at r5;exact r5
  ·rintro W' ⟨g1,g5,g6⟩ hm;have Z:=hm rfl;rw[Pq,aji (l:=p.2) (by omega)] at g1;rw[Α];have hx:Ext w W':=(h2.trans f3).new g5 λb hb e=>by omega
   refine I _ _ ⟨i+1,by omega,by simp,by rw[WT O];exact g1,hx,?_,?_,by omega⟩ (by simp only;omega)
   ·intro d hd;rcases afm.1 hd with rfl|hd
    ·exact⟨by omega,by omega,Z⟩
    ·obtain⟨q1,q2,q3⟩:=h3 d hd;refine⟨q1,by omega,?_⟩;rw[g5.same d (by omega) (by omega),(f3 λ_=>False).same d (by omega) (by simp)];exact q3
   ·refine akj.2 ⟨λhd=> ?_,h4⟩;have:=(h3 _ hd).2.1;omega
 ·have u:¬((i:Int)<(s.len:Int)):=by omega
  simp only[u,aaV,Β];have:i=ps.length:=by omega
  subst this;rw[ajU] at h1;simp only[sx,h1.cell];refine DU (n:=w2.heap.size) ds W (λd hd=>⟨(h3 d hd).1,(h3 d hd).2.2⟩) h4 λw6 f6 z6=>⟨by trivial,h2.new f6 λb hb e=>by omega⟩
end Go.Proofs.VN
end
section
namespace Go.Proofs.VN
open Gp Gp.V4
theorem aby {m:Nat} (hm:m<2^62) (w:θ):EW (m:Int) w λr w'=>r=(fold m:Int)/\w'=w:=by
 apply Z_;have h0:¬((0:Int)>(m:Int)):=by omega
 simp only[h0,aiC];refine gK (λst W=>W=w/\∃x:Nat,x<2^62/\st.1=(x:Int)/\fold x=fold m) (λst _=>st.1.toNat) ⟨rfl,m,hm,rfl,rfl⟩ ?_;rintro⟨x,⟨⟩⟩ W ⟨rfl,n,hn,rfl,hf⟩ next u
 by_cases I:65535<n
 ·have h:((n:Int)>65535):=by omega
  simp only[h,aaA,Δ];refine⟨by omega,?_⟩;have e1:kT .i64 (n:Int) 65535=((n % 65536:Nat):Int):=by
   have:=MJ (a:=n) (b:=65535) (by omega) (by omega);rw[show (65535:Nat)=2^16 - 1 by decide,I_] at this;exact this
  have e2:jy .i64 (n:Int) 16=((n / 65536:Nat):Int):=CJ (a:=n) (k:=16) (by omega);rw[e1,e2,Α];exact u _ _ ⟨rfl,n % 65536+n / 65536,by omega,by simp only;omega,by rw[V_ I,hf]⟩ (by simp only;omega)
 ·have h:¬((n:Int)>65535):=by omega
  simp only[h,aaV,Β];exact⟨by rw[<- hf,Sr (by omega)],by trivial⟩
theorem YQ {ps:List (fU×List UInt8)} (hn:ps.length<=64) (hl:∀p∈ps,p.2.length<=2^40) (i:Nat):qN (ps.take i)<2^62:=by
 have h1:=abQ (ps:=ps.take i) (n:=2^40) λp hp=>hl p (alv hp);have h2:(ps.take i).length<=64:=by simp;omega
 have h3:(ps.take i).length * (65535 * 2^40)<=64 * (65535 * 2^40):=akA _ h2;omega
theorem Ϙ {ps:List (fU×List UInt8)} (hn:ps.length<=64) (hl:∀p∈ps,p.2.length<=2^40):qN ps<2^62:=by
 have:=YQ hn hl ps.length
 rwa [ajU] at this
theorem adM {w:θ} {s:fU} {ps:List (fU×List UInt8)} (hs:Parts w s ps) (hn:ps.length<=64) (hl:∀p∈ps,p.2.length<=2^40):
  Ja s w λr w'=>r=(fold (qN ps):Int)/\Ext w w':=by
 apply aaN;refine cmS1 (ϛ hs hn hl) ?_;rintro _ w1 ⟨rfl,f1⟩;refine cmS1 (aby (Ϙ hn hl) w1) ?_;rintro _ _ ⟨rfl,rfl⟩;exact⟨by trivial,f1⟩
theorem Ti {w:θ} {s:fU} {ps:List (fU×List UInt8)} (hs:Parts w s ps) (hn:ps.length<=64) (hl:∀p∈ps,p.2.length<=2^40):
  G6 s w λr w'=>r=((65535 - fold (qN ps):Nat):Int)/\Ext w w':=by
 apply acY;refine cmS1 (adM hs hn hl) ?_;rintro _ w1 ⟨rfl,f1⟩;have:=Nc (qN ps);exact⟨by rw[Α];omega,f1⟩
theorem Po {w:θ} {s:fU} {ps:List (fU×List UInt8)} (hs:Parts w s ps) (hn:ps.length<=64) (hl:∀p∈ps,p.2.length<=2^40):
  yA s w λr w'=>r=decide (fold (qN ps)=65535)/\Ext w w':=by
 apply Yo;refine cmS1 (adM hs hn hl) ?_;rintro _ w1 ⟨rfl,f1⟩;refine⟨?_,f1⟩;by_cases h:fold (qN ps)=65535
 ·simp[h]
 ·simp[h];omega
theorem Ee {w:θ} {b:Nat} {s:fU} {l:List UInt8} (h:Row w b [.slice s.a s.len s.cap]) (hs:h_ w s l):Parts w ⟨some ⟨b,0,none⟩,1,1⟩ [(s,l)]:=by
 refine⟨rfl,λi p hi=> ?_⟩
 cases i with
 |zero=>
  simp at hi;subst hi;exact⟨b,0,rfl,by rw[h.cell];rfl,hs⟩
 |succ i=>simp at hi
theorem Oa (s:fU) (l:List UInt8):qN [(s,l)]=tot l:=by simp[qN]
theorem AV (n:Int) (w:θ):lu n w λr w'=>r=decide (kG n)/\w'=w:=by
 apply KG;by_cases h1:n>=0
 ·have h1':0<=n:=h1;simp[h1',kG]
 ·have h1':¬0<=n:=h1;simp[h1',kG]
theorem Oh {w:θ} {b:Nat} {l:List Bool} {vs:List Value} (h:Row w b vs) (hv:vs=l.map Value.bool) (n:Nat) (hn:n=l.length) (hl:l.length<=100):yC ⟨some ⟨b,0,none⟩,n,n⟩ w λr w'=>r=l.all id/\w'=w:=by
 subst hv;apply acZ;apply yQ;apply BI;subst hn;refine gK (λst W=>W=w/\∃i:Nat,i<=l.length/\st.1=(i:Int)/\(l.take i).all id=true) (λst _=>l.length - st.1.toNat) ⟨rfl,0,by omega,rfl,rfl⟩ ?_;rintro⟨x,⟨⟩⟩ W ⟨rfl,i,hi,rfl,hp⟩ next I
 by_cases J:i<l.length
 ·have u:((i:Int)<(l.length:Int)):=by omega
  simp only[u,aaA,Δ];simp only[sx,h.cell,Η,ahy,aiF,abe J,aik];refine⟨by omega,by trivial,?_⟩
  cases hb:l[i] with
  |true=>
   simp only[show (false==true)=false from rfl,Β];rw[Α];refine I _ _ ⟨rfl,i+1,by omega,by simp,?_⟩ (by simp only;omega);rw[ajM J,List.all_append,hp,hb];rfl
  |false=>
   simp only[show (false==false)=true from rfl,Δ];refine⟨?_,by trivial⟩;have:l.all id=false:=by
    apply Bool.eq_false_iff.2;intro h;have:=akh.1 h false (hb ▸ ajm J)
    cases this
   rw[this];simp
 ·have u:¬((i:Int)<(l.length:Int)):=by omega
  simp only[u,aaV,Β];have:i=l.length:=by omega
  subst this;rw[ajU] at hp;exact⟨by rw[hp];rfl,by trivial⟩
end Go.Proofs.VN
end
section
open List (all_cons all_nil)
namespace Go.Proofs.VN
open Gp Gp.V4
theorem abS (a0 a1 a2 a3 a4 a5 a6:Int) (a7 a8:Bool) (a9 u:fU) (h:a9.len<=2^60) (w:θ):Jb a0 a1 a2 a3 a4 a5 a6 a7 a8 a9 u w λr w'=>r=20+(a9.len:Int)/\Ext w w':=by
 apply aaP;refine gu λa w1 r1 _ _ f1=> ?_;simp only[sx,abY,adB,r1.cell];exact⟨by rw[Α],f1⟩
theorem ag6 (a0 a1 a2 a3 a4 a5 a6:Int) (a7 a8:Bool) (a9 u:fU) (h:a9.len<=2^60) (h':u.len<=2^60) (w:θ):Oq a0 a1 a2 a3 a4 a5 a6 a7 a8 a9 u w λr w'=>r=20+(a9.len:Int)+(u.len:Int)/\Ext w w':=by
 apply aaQ;refine gu λa w1 r1 _ _ f1=> ?_;simp only[sx,abY,adB,r1.drew.cell];refine cmS1 (abS _ _ _ _ _ _ _ _ _ _ _ h _) ?_;rintro r w2 ⟨rfl,f2⟩;refine⟨by rw[(r1.drew.ext f2).cell];rfl,?_,(f1.trans (Ext.drew _)).trans f2⟩;rw[Α]
theorem MO {w:θ} (p:kZ) {o d:fU} (ho:o.len=p.opts.length) (hd:d.len=p.data.length) (h1:p.opts.length<=2^46) (h2:p.data.length<=2^46):
  EY p.tos p.id p.off p.ttl p.proto p.src p.dst p.df p.mf o d w λr w'=>r=p.check/\Ext w w':=by
 apply Θ;refine gu λa w1 r1 _ _ f1=> ?_;have r1d:=r1.drew;simp -zeta only[sx,abY,adB,r1d.cell];refine cmS0 (rE _ _ _) ?_;rintro _ _ ⟨rfl,rfl⟩;simp -zeta only[aeA,abY,adB,r1d.cell];refine cmS0 (rE _ _ _) ?_;rintro _ _ ⟨rfl,rfl⟩;simp -zeta only[aeA,abY,adB,r1d.cell];refine cmS0 (rE _ _ _) ?_;rintro _ _ ⟨rfl,rfl⟩;simp -zeta only[aeA,abY,adB,r1d.cell];refine cmS0 (rE _ _ _) ?_;rintro _ _ ⟨rfl,rfl⟩;refine gu λb w2 r2 _ _ f2=> ?_;refine cmS0 (Oh (l:=[decide (iZ p.tos 1),decide (iZ p.ttl 1),decide (iZ p.proto 1),decide (iZ p.id 2)]) r2 rfl 4 rfl (by simp)) ?_;rintro _ w2 ⟨rfl,rfl⟩;have r3:=(r1d.ext f2).drew;simp -zeta only[abY,adB,fZ,gq,r3.cell];refine cmS0 (AV _ _) ?_;rintro _ _ ⟨rfl,rfl⟩;simp -zeta only[aeA,abY,adB,r3.cell];refine cmS0 (AV _ _) ?_;rintro _ _ ⟨rfl,rfl⟩;refine gu λc w4 r4 _ _ f4=> ?_;refine cmS0 (Oh (l:=[decide (kG p.src),decide (kG p.dst)]) r4 rfl 2 rfl (by simp)) ?_;rintro _ w4 ⟨rfl,rfl⟩;have r5:=r3.ext f4;have x5:Ext w w4:=(((f1.trans (Ext.drew _)).trans f2).trans (Ext.drew _)).trans f4;intro h;have hJ:∀(b:Bool) (W:θ),Ext w4 W->b=decide (0<=p.off/\p.off<=65528/\Int.tmod p.off 8=0/\(p.mf=true->p.data.length % 8=0))->h b W:=by
  rintro b W fW rfl;have rW:=r5.ext fW;simp only[h,Δ,abY,adB,fZ,gI,rW.cell];refine⟨by omega,gu λe w6 r6 _ _ f6=> ?_⟩;refine cmS0 (Oh (l:=[_,_]) r6 rfl 2 rfl (by simp)) ?_;rintro _ _ ⟨rfl,rfl⟩;refine gu λg w7 r7 _ _ f7=> ?_;refine cmS0 (Oh (l:=[_,_,_,_]) r7 rfl 4 rfl (by simp)) ?_;rintro _ _ ⟨rfl,rfl⟩;have e1:decide ((o.len:Int)<=40)=decide (p.opts.length<=40):=by rw[ho];exact akq.2 (by omega)
  have e2:(Int.tmod (o.len:Int) 4==0)=decide (p.opts.length % 4=0):=by
   rw[ho,aj6 (by omega),show ((p.opts.length:Int) % 4==0)=decide ((p.opts.length:Int) % 4=0) from rfl];exact akq.2 (by omega)
  have e3:([[decide (iZ p.tos 1),decide (iZ p.ttl 1),decide (iZ p.proto 1),decide (iZ p.id 2)].all id,[decide (kG p.src),decide (kG p.dst)].all id,decide (0<=p.off/\p.off<=65528/\Int.tmod p.off 8=0/\(p.mf=true->p.data.length % 8=0)),
    [decide ((o.len:Int)<=40),(Int.tmod (o.len:Int) 4==0)].all id].all id)=decide p.fine:=by
   rw[e1,e2];simp only[all_cons,all_nil,id,aln];rw[<- ajW,<- ajW,<- ajW,<- ajW,<- ajW,<- ajW,<- ajW,<- ajW];rfl
  rw[e3];have x7:=(x5.trans fW).trans (f6.trans f7);by_cases hf:p.fine
  ·simp only[hf,aaA,ab6,Β];have r8:=rW.ext (f6.trans f7);simp -zeta only[abY,adB,fZ,gI,gq,jK,r8.cell];refine cmS1 (ag6 _ _ _ _ _ _ _ _ _ _ _ (show o.len<=2^60 by omega) (show d.len<=2^60 by omega) _) ?_;rintro _ w8 ⟨rfl,f8⟩;have r9:=r8.ext f8;simp -zeta only[abY,adB,fZ,gI,gq,r9.cell];rw[Α];by_cases hs:20+p.opts.length+p.data.length<=65535
   ·have:¬(20+(o.len:Int)+(d.len:Int)>65535):=by omega
    simp only[this,aaV,Β];by_cases hs2:p.off<=65535 - (p.data.length:Int)
    ·have:¬(p.off>65535 - (d.len:Int)):=by omega
     simp only[this,aaV,Β];exact⟨by simp[kZ.check,hf,kZ.short,hs,hs2],x7.trans f8⟩
    ·have:(p.off>65535 - (d.len:Int)):=by omega
     simp only[this,aaA,Δ];exact⟨by simp[kZ.check,hf,kZ.short,hs2],x7.trans f8⟩
   ·have:(20+(o.len:Int)+(d.len:Int)>65535):=by omega
    simp only[this,aaA,Δ];exact⟨by simp[kZ.check,hf,kZ.short,hs],x7.trans f8⟩
  ·simp only[hf,aaV,aek,Δ];exact⟨by simp[kZ.check,hf],x7⟩
 simp -zeta only[abY,adB,fZ,gI,gq,jK,r5.cell];refine⟨by omega,?_⟩
 cases hm:p.mf with
 |false=>
  simp only[aek,Δ];refine gu λe w6 r6 _ _ f6=> ?_;refine cmS0 (Oh (l:=[_,_,_,_]) r6 rfl 4 rfl (by simp)) ?_;rintro _ _ ⟨rfl,rfl⟩;refine hJ _ _ f6 ?_;simp only[all_cons,all_nil,id,aln,hm];rw[show (Int.tmod p.off 8==0)=decide (Int.tmod p.off 8=0) from rfl];simp[ge_iff_le]
 |true=>
  simp only[ab6,Β];refine⟨by omega,gu λe w6 r6 _ _ f6=> ?_⟩;refine cmS0 (Oh (l:=[_,_,_,_]) r6 rfl 4 rfl (by simp)) ?_;rintro _ _ ⟨rfl,rfl⟩;refine hJ _ _ f6 ?_;have e2:(Int.tmod (d.len:Int) 8==0)=decide (p.data.length % 8=0):=by
   rw[hd,aj6 (by omega),show ((p.data.length:Int) % 8==0)=decide ((p.data.length:Int) % 8=0) from rfl];exact akq.2 (by omega)
  simp only[all_cons,all_nil,id,aln,hm,e2];rw[show (Int.tmod p.off 8==0)=decide (Int.tmod p.off 8=0) from rfl];simp[ge_iff_le]
end Go.Proofs.VN
end
section
namespace Go.Proofs.VN
open Gp Gp.V4
def ahK (p:kZ) (w w':θ) (r:fU) (e:Int):Prop:=
 e=p.check/\(p.check≠0->r=⟨none,0,0⟩)/\(p.check=0->Buf w' r (bytesV p.bytes))/\Ext w w'/\∀b,fU.at r b->w.heap.size<=b
theorem aeY {w:θ} {s:fU} {l:List UInt8} (h:h_ w s l) (hl:l.length<=2^46) {i k:Nat} (hk:1<=k/\k<=4) (hi:i+k<=l.length) (x y:Int):gV s x y (i:Int) (k:Int) w λr w'=>r=(num l i k:Int)/\Ext w w':=by
 apply O8;refine gu λa w1 r1 _ _ f1=> ?_;simp only[sx,Ci,Cs,iE,iJ,abY,r1.cell];refine cmS8 (OC (h.ext f1) (by omega) _ _) ?_;rintro n e _ ⟨rfl,hr⟩;exact⟨abz hk hi hr,f1⟩
theorem X6 {w:θ} {s:fU} {l:List UInt8} (h:h_ w s l) (hl:l.length<=2^46) {i k:Int} (hk:1<=k/\k<=4) (hi:0<=i/\i+k<=l.length) (x y:Int):gV s x y i k w λr w'=>r=(num l i.toNat k.toNat:Int)/\Ext w w':=by
 obtain⟨m,rfl⟩:∃m:Nat,k=(m:Int):=⟨k.toNat,by omega⟩;obtain⟨o,rfl⟩:∃o:Nat,i=(o:Int):=⟨i.toNat,by omega⟩;exact aeY h hl (by omega) (by omega) x y
def ϭ (w:θ) (q:kZ) (t i o l p s d:Int) (df mf:Bool) (op da:fU):Prop:=
 t=q.tos/\i=q.id/\o=q.off/\l=q.ttl/\p=q.proto/\s=q.src/\d=q.dst/\df=q.df/\mf=q.mf/\h_ w op q.opts/\h_ w da q.data
def Xa (w:θ) (s:fU):Prop:=∀x,s.a=some x->w.heap.size<=x.block
theorem E_ (l:List UInt8) (i:Nat):num l i 2<65536:=by
 have:=Ns ((l.drop i).take 2);have h2:(256:Nat)^((l.drop i).take 2).length<=256^2:=akO (by omega) (by simp;omega);unfold num;omega
theorem aac {n k:Nat} (hn:n<2^63) (hk:k<63):(kT .i64 (n:Int) ((2^k:Nat):Int) !=0)=(n / 2^k % 2==1):=by
 have hp:0<2^k:=Nat.pow_pos (by omega);have hp2:2^k<2^63:=Nat.pow_lt_pow_right (by omega) hk;rw[MJ hn hp2,afG];have:n / 2^k % 2=0\/n / 2^k % 2=1:=by omega
 rcases this with h|h
 ·rw[h];simp
 ·rw[h,Nat.one_mul];generalize 2^k=q at hp;have:((q:Int) !=0)=true:=by simp;omega
  rw[this];rfl
set_option maxRecDepth 100000 in
theorem O9 {w:θ} {s:fU} {l:List UInt8} (hs:h_ w s l) (hl:l.length<=2^46) (h1:20<=hlen l) (h2:hlen l<=l.length) (h3:hlen l<=num l 2 2):
  u_ s (hlen l:Int) (num l 2 2:Int) w λt i o l' p s' d df mf op da w'=>ϭ w' (field l) t i o l' p s' d df mf op da/\Xa w op/\Xa w da/\Ext w w':=by
 apply Kq;refine gu λa w1 r1 e1 z1 f1=>gu λb w2 r2 e2 z2 f2=> ?_;have ra2:=r1.ext f2;have hsl:=hs.1;simp -zeta only[sx,Ci,Cs,iE,iJ,abY,adB,ra2.cell];have hs2:=(hs.ext f1).ext f2;refine tC (aeY (i:=6) (k:=2) hs2 hl (by omega) (by omega) _ _) ?_;rintro _ w3 ⟨rfl,f3⟩;have x3:Ext w w3:=(f1.trans f2).trans f3;have ra3:=ra2.ext f3;have rb3:=r2.ext f3;have hs3:=hs2.ext f3;have h:=f3.size;intro J;have hJ:∀c W,Row W c [.int .i64 (num l 1 1:Int),.int .i64 (num l 4 2:Int),.int .i64 0,.int .i64 (num l 8 1:Int),.int .i64 (num l 9 1:Int),.int .i64 (num l 12 4:Int),.int .i64 (num l 16 4:Int),.bool false,.bool false,.slice none 0 0,.slice none 0 0]->Ext w3 W->w3.heap.size<=c->J ⟨c,0,none⟩ W:=by
  intro c W rc hx hc;simp only[sx,Ci,Cs,iE,iJ,J];have n6:=E_ l 6;refine gX rc rfl (by simp) λw4 r4 f4 z4=>gX r4 rfl (by simp) λw5 r5 f5 z5=>gX r5 rfl (by simp) λw6 r6 f6 z6=> ?_;have x6:Ext w3 w6:=hx.new (((f4 (·=c) rfl).trans (f5 (·=c) rfl) λ_ _ e=>e).trans (f6 (·=c) rfl) λ_ _ e=>e) λy hy e=>by omega
  have ra6:=ra3.ext x6;have hs6:=hs3.ext x6;have hsz6:=x6.size;simp only[agE,aho] at r6;simp only[abY,adB,fZ,gI,gq,ra6.cell];refine lF hs6 (by omega) (by omega) (by omega) λs7 hs7 _=> ?_;refine cmS2 (nD hs7 (by simp;omega)) ?_;rintro o8 w8 ⟨b8,_,f8,n8⟩;have r8:=r6.ext f8;refine gX r8 rfl (by simp) λw9 r9 f9 z9=> ?_;have f89:Ext w6 w8:=f8;have x9:Ext w3 w9:=(x6.trans f8).new (f9 (·=c) rfl) λy hy e=>by omega
  have ra9:=ra3.ext x9;have hs9:=hs3.ext x9;have hsz8:=f8.size;have b9:Buf w9 o8 _:=b8.fr (f9 (·=c) rfl) λy hy e=>by
   have:=n8 y hy;have:=r6.lt;omega
  simp only[agE,aho] at r9;simp only[abY,adB,fZ,gI,gq,ra9.cell];have u:(if (s.len:Int)<(num l 2 2:Int) then (s.len:Int) else (num l 2 2:Int))=((min (num l 2 2) l.length:Nat):Int):=by
   split<;>omega
  rw[u];refine lF hs9 (by omega) (by omega) (by omega) λs10 hs10 _=> ?_;refine cmS2 (nD hs10 (by simp;omega)) ?_;rintro d11 w11 ⟨N,_,f11,n11⟩;have U:=r9.ext f11;have hsz11:=f11.size;have hcl:=r9.lt;refine gX U rfl (by simp) λI O f12 z12=> ?_;have R:Ext w3 I:=(x9.trans f11).new (f12 (·=c) rfl) λy hy e=>by omega
  have Y:Buf I o8 _:=(b9.ext f11).fr (f12 (·=c) rfl) λy hy e=>by
   have:=n8 y hy;have:=r6.lt;omega
  have d12:Buf I d11 _:=N.fr (f12 (·=c) rfl) λy hy e=>by
   have:=n11 y hy;omega
  simp only[agE,aho] at O;simp only[abY,adB,fZ,gI,gq,jK,O.cell];have rb12:=rb3.ext R;refine gZ rb12 rfl rfl λw13 Z f13 z13=> ?_;simp only[abY,adB,fZ,gI,gq,jK,Z.cell];have hb3:=rb3.lt;have e8191:kT .i64 (num l 6 2:Int) 8191=((num l 6 2 % 8192:Nat):Int):=by
   have:=MJ (a:=num l 6 2) (b:=8191) (by omega) (by omega);rw[show (8191:Nat)=2^13 - 1 by decide,I_] at this;exact this
  have hszx:=x3.size;refine⟨⟨rfl,rfl,?_,rfl,rfl,rfl,rfl,?_,?_,?_,?_⟩,λx hx=>by have:=n8 _ (b8.at_eq hx);omega,λx hx=>by have:=n11 _ (N.at_eq hx);omega,?_⟩
  ·rw[e8191,Α];simp only[field];omega
  ·exact aac (k:=14) (by omega) (by omega)
  ·exact aac (k:=13) (by omega) (by omega)
  ·refine h_.iG (Y.fr (f13 (·=b) rfl) λy hy e=> ?_);have:=n8 y hy;omega
  ·have e:(l.take (min (num l 2 2) l.length)).drop (hlen l)=(field l).data:=by
    simp only[field];congr 1;rw[Nat.min_comm,<- List.take_take,aji (by rw[ahP];omega)]
   have d13:=d12.fr (f13 (·=b) rfl) λy hy e=>by
    have:=n11 y hy;omega
   rw[Η,Η,e] at d13;exact h_.iG d13
  ·exact(x3.trans R).new (f13 (·=b) rfl) λy hy e=>by have:=f1.size;omega
 have ra3d:=ra3.drew;simp -zeta only[abY,adB,fZ,gI,gq,ra3d.cell];have hx:=Ext.drew w3;have l2:20<=l.length:=by omega
 clear h
 repeat' (first
  |(with_reducible refine And.intro ?_ ?_)
  |((with_reducible refine tC (X6 (hs3.ext hx) hl (by omega) (by omega) _ _) ?_);rintro _ W ⟨rfl,f⟩;replace hx:=hx.trans f;(try replace rc:=rc.ext f);(try simp -zeta only[sx,Ci,Cs,iE,iJ,aeA,abY,adB,(ra3.ext hx).cell]))
  |((with_reducible refine gu λc W rc ec _ f=> ?_);have hc:=hx.size;rw[<- ec] at hc;clear ec;replace hx:=hx.trans f;(try simp -zeta only[sx,Ci,Cs,iE,iJ,aeA,abY,adB,(ra3.ext hx).cell]))
  |((with_reducible refine gZ rc rfl rfl λW rc2 fc zc=> ?_);exact hJ _ W rc2 (hx.new (fc (·=_) rfl) λy hy e=>by omega) hc))
theorem byte_at {w:θ} {s:fU} {l:List UInt8} (h:h_ w s l) {i:Nat} (hi:i<l.length) {K:Addr->Prop} (hK:∀a,w.cell? (a)=some (.int .u8 (l[i].toNat:Int))->(a.block<w.heap.size)->K a):iF s 1 (i:Int) K:=by
 have hsl:=h.1;obtain⟨a,ha,hc⟩:=h.at_ (abe hi);exact⟨a,ha,by omega,by omega,hK _ (by rw[Η,ahy];exact hc) (by rw[Η,ahy];exact cell_lt hc)⟩
theorem low4 (x:UInt8):ο.wrap ((ο.wrap (kT .u8 (x.toNat:Int) 15)) * 4)=((x.toNat % 16 * 4:Nat):Int):=by
 have h:=x.toNat_lt;have:=ahF (a:=x.toNat) (b:=15) (by omega) (by omega);rw[show (15:Nat)=2^4 - 1 by decide,I_] at this;rw[show (((2^4 - 1:Nat):Nat):Int)=15 from rfl] at this;rw[this,Α (n:=((x.toNat % 2^4:Nat):Int)) (by omega) (by omega),Α];omega
theorem QL {l:List UInt8} (h:0<l.length):hlen l=l[0].toNat % 16 * 4:=by
 unfold hlen;rw[abe h];rfl
theorem aft {l:List UInt8} (h:0<l.length):ver l=l[0].toNat / 16:=by
 unfold ver;rw[abe h];rfl
theorem agD {w:θ} {s:fU} {l:List UInt8} (hs:h_ w s l) (hl:l.length<=2^46) (q:Bool):
  Ot s q w λb h z e w'=>e=mF l q/\Ext w w'/\(e=0->b=s/\h=(hlen l:Int)/\z=(num l 2 2:Int)):=by
 apply aaR;have hsl:=hs.1;refine gu λa w1 r1 e1 z1 f1=> ?_;by_cases c1:l.length<20
 ·have c1':((s.len:Int)<20):=by omega
  simp only[c1',aaA,Δ];refine gZ r1 rfl rfl λw2 r2 f2 _=> ?_;simp only[sx,iE,iJ,abY,adB,r2.cell];exact⟨by simp[mF,c1],f1.new (f2 (·=a) rfl) λy hy e=>by omega,λh=>by cases h⟩
 have c1':¬((s.len:Int)<20):=by omega
 simp only[c1',aaV,Β];have hs1:=hs.ext f1;refine byte_at (i:=0) hs1 (by omega) λa0 hc0 hb0=> ?_;simp -zeta only[sx,iE,iJ,hc0,low4,<- QL (show 0<l.length by omega)];refine Gu rfl rfl λb w2 r2 e2 z2 f2=> ?_;simp -zeta only[sx,iE,iJ,abY,adB,r2.cell];refine tC (X6 (hs1.ext f2) hl (by omega) (by omega) _ _) ?_;rintro _ w3 ⟨rfl,f3⟩;refine gX (r2.ext f3) rfl (by simp) λw4 r4 f4 z4=> ?_;have hsz3:=f3.size;have x4:Ext w1 w4:=(f2.trans f3).new (f4 (·=b) rfl) λy hy e=>by omega
 have x5:Ext w w4:=f1.trans x4;have ra:=r1.ext x4;simp only[agE,aho,show (Int.toNat 2)=2 from rfl] at r4;have hs4:=hs1.ext x4;have hlt16:hlen l<=60:=by rw[QL (show 0<l.length by omega)];omega
 have fin:∀(e:Int) W,Ext w4 W->e=mF l q->e≠0->ig [(Value.slice none 0 0),(Value.int .i64 0),(Value.int .i64 0)] W ⟨a,0,none⟩ 0 λI=>
   YX .slice (I.cell? ⟨a,0,none⟩) λN=>YX ν (I.cell? ⟨a,1,none⟩) λO=>YX ν (I.cell? ⟨a,2,none⟩) λR=>(e=mF l q/\Ext w I/\(e=0->N=s/\O=(hlen l:Int)/\R=(num l 2 2:Int))):=by
  intro e W hx he U;refine gZ (ra.ext hx) rfl rfl λI J f28 _=> ?_;simp only[abY,adB,fZ,gI,gq,J.cell];exact⟨he,(x5.trans hx).new (f28 (·=a) rfl) λy hy e=>by omega,λh=>absurd h U⟩
 refine byte_at (i:=0) hs4 (by omega) λa1 hc1 _=> ?_;have ev:(jy .u8 (l[0].toNat:Int) 4 !=4)=decide (ver l≠4):=by
  rw[aft (show 0<l.length by omega)];have:=air (a:=l[0].toNat) (k:=4) (by omega);rw[show ((4:Nat):Int)=4 from rfl,show (2:Nat)^4=16 by decide] at this;rw[this];generalize l[0].toNat / 16=q;by_cases h:q=4
  ·subst h;rfl
  ·simp[h];omega
 simp only[abY,adB,fZ,gI,gq,hc1,r4.cell,ev];refine⟨by omega,?_⟩;by_cases v:ver l≠4
 ·simp only[v,ne_eq,alq,aaA,Δ];exact fin 4 w4 (Ext.refl _) (by simp only[mF];rw[Ε (by omega),Ζ (.inl v)]) (by omega)
 simp only[v,aaV,Β];by_cases Z:hlen l<20
 ·have u:((hlen l:Int)<20):=by omega
  simp only[u,aaA,Δ];exact fin 4 w4 (Ext.refl _) (by simp only[mF];rw[Ε (by omega),Ζ (.inr Z)]) (by omega)
 have u:¬((hlen l:Int)<20):=by omega
 have o1:mF l q=if l.length<hlen l\/(l.length<num l 2 2/\q=false) then 3 else if num l 2 2<hlen l\/32768<=num l 6 2 then 4 else 0:=by
  simp only[mF];rw[Ε (by omega),Ε (by rintro(h|h);exact v h;omega)]
 simp only[u,aaV,Β];by_cases c3:l.length<hlen l
 ·have c3':((hlen l:Int)>(s.len:Int)):=by omega
  simp only[c3',aaA,Δ];exact fin 3 w4 (Ext.refl _) (by rw[o1,Ζ (.inl c3)]) (by omega)
 have c3':¬((hlen l:Int)>(s.len:Int)):=by omega
 simp only[c3',aaV,Β];by_cases c4:l.length<num l 2 2/\q=false
 ·have c4':((num l 2 2:Int)>(s.len:Int)):=by omega
  simp only[c4',aaA,c4.2,aek,Δ];have:=fin 3 w4 (Ext.refl _) (by rw[o1,Ζ (.inr c4)]) (by omega);rw[c4.2] at this;exact this
 have cont:∀X Y:Prop,(bif decide ((num l 2 2:Int)>(s.len:Int)) then (bif !q then X else Y) else Y)=Y:=by
  intro X Y;by_cases c4':((num l 2 2:Int)>(s.len:Int))
  ·cases q with
   |true=>simp
   |false=>exact absurd ⟨by omega,rfl⟩ c4
  ·simp only[c4',aaV,Β]
 rw[Ε (by rintro(h|h);exact c3 h;exact c4 h)] at o1;simp only[cont];by_cases c5:num l 2 2<hlen l
 ·have c5':((num l 2 2:Int)<(hlen l:Int)):=by omega
  simp only[c5',aaA,Δ];exact fin 4 w4 (Ext.refl _) (by rw[o1,Ζ (.inl c5)]) (by omega)
 have c5':¬((num l 2 2:Int)<(hlen l:Int)):=by omega
 simp only[c5',aaV,Β];refine tC (X6 hs4 hl (by omega) (by omega) _ _) ?_;rintro _ w5 ⟨rfl,f5⟩;have n6:=E_ l 6;have eb:(kT .i64 ((num l (Int.toNat 6) (Int.toNat 2):Nat):Int) 32768 !=0)=decide (32768<=num l 6 2):=by
  have:=aac (n:=num l 6 2) (k:=15) (by omega) (by omega);rw[show (((2^15:Nat):Nat):Int)=32768 from rfl] at this;rw[show (Int.toNat 6)=6 from rfl,show (Int.toNat 2)=2 from rfl,this];by_cases h:32768<=num l 6 2
  ·simp only[h,aaA,beq_iff_eq];omega
  ·simp only[h,aaV,akJ,ne_eq];omega
 have r5:=r4.ext f5;simp only[abY,adB,fZ,gI,gq,eb,r5.cell];by_cases c6:32768<=num l 6 2
 ·simp only[c6,aaA,Δ];exact fin 4 w5 f5 (by rw[o1,Ζ (.inr c6)]) (by omega)
 simp only[c6,aaV,Β];refine gZ (ra.ext f5) rfl rfl λI J f28 _=> ?_;simp only[sx,iE,iJ,aeA,abY,adB,fZ,gI,gq,J.cell];exact⟨by rw[o1,Ε (by omega)],(x5.trans f5).new (f28 (·=a) rfl) λy hy e=>by omega,λ_=>by trivial⟩
theorem WB {l:List UInt8} {q:Bool} (h:mF l q=0):20<=hlen l/\hlen l<=l.length/\hlen l<=num l 2 2/\20<=l.length:=by
 unfold mF at h;split at h
 ·omega
 split at h
 ·omega
 split at h
 ·omega
 split at h
 ·omega
 omega
theorem WX (w:θ):ϭ w kZ.zero 0 0 0 0 0 0 0 false false ⟨none,0,0⟩ ⟨none,0,0⟩:=⟨rfl,rfl,rfl,rfl,rfl,rfl,rfl,rfl,rfl,h_.nil,h_.nil⟩
end Go.Proofs.VN
end
section
namespace Go.Proofs.VN
open Gp Gp.V4
theorem Jk (a b:Int):(a==b)=decide (a=b):=rfl
theorem ac6 {w:θ} {s:fU} {l:List UInt8} (hs:h_ w s l) (hl:l.length<=2^40):
  Hg s w λt i o l' p s' d df mf op da e w'=>e=qL l true/\ϭ w' (V4.read l true) t i o l' p s' d df mf op da/\Ext w w':=by
 apply Yx;have hsl:=hs.1;refine gu λa w1 r1 e1 z1 f1=> ?_;refine cmS18 (agD (hs.ext f1) (by omega) true) ?_;rintro b h z e w2 ⟨rfl,f2,h2⟩;refine Gu rfl rfl λc w3 r3 e3 z3 f3=> ?_;have x3:=f2.trans f3;have ra:=r1.ext x3;have hsz3:=x3.size;by_cases ho:mF l true=0
 ·obtain⟨rfl,rfl,rfl⟩:=h2 ho;have hz:=WB ho;simp only[sx,iE,iJ,r3.cell,ho,show ((0:Int) !=0)=false from rfl];refine cmS12 (O9 ((hs.ext f1).ext x3) (by omega) hz.1 hz.2.1 hz.2.2.1) ?_;rintro _ _ _ _ _ _ _ _ _ op da w6 ⟨⟨rfl,rfl,rfl,rfl,rfl,rfl,rfl,rfl,rfl,hop,u⟩,no,nd,f6⟩;refine gZ (ra.ext f6) rfl rfl λw9 r9 f9 _=> ?_;simp only[d_,fZ,gI,gq,jK,r9.cell];have rd0:qL l true=0:=by unfold qL;rw[ho];simp
  refine⟨by rw[rd0],?_,((f1.trans x3).trans f6).new (f9 (·=a) rfl) λy hy e=>by omega⟩;unfold V4.read;rw[Ζ rd0];refine⟨rfl,rfl,rfl,rfl,rfl,rfl,rfl,rfl,rfl,?_,?_⟩
  ·exact h_.fr hop (f9 (·=a) rfl) λx hx _ e=>by have:=no x hx;omega
  ·exact h_.fr u (f9 (·=a) rfl) λx hx _ e=>by have:=nd x hx;omega
 ·have ho':(mF l true !=0)=true:=by simpa using ho
  simp only[sx,iE,iJ,ho'];refine gZ ra rfl rfl λw9 r9 f9 _=> ?_;simp only[d_,fZ,gI,gq,jK,r9.cell];have rd0:qL l true=mF l true:=by unfold qL;rw[Ζ ho]
  refine⟨by rw[rd0],?_,(f1.trans x3).new (f9 (·=a) rfl) λy hy e=>by omega⟩;unfold V4.read;rw[rd0,Ε ho];exact WX _
theorem UA {n:Nat}:IntKind.u8.wrap (n:Int)=((UInt8.ofNat n).toNat:Int):=by
 rw[IntKind.wrap_u8];simp
end Go.Proofs.VN
end
section
namespace Gp.V4
def aeH (a:Int):Prop:=16777216<=a/\a<3758096384/\a / 16777216≠127
instance (a:Int):Decidable (aeH a):=inferInstanceAs (Decidable (_/\_))
def ahR (k:Int):Prop:=(3<=k/\k<=5)\/k=11\/k=12
instance (a:Int):Decidable (ahR a):=inferInstanceAs (Decidable (_\/_))
theorem aeH.right {a:Int} (h:aeH a):kG a:=⟨by have:=h.1;omega,by have:=h.2.1;omega⟩
structure Qc where
 kind:Int
 code:Int
 rest:Int
 data:List UInt8
def Qc.fine (m:Qc):Prop:=iZ m.kind 1/\iZ m.code 1/\iZ m.rest 4
instance (m:Qc):Decidable m.fine:=inferInstanceAs (Decidable (_/\_))
def Qc.check (m:Qc):Int:=if m.fine then if m.data.length<=65527 then 0 else 6 else 1
def Qc.body (m:Qc) (s:Nat):List UInt8:=jX 1 m.kind.toNat++jX 1 m.code.toNat++jX 2 s++jX 4 m.rest.toNat++m.data
def Qc.sum (m:Qc):Nat:=65535 - fold (tot (m.body 0))
def Qc.bytes (m:Qc):List UInt8:=m.body m.sum
theorem adZ (m:Qc) (s:Nat):(m.body s).length=8+m.data.length:=by
 simp only[Qc.body,adH,iQ]
theorem abj (m:Qc) (s:Nat):m.body s=UInt8.ofNat m.kind.toNat::UInt8.ofNat m.code.toNat::UInt8.ofNat (s / 256)::UInt8.ofNat s::
  UInt8.ofNat (m.rest.toNat / 16777216)::UInt8.ofNat (m.rest.toNat / 65536)::UInt8.ofNat (m.rest.toNat / 256)::UInt8.ofNat m.rest.toNat::m.data:=by
 simp[Qc.body,jX]
theorem ZK {m:Qc} (h:m.check=0):m.fine/\m.data.length<=65527:=by
 unfold Qc.check at h;split at h
 ·split at h
  ·exact⟨by assumption,by assumption⟩
  ·omega
 ·omega
def kZ.size (p:kZ):Nat:=20+p.opts.length+p.data.length
theorem Sj {l:List UInt8} (h:mF l true=0):20<=(field l).size/\(field l).size<=l.length:=by
 unfold mF at h;split at h
 ·omega
 split at h
 ·omega
 split at h
 ·omega
 split at h
 ·omega
 simp only[kZ.size,field,aj0,ahP];omega
end Gp.V4
end
section
namespace Go.Proofs.VN
open Gp Gp.V4
theorem acI {w:θ} {b:Nat} {l:List Int} {vs:List Value} (h:Row w b vs) (hv:vs=l.map λn=>Value.int .i64 n) (n c:Nat) (hn:n=l.length) (hl:l.length<=100) (x:Int):mP ⟨some ⟨b,0,none⟩,n,c⟩ x w λr w'=>(r>=0↔x∈l)/\w'=w:=by
 subst hv hn;apply vJ;refine gK (λst W=>W=w/\∃i:Nat,i<=l.length/\st.1=(i:Int)/\x∉l.take i) (λst _=>l.length - st.1.toNat) ⟨rfl,0,by omega,rfl,by simp⟩ ?_;rintro⟨y,⟨⟩⟩ W ⟨rfl,i,hi,rfl,hp⟩ next I
 by_cases J:i<l.length
 ·have u:((i:Int)<(l.length:Int)):=by omega
  simp only[sx,iE,iJ,u,aaA,h.cell,Η,ahy,aiF,abe J,aik];refine⟨by omega,by trivial,?_⟩;by_cases hx:x=l[i]
  ·simp only[Jk,hx,aaA,Δ];exact⟨⟨λ_=>ajm J,λ_=>by omega⟩,by trivial⟩
  ·simp only[Jk,hx,aaV,Β];rw[Α];refine I _ _ ⟨rfl,i+1,by omega,by simp,?_⟩ (by simp only;omega);rw[ajM J,ajk];rintro(h|h)
   ·exact hp h
   ·simp only[aiB] at h;exact hx h
 ·have u:¬((i:Int)<(l.length:Int)):=by omega
  simp only[u,aaV,Β];have:i=l.length:=by omega
  subst this;rw[ajU] at hp;exact⟨⟨λh=>by omega,λh=>absurd h hp⟩,by trivial⟩
theorem Xr {w:θ} {b:Nat} {l:List Int} {vs:List Value} (h:Row w b vs) (hv:vs=l.map λn=>Value.int .i64 n) (n c:Nat) (hn:n=l.length) (hl:l.length<=100) (x:Int):iR ⟨some ⟨b,0,none⟩,n,c⟩ x w λr w'=>r=decide (x∈l)/\w'=w:=by
 apply sJ;refine cmS1 (acI h hv n c hn hl x) ?_;rintro r w' ⟨hr,hw⟩;exact⟨akq.2 hr,hw⟩
theorem acT {w:θ} (m:Qc) {d:fU} (hd:d.len=m.data.length):Ew m.kind m.code m.rest d w λr w'=>r=m.check/\Ext w w':=by
 apply U9;refine gu λa w1 r1 e1 z1 f1=> ?_;intro J;have hJ:∀b,b=(!decide m.fine)->J b w1:=by
  rintro b rfl;simp only[sx,iE,iJ,J,abY,adB,r1.cell];by_cases hf:m.fine
  ·by_cases hs:m.data.length<=65527
   ·have:¬((d.len:Int)>65527):=by omega
    simp only[hf,this,aaA,aaV,ab6,Β];exact⟨by simp[Qc.check,hf,hs],f1⟩
   ·have:((d.len:Int)>65527):=by omega
    simp only[hf,this,aaA,ab6,Β,Δ];exact⟨by simp[Qc.check,hf,hs],f1⟩
  ·simp only[hf,aaV,aek,Δ];exact⟨by simp[Qc.check,hf],f1⟩
 simp -zeta only[sx,iE,iJ,abY,r1.cell];refine cmS0 (rE _ _ _) ?_;rintro _ w2 ⟨rfl,hw⟩;subst hw;by_cases c1:iZ m.kind 1
 ·simp -zeta only[c1,aaA,ab6,Β,abY,adB,fZ,gq,r1.cell];refine cmS0 (rE _ _ _) ?_;rintro _ w2 ⟨rfl,hw⟩;subst hw;by_cases c2:iZ m.code 1
  ·simp -zeta only[c2,aaA,ab6,Β,abY,adB,fZ,gq,r1.cell];refine cmS0 (rE _ _ _) ?_;rintro _ w2 ⟨rfl,hw⟩;subst hw;exact hJ _ (congrArg (!·) (akq.2 ⟨λh=>⟨c1,c2,h⟩,λh=>h.2.2⟩))
  ·simp -zeta only[c2,aaV,aek,Δ];exact hJ _ (by rw[abW λh:m.fine=>c2 h.2.1];rfl)
 ·simp -zeta only[c1,aaV,aek,Δ];exact hJ _ (by rw[abW λh:m.fine=>c1 h.1];rfl)
def agq (m:Qc) (w w':θ) (r:fU) (e:Int):Prop:=
 e=m.check/\(m.check=0->h_ w' r m.bytes)/\Ext w w'/\(∀b,fU.at r b->w.heap.size<=b)/\(∀a,r.a=some a->fU.at r a.block)
theorem Wv {w:θ} (m:Qc) {d:fU} (hd:h_ w d m.data):zu m.kind m.code m.rest d w λr e w'=>agq m w w' r e:=by
 apply U8;refine gu λa w1 r1 e1 z1 f1=> ?_;simp only[sx,iE,iJ,abY,adB,r1.cell];refine cmS1 (acT m (d:=d) hd.1) ?_;rintro _ w2 ⟨rfl,f2⟩;have r2:=r1.ext f2;by_cases hc:m.check=0
 ·obtain⟨⟨g1,g2,g3⟩,hs⟩:=ZK hc;have g1':=PK g1;have g2':=PK g2;simp only[hc,show ((0:Int) !=0)=false from rfl,Β,abY,adB,fZ,gq,r2.cell];refine gu λb w3 r3 e3 z3 f3=> ?_;have rr:=r2.ext f3;simp only[abY,adB,fZ,gq,rr.cell];obtain⟨t,ht⟩:∃t:Nat,m.kind=(t:Int):=⟨m.kind.toNat,by omega⟩;obtain⟨u,hu⟩:∃u:Nat,m.code=(u:Int):=⟨m.code.toNat,by omega⟩;rw[ht,hu,UA,UA] at r3;have b3:h_ w3 ⟨some ⟨b,0,none⟩,4,4⟩ (jX 1 m.kind.toNat++jX 1 m.code.toNat++jX 2 0):=by
   refine h_.iG ?_;have:=h_.row (l:=jX 1 m.kind.toNat++jX 1 m.code.toNat++jX 2 0) (w:=w3) (b:=b) (by simpa [bytesV,jX,ht,hu] using r3);simpa [iQ] using this
  refine cmS2 (yT b3 (by simp[iQ]) m.rest 4) ?_;rintro t4 w4 ⟨b4,f4,n4⟩;have e4:j_ (jX 1 m.kind.toNat++jX 1 m.code.toNat++jX 2 0) m.rest 4=jX 1 m.kind.toNat++jX 1 m.code.toNat++jX 2 0++jX 4 m.rest.toNat:=by
   unfold j_;rw[Ζ g3];rfl
  rw[e4] at b4;have r4:=rr.ext f4;simp only[abY,adB,fZ,gI,r4.cell];have x4:Ext w w4:=((f1.trans f2).trans f3).trans f4;refine ji b4 (hd.ext x4) (by simp[iQ];omega) λt5 w5 b5 f5 n5 _=> ?_;have z3':=((f1.trans f2).trans f3).size;have z4:=x4.size;have x5:Ext w w5:=x4.new f5 λy hy h=>by have:=n4 y h;omega
  have b5:Buf w5 t5 (bytesV (m.body 0)):=b5;have l5:=adZ m 0;refine gu λc w6 r6 e6 z6 f6=> ?_;refine cmS1 (Ti (Ee r6 (h_.iG (b5.ext f6))) (by simp) (by intro q hq;simp only[aiB] at hq;subst hq;simp only;omega)) ?_;rintro _ w7 ⟨rfl,f7⟩;rw[Oa];have e8:65535 - fold (tot (m.body 0))=m.sum:=rfl;rw[e8];have hsl:m.sum<65536:=by unfold Qc.sum;omega
  have x7:=x5.trans (f6.trans f7);have z7:=x7.size;refine cmS7 (Ur (h_.iG ((b5.ext f6).ext f7)) (by omega) 2 (m.sum:Int) 2) ?_;rintro s9 e9 w9 ⟨hr9,f9,n9⟩;obtain⟨rfl,b9⟩:=QW ⟨⟨by omega,by omega⟩,by omega,by simp;omega⟩ (by omega) (by omega) hr9;refine⟨hc.symm,λ_=> ?_,x7.trans f9,λy hy=>by have:=n9 y hy;omega,λa ha=>b9.at_eq ha⟩;have eb:(m.body 0).take 2++jX 2 m.sum++(m.body 0).drop 4=m.bytes:=by
   unfold Qc.bytes;rw[abj,abj];simp[jX]
  have:=h_.iG b9;rw[show (2:Int).toNat=2 from rfl,Η,show (2+2:Nat)=4 from rfl,eb] at this;exact this
 ·have hc':(m.check !=0)=true:=by simpa using hc
  simp only[hc',Δ];exact⟨rfl,λh=>absurd h hc,f1.trans f2,(by rintro b ⟨o,h⟩;cases h),(by rintro a h;cases h)⟩
end Go.Proofs.VN
end
section
namespace Go.Proofs.AN
open Gp Gp.V4 Go.Proofs Go.Proofs.VN
open Gp.Bind (In64)
theorem abd {w:θ} {b:Nat} {l:List Value} {R:Prop} (h:Row w b l) (hR:R):∀(vs:List Value) (i:Nat),(∀(j:Nat) (v:Value),vs[j]? =some v->l[i+j]? =some v)->UK vs w ⟨b,0,none⟩ i R
 |[],_,_=>(iJ _ _ _ _).2 hR
 |v::vs,i,hv=>(iE _ _ _ _ _ _).2 ⟨by rw[gJ,ahA,h.cell];exact hv 0 v rfl,abd h hR vs (i+1) λj u hj=>by rw[show i+1+j=i+(j+1) by omega];exact hv (j+1) u hj⟩
theorem Gx {w:θ} {b:Nat} {l:List Value} {R:Prop} (h:Row w b l) (hR:R):UK l w ⟨b,0,none⟩ 0 R:=abd h hR l 0 λj v hj=>by rw[ahA];exact hj
theorem lK {W:θ} {a:Nat} {x0 x1 x2 x3 x4 x5 x6:Int} {x7 x8:Bool} {x9 h:fU} {Q:Int->Int->Int->Int->Int->Int->Int->Bool->Bool->fU->fU->Prop} (hr:Row W a (gQ x0 x1 x2 x3 x4 x5 x6 x7 x8 x9 h)) (hq:Q x0 x1 x2 x3 x4 x5 x6 x7 x8 x9 h):iC W ⟨a,0,none⟩ Q:=by
 simp only[sx,hr.cell];exact hq
theorem Pe {W:θ} {a:Nat} {s0:fU} {x0 x1 x2 x3 x4 x5 x6 h:Int} {x7 x8:Bool} {x9 u:fU} {Q:fU->Int->Int->Int->Int->Int->Int->Int->Bool->Bool->fU->fU->Int->Prop} (hr:Row W a (nM s0 x0 x1 x2 x3 x4 x5 x6 x7 x8 x9 u h)) (hq:Q s0 x0 x1 x2 x3 x4 x5 x6 x7 x8 x9 u h):tX W ⟨a,0,none⟩ Q:=by
 simp only[sx,hr.cell];exact hq
theorem aif {l:List UInt8} (h:mF l false=0):mF l true=0:=by
 unfold mF at h ⊢;split at h
 ·simp at h
 rename_i h1;rw[Ε h1];split at h
 ·simp at h
 rename_i h2;rw[Ε h2];split at h
 ·simp at h
 rename_i h3;rw[Ε (by intro hh;rcases hh with hh|hh;exact h3 (.inl hh);exact absurd hh.2 (by simp))];exact h
theorem ϊ (l:List UInt8) (q:Bool):(V4.read l q).opts.length<=l.length/\(V4.read l q).data.length<=l.length:=by
 unfold V4.read;split
 ·rename_i h;have ho:mF l true=0:=by
   unfold qL at h;by_cases h0:mF l q=0
   ·cases q
    ·exact aif h0
    ·exact h0
   ·rw[Ζ h0] at h;exact absurd h h0
  have:=(Sj ho).2;unfold kZ.size at this;omega
 ·simp[kZ.zero]
theorem yj (l:List UInt8) (n:Int) (k:Nat):(j_ l n (k:Int)).length<=l.length+k:=by
 unfold j_;split
 ·rw[adH,iQ];simp
 ·omega
end Go.Proofs.AN
end
section
namespace Go.Proofs.AN
open Gp Gp.V4 Go.Proofs Go.Proofs.VN
section
variable {w0 w w':θ}
theorem YZ {W:θ} {a:Nat} {x0 x1 x2:Int} {x3:fU} {K:Int->Int->Int->fU->b_} (hr:Row W a [.int .i64 x0,.int .i64 x1,.int .i64 x2,.slice x3.a x3.len x3.cap]) (hq:K x0 x1 x2 x3 W):
  Ld ν W (Addr.add ⟨a,0,none⟩ 0) λy0=>Ld ν W (Addr.add ⟨a,0,none⟩ 1) λy1=>Ld ν W (Addr.add ⟨a,0,none⟩ 2) λy2=>Ld .slice W (Addr.add ⟨a,0,none⟩ 3) λy3=>K y0 y1 y2 y3 W:=
 Ld_i 0 x0 hr (Ld_i 1 x1 hr (Ld_i 2 x2 hr (Ld_s 3 x3 hr hq)))
theorem six {W:θ} {s:fU} {l:List UInt8} (hs:h_ W s l) {i:Nat} {u:UInt8} (hi:l[i]? =some u) {K:Addr->Prop} (hK:∀a,W.cell? a=some (.int .u8 u.toNat)->K a):iF s 1 (i:Int) K:=by
 obtain⟨a,ha,hc⟩:=hs.at_ hi;refine⟨a,ha,by omega,by have:=hs.1;have:=(ady.1 hi).1;omega,?_⟩;rw[Η,ahy];exact hK _ hc
theorem ahH {W:θ} {s:fU} {vs:List Value} (h:Buf W s vs) {ad:Addr} (ha:s.a=some ad):fU.at s ad.block:=by
 obtain⟨_,⟨hn,_⟩|⟨b,pad,hb,_⟩⟩:=h
 ·rw[hn] at ha;cases ha
 ·rw[hb] at ha;cases ha;exact⟨0,hb⟩
theorem ae2 (x:Int) {b:Nat} {l:List Int} (hr:Row w b (l.map λn=>Value.int .i64 n)) (hl:l.length<=100):Ez x ⟨some ⟨b,0,none⟩,l.length,l.length⟩ w λ_ w'=>w'=w:=by
 apply ZT;refine cmS0 (Xr hr rfl l.length l.length rfl hl x) ?_;rintro r w1 ⟨_,hw⟩;exact hw
theorem Υ (x:Int) (w:θ):zB x w λ_ w'=>Ext w w':=by
 apply Vb;refine gu λa w1 r1 e1 z1 f1=> ?_;refine cmS0 (ae2 x (l:=[0,8]) r1 (by simp)) ?_;rintro r w2 rfl;exact f1
theorem acB (x:Int) (w:θ):Ey x w λ_ w'=>Ext w w':=by
 apply U_;refine gu λa w1 r1 e1 z1 f1=> ?_;refine cmS0 (ae2 x (l:=[3,4,5,11,12]) r1 (by simp)) ?_;rintro r w2 rfl;exact f1
theorem SE {s:fU} {l:List UInt8} (hs:h_ w s l) (hl:l.length<=2^40) {K:Int->Int->Int->fU->Int->b_}
  (hK:∀k c r d e w' (m:List UInt8),Ext w w'->h_ w' d m->m.length<=2^40->K k c r d e w'):zA s w K:=by
 apply Va;refine gu λa w1 r1 e1 z1 f1=> ?_;have hlen:=hs.1;have fin:∀(W:θ) k c r (d:fU) e (m:List UInt8),Ext w1 W->h_ W d m->m.length<=2^40->(∀ad,d.a=some ad->0<m.length->¬ad.block=a)->
   ig [.int .i64 k,.int .i64 c,.int .i64 r,.slice d.a d.len d.cap] W ⟨a,0,none⟩ 0 λw4=>Ld ν w4 (Addr.add ⟨a,0,none⟩ 0) λy0=>Ld ν w4 (Addr.add ⟨a,0,none⟩ 1) λy1=>Ld ν w4 (Addr.add ⟨a,0,none⟩ 2) λy2=>Ld .slice w4 (Addr.add ⟨a,0,none⟩ 3) λy3=>K y0 y1 y2 y3 e w4:=by
  intro W k c r d e m hW hd hm hn;refine StN_f (r1.ext hW) λw4 r4 f4 z4=> ?_;refine YZ (K:=λy0 y1 y2 y3 w=>K y0 y1 y2 y3 e w) r4 ?_;exact hK k c r d e w4 m ((f1.trans hW).nw f4) (hd.fr f4 λad ha h0 e=>hn ad ha h0 e) hm
 by_cases c1:(s.len:Int)<8
 ·rw[ab9 c1,Δ];exact fin w1 0 0 0 ⟨none,0,0⟩ 3 [] (Ext.refl _) h_.nil (by simp) (by intro ad h;cases h)
 rw[abW c1,Β];by_cases c2:(s.len:Int)>65535
 ·rw[ab9 c2,Δ];exact fin w1 0 0 0 ⟨none,0,0⟩ 6 [] (Ext.refl _) h_.nil (by simp) (by intro ad h;cases h)
 rw[abW c2,Β];refine gu λb w2 r2 e2 z2 f2=> ?_;have hs2:=(hs.ext f1).ext f2;refine cmS0 (Po (Ee r2 hs2) (by simp) (by simp;omega)) ?_;rintro rt w3 ⟨_,f3⟩;have x3:=f2.trans f3
 cases rt
 ·exact fin w3 0 0 0 ⟨none,0,0⟩ 5 [] x3 h_.nil (by simp) (by intro ad h;cases h)
 rw[ab6,Β];have hs3:=hs2.ext f3;refine cmS8 (OC hs3 (by omega) 4 4) ?_;rintro n e w4 ⟨hw,_⟩;subst hw;have u:=hs3.ext (Ext.drew w4);have b0:=abe (show 0<l.length by omega);have b1:=abe (show 1<l.length by omega);generalize l[0]=u0 at b0;generalize l[1]=u1 at b1;refine six (i:=0) u b0 λa0 h0=> ?_;refine iU (k:= .int .u8) (y:=(u0.toNat:Int)) h0 ?_;refine six (i:=1) u b1 λa1 h1=> ?_;refine iU (k:= .int .u8) (y:=(u1.toNat:Int)) h1 ?_;refine lF u (by omega) (by omega) (by omega) λs' hs' _=> ?_;refine cmS2 (nD hs' (by simp;omega)) ?_;rintro cd w5 ⟨b5,_,f5,n5⟩;refine⟨og h1 f5,og h0 f5,?_⟩;refine fin w5 _ _ _ cd 0 _ ((x3.trans (Ext.drew w4)).trans f5) (h_.iG b5) (by simp;omega) λad ha h0' e=> ?_;have:=n5 ad.block (ahH b5 ha);have:=r1.lt;have:=x3.size;have:w4.drew.heap.size=w4.heap.size:=rfl;omega
end
end Go.Proofs.AN
end
