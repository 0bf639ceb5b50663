import Derived.Test.YtnemccmcpllhcaaGreatDoorW12
import Derived.Test.YtnemccmcpllhcaaGreatDoorW16
import Derived.Test.YtnemccmcpllhcaaGreatDoorW15
import Derived.Test.YtnemccmcpllhcaaGreatDoorW5
import Derived.Test.YtnemccmcpllhcaaGreatDoorW11
import Derived.Test.YtnemccmcpllhcaaGreatDoorW3
import Derived.Test.YtnemccmcpllhcaaGreatDoorRows
import GoSem.ClaimGoes
import Derived.KernelRfl
set_option maxRecDepth 100000
set_option maxHeartbeats 4000000
section
namespace Go.Proofs.EN
open Gp Go.Proofs Go.Proofs.CN
open Gp.Bind (Bnd Slots live GoodB freeN getS In64)
def toB (x:T7):Bnd:=⟨x.1,x.2.1,x.2.2.1,x.2.2.2.1,x.2.2.2.2.1,x.2.2.2.2.2.1,x.2.2.2.2.2.2.1,true⟩
inductive Maps (c:Cf) (e0:ES):List Bnd->ES->Prop
 |nil:Maps c e0 [] e0
 |no {l:List Bnd} {e:ES} {b:Bnd}:Maps c e0 l e->Inv c e->GoodB e.S e.Mi e.Mo->XY c e b≠0->Maps c e0 (l++[b]) e
 |yes {l:List Bnd} {e:ES} {b:Bnd} {i:Nat} {Mi Mo:ByteArray->Option Int} {Q:List Int} {G:List (PN.O3×Unit)}:Maps c e0 l e->Inv c e->GoodB e.S e.Mi e.Mo->XY c e b=0->freeN e.S=some i->Maps c e0 (l++[b]) {e with S:=e.S.set i (some b),Mi:=Mi,Mo:=Mo,Q:=Q,G:=G}
theorem sD:∀(k j:Nat),live j (List.replicate k none)=[]
 |0,_=>rfl
 |k+1,j=>by rw[aki,live];exact sD k _
theorem Js:∀(k j:Nat),Gp.Ses.live j (List.replicate k none)=[]
 |0,_=>rfl
 |k+1,j=>by rw[aki,Gp.Ses.live];exact Js k _
def e0 (n nb ns:Nat):ES:=⟨0,List.replicate nb none,λ_=>none,λ_=>none,List.replicate n 0,[],List.replicate ns none,λ_=>none,[],0,0,λ_ _=>[]⟩
theorem agz {ls lp lt n18 n19 n20 n21 n22 n23 n24 n25 n26 n27 n28 n29 n30 n31 n32 n33 n34:Int} {p:T16} {n:Nat} {sl:List T16} {pl:List Int} {tl:List T7} (h:OkP p ls lp lt n18 n19 n20 n21 n22 n23 n24 n25 n26 n27 n28 n29 n30 n31 n32 n33 n34 n sl pl tl):
  (1<=ls/\ls<=64)/\(1<=lp/\lp<=16)/\(0<=lt/\lt<=64)/\(1<=n18/\n18<=65535)/\(n18<=n19/\n19<=65535)/\(1<=n20/\n20<=4096)/\(1<=n21/\n21<=4096)/\(1<=n22/\n22<=4096):=by
 have b:=h.nums;simp only[Zh,afm,ajp,ajV,forall_eq_or_imp,forall_eq,okB] at b;obtain⟨b1,b2,b3,b4,b5,b6,b7,b8,_⟩:=b;refine⟨b1,b2,⟨b3.1,?_⟩,b4,b5,b6,b7,b8⟩;have:=b3.2;split at this<;>omega
theorem Ui {p:T16} {n:Nat} {sl:List T16} {pl:List Int} {tl:List T7} (h:xA p n sl pl tl=true):∀x∈pl,mD x:=by
 intro x hx;unfold xA at h;simp only[ajq,akm,akN] at h;have:=h.2.2.1 x hx;simpa using this
theorem abD {w:θ} {p0 p1 p2 p3 p4 p5 p6 p7 p8 p9 p10 p11 p12 p13 p14 p15:Int} {sw po:fU} {n18 n19 n20 n21 n22 n23 n24 n25 n26 n27 n28 n29 n30 n31 n32 n33 n34:Int} {st:fU} {sl:List T16} {pl:List Int} {tl:List T7} (aw:lD 16 e16 w sw sl) (ag:lD 1 eI w po pl) (ah:lD 7 e7 w st tl) (lsw:sw.len<=2^40) (lpo:po.len<=2^40) (lst:st.len<=2^40)
  {K:fO->Int->b_}
  (ai:∀r w',Ext w w'->r≠0->chk (p0,p1,p2,p3,p4,p5,p6,p7,p8,p9,p10,p11,p12,p13,p14,p15,()) sw.len po.len st.len n18 n19 n20 n21 n22 n23 n24 n25 n26 n27 n28 n29 n30 n31 n32 n33 n34 sw.len sl pl tl r->K none r w')
  (ax:OkP (p0,p1,p2,p3,p4,p5,p6,p7,p8,p9,p10,p11,p12,p13,p14,p15,()) sw.len po.len st.len n18 n19 n20 n21 n22 n23 n24 n25 n26 n27 n28 n29 n30 n31 n32 n33 n34 sw.len sl pl tl->fineP (p0,p1,p2,p3,p4,p5,p6,p7,p8,p9,p10,p11,p12,p13,p14,p15,()) sl pl tl sw.len n20->
   ∀w' a e,Ext w w'->nK w' a ⟨jo p0 p1 p2 p3 p4 p5 p6 p7 p8 p9 p10 p11 p12 p13 p14 p15 sw po n18 n19 n20 n21 n22 n23 n24 n25 n26 n27 n28 n29 n30 n31 n32 n33 n34 st,sw,pl,n18,n19,n20,n21,n22⟩ e->Inv ⟨jo p0 p1 p2 p3 p4 p5 p6 p7 p8 p9 p10 p11 p12 p13 p14 p15 sw po n18 n19 n20 n21 n22 n23 n24 n25 n26 n27 n28 n29 n30 n31 n32 n33 n34 st,sw,pl,n18,n19,n20,n21,n22⟩ e->NoS e->Maps ⟨jo p0 p1 p2 p3 p4 p5 p6 p7 p8 p9 p10 p11 p12 p13 p14 p15 sw po n18 n19 n20 n21 n22 n23 n24 n25 n26 n27 n28 n29 n30 n31 n32 n33 n34 st,sw,pl,n18,n19,n20,n21,n22⟩ (e0 sw.len n21.toNat n22.toNat) (tl.map toB) e->(∀k b,own a k b->w.heap.size<=b)->K (some ⟨a.x,0,none⟩) 0 w'):
  EC p0 p1 p2 p3 p4 p5 p6 p7 p8 p9 p10 p11 p12 p13 p14 p15 sw po n18 n19 n20 n21 n22 n23 n24 n25 n26 n27 n28 n29 n30 n31 n32 n33 n34 st w K:=by
 apply ZU;refine gu λa w1 r1 e1 z1 f1=> ?_;have rd:∀W (Q:_),Row W a (jo p0 p1 p2 p3 p4 p5 p6 p7 p8 p9 p10 p11 p12 p13 p14 p15 sw po n18 n19 n20 n21 n22 n23 n24 n25 n26 n27 n28 n29 n30 n31 n32 n33 n34 st)->Q p0 p1 p2 p3 p4 p5 p6 p7 p8 p9 p10 p11 p12 p13 p14 p15 sw po n18 n19 n20 n21 n22 n23 n24 n25 n26 n27 n28 n29 n30 n31 n32 n33 n34 st->rO W ⟨a,0,none⟩ Q:=by
  intro W Q hr hq;simp only[sx,hr.cell];exact hq
 refine rd _ _ r1 ?_;refine cmS1 (MO (aw.ext f1) (ag.ext f1) (ah.ext f1) lsw lpo lst) ?_;rintro r w2 ⟨hc,f2⟩;have x2:=f1.trans f2;by_cases hr:r=0;rotate_left
 ·have:(r !=0)=true:=by rw[aj3];exact hr
  rw[this,Δ];exact ai r w2 x2 hr hc
 have:(r !=0)=false:=by rw[alH];exact hr
 rw[this,Β];subst hr;rcases hc with ⟨_,h⟩|⟨Z,⟨_,h⟩|⟨I,_⟩⟩
 ·cases h
 ·cases h
 have hK:=ax Z I;have hn:=agz Z;obtain⟨b1,b2,b3,b4,b5,b6,b7,b8⟩:=hn;have r2:=r1.ext f2;refine rd _ _ r2 ?_;refine gu λx w3 r3 e3 z3 f3=> ?_;have x3:=x2.trans f3;have r2:=r2.ext f3;refine Ld_s 17 po r2 (Ld_i 18 n18 r2 (Ld_i 19 n19 r2 ?_));have hpl:=(ag.ext x3).len;refine cmS6 (PN.aaI (ag.ext x3) (by omega) (by omega) I.2.1 (Ui Z.parts) (by omega) (by omega) (by omega)) ?_;rintro _ _ w4 ⟨rfl,f4,p,g,ps,rfl,hP,nP⟩;have lP:∀b,PN.fp p g ps b->b<w4.heap.size:=λb hb=>by
  rcases hb with h|h|h
  ·rw[h];exact hP.hd.lt
  ·rw[h];exact hP.gv.lt
  ·exact hP.ad.lt h
 have r2:=r2.ext f4;refine kF.2 (gX (i:=0) (r3.ext f4) rfl (by simp) λw5 r5 f5' z5=> ?_);have f5:gU w4 w5 (·=x):=f5' _ rfl;have zx:x<w3.heap.size/\a<x:=by have:=f2.size;omega
 have hP:=hP.fr f5 λb hb e=>by have:=nP b hb;omega
 have r2:=r2.fr f5 (by omega);refine Ld_s 16 sw r2 (Ld_i 20 n20 r2 ?_);refine cmS6 (QN.aaI (sw.len:Int) n20 w5) ?_;rintro q _ w6 ⟨f6,hq⟩;have f6:Ext w5 w6:=f6;rcases hq with ⟨N,rfl,qb,qs,rfl,nq1,nq2,hQ⟩|⟨O,_,_⟩;rotate_left
 ·exact absurd ⟨by omega,by omega,by omega,by omega⟩ O
 have lQ:qb<w6.heap.size/\qs<w6.heap.size:=⟨hQ.hd.lt,hQ.row.lt⟩;have hP:=hP.ext f6;have r2:=r2.ext f6;refine kF.2 (gX (i:=1) (r5.ext f6) rfl (by simp) λw7 r7 f7' z7=> ?_);have f7:gU w6 w7 (·=x):=f7' _ rfl;have s4:=f4.size;have s6:=f6.size;have hP:=hP.fr f7 λb hb e=>by have:=nP b hb;omega
 have hQ:=hQ.fr f7 (by omega) (by omega);have r2:=r2.fr f7 (by omega);refine Ld_i 21 n21 r2 ?_;refine cmS6 (afS n21 w7) ?_;rintro _ _ w8 ⟨f8,⟨O,_,_⟩|⟨_,_,rfl,B,rfl,nB,hB⟩⟩
 ·exact absurd ⟨by omega,by omega⟩ O
 have hP:=hP.ext f8;have hQ:=hQ.fr (f8 λ_=>False) (by simp) (by simp);have r2:=r2.ext f8;refine kF.2 (gX (i:=2) (r7.ext f8) rfl (by simp) λw9 r9 f9' z9=> ?_);have f9:gU w8 w9 (·=x):=f9' _ rfl;have s8:=f8.size;have hP:=hP.fr f9 λb hb e=>by have:=nP b hb;omega
 have hQ:=hQ.fr f9 (by omega) (by omega);have hB:=hB.fr f9 λb hb e=>by have:=(nB b hb).1;omega
 have r2:=r2.fr f9 (by omega);refine Ld_i 22 n22 r2 ?_;refine cmS6 (SN.agZ n22 w9) ?_;rintro _ _ ak ⟨f10,⟨O,_,_⟩|⟨_,_,rfl,T,rfl,nT,hT⟩⟩
 ·exact absurd ⟨by omega,by omega⟩ O
 have hP:=hP.ext f10;have hQ:=hQ.fr (f10 λ_=>False) (by simp) (by simp);have hB:=hB.ext f10;have r2:=r2.ext f10;refine kF.2 (gX (i:=3) (r9.ext f10) rfl (by simp) λaa ay am z11=> ?_);have f11:gU ak aa (·=x):=am _ rfl;have s10:=f10.size;have lT:∀b,SN.fp T b->b<ak.heap.size:=λb hb=>hT.lt hb;have hP:=hP.fr f11 λb hb e=>by have:=nP b hb;omega
 have hQ:=hQ.fr f11 (by omega) (by omega);have hB:=hB.fr f11 λb hb e=>by have:=(nB b hb).1;omega
 have hT:=hT.fr f11 λb hb e=>by have:=nT b hb;omega
 have r2:=r2.fr f11 (by omega);refine Ld_i 22 n22 r2 ?_;refine cmS6 (WN.ag_ n22 ⟨by omega,by omega⟩ aa) ?_;rintro _ _ ab ⟨f12,rfl,d,m,ss,rfl,hW,nW⟩;have f12:Ext aa ab:=f12;have hP:=hP.ext f12;have hQ:=hQ.fr (f12 λ_=>False) (by simp) (by simp);have hB:=hB.ext f12;have hT:=hT.ext f12;have r2:=r2.ext f12;refine kF.2 (gX (i:=4) (ay.ext f12) rfl (by simp) λac ar an z13=> ?_);have f13:gU ab ac (·=x):=an _ rfl;have s12:=f12.size;have lW:∀b,WN.pK d m ss b->b<ab.heap.size:=λb hb=>hW.wm.lt hb;have hP:=hP.fr f13 λb hb e=>by have:=nP b hb;omega
 have hQ:=hQ.fr f13 (by omega) (by omega);have hB:=hB.fr f13 λb hb e=>by have:=(nB b hb).1;omega
 have hT:=hT.fr f13 λb hb e=>by have:=nT b hb;omega
 have hW:=hW.fr f13 λb hb e=>by have:=nW b hb;omega
 have r2:=r2.fr f13 (by omega);simp only[agE,aho] at ar;have az:Ext w ac:=by
  have q5:=(x3.trans f4).new f5 λb hb e=>by have:=x2.size;omega
  have q7:=(q5.trans f6).new f7 λb hb e=>by have:=x2.size;omega
  have q9:=(q7.trans f8).new f9 λb hb e=>by have:=x2.size;omega
  have aA:=(q9.trans f10).new f11 λb hb e=>by have:=x2.size;omega
  exact(aA.trans f12).new f13 λb hb e=>by have:=x2.size;omega
 have au:=QN.agv N;rw[Η] at au;have hQ':QN.QR ac qb qs (List.replicate sw.len 0) n20:=by simpa using hQ
 have key:∀k b,own ⟨x,p,g,ps,qb,qs,B,T,d,m,ss⟩ k b->(k=0/\b=x)\/(k=1/\w3.heap.size<=b/\b<w4.heap.size)\/(k=2/\w5.heap.size<=b/\b<w6.heap.size)\/(k=3/\w7.heap.size<=b/\b<w8.heap.size)\/(k=4/\w9.heap.size<=b/\b<ak.heap.size)\/(k=5/\aa.heap.size<=b/\b<ab.heap.size):=by
  intro k b ho
  match k,ho with
  |0,ho=>exact .inl ⟨rfl,ho⟩
  |1,ho=>exact .inr (.inl ⟨rfl,nP b ho,lP b ho⟩)
  |2,ho=>
   refine .inr (.inr (.inl ⟨rfl,?_⟩));rcases ho with h|h<;>simp only at h<;>omega
  |3,ho=>exact .inr (.inr (.inr (.inl ⟨rfl,nB b ho⟩)))
  |4,ho=>exact .inr (.inr (.inr (.inr (.inl ⟨rfl,nT b ho,lT b ho⟩))))
  |5,ho=>exact .inr (.inr (.inr (.inr (.inr ⟨rfl,nW b ho,lW b ho⟩))))
  |(n+6),ho=>exact ho.elim
 have hE:nK ac ⟨x,p,g,ps,qb,qs,B,T,d,m,ss⟩ ⟨jo p0 p1 p2 p3 p4 p5 p6 p7 p8 p9 p10 p11 p12 p13 p14 p15 sw po n18 n19 n20 n21 n22 n23 n24 n25 n26 n27 n28 n29 n30 n31 n32 n33 n34 st,sw,pl,n18,n19,n20,n21,n22⟩ (e0 sw.len n21.toNat n22.toNat):=by
  refine⟨⟨rfl,rfl,rfl,rfl,rfl,by simp only;omega,by simp only;omega,by simp only;omega,by simp only;omega,Ui Z.parts⟩,ar,hP,hQ',au,hB,hT,hW,?_,?_⟩
  ·intro k k' b h1 h2;have h1:=key k b h1;have h2:=key k' b h2;omega
  ·intro k b h1;have h1:=key k b h1;omega
 have hI:Inv ⟨jo p0 p1 p2 p3 p4 p5 p6 p7 p8 p9 p10 p11 p12 p13 p14 p15 sw po n18 n19 n20 n21 n22 n23 n24 n25 n26 n27 n28 n29 n30 n31 n32 n33 n34 st,sw,pl,n18,n19,n20,n21,n22⟩ (e0 sw.len n21.toNat n22.toNat):=by
  refine⟨by simp[e0],λi hi=> ?_,λo=> ?_,λj b hj=> ?_⟩
  ·have h1:Xq (e0 sw.len n21.toNat n22.toNat).S i=0:=by
    unfold Xq;show ((live 0 (List.replicate n21.toNat none)).filter _).length=0;rw[sD];rfl
   rw[h1];show (List.replicate sw.len (0:Int)).getD i.toNat 0=((0:Nat):Int);rw[akE,akb];split<;>rfl
  ·constructor
   ·intro h;simp[e0] at h
   ·rintro⟨j,b,hj,_⟩;have hj:(List.replicate n21.toNat (none:Option Bnd))[j]? =some (some b):=hj;rw[akb] at hj;split at hj<;>simp at hj
  ·have hj:(List.replicate n21.toNat (none:Option Bnd))[j]? =some (some b):=hj;rw[akb] at hj;split at hj<;>simp at hj
 have hS:NoS (e0 sw.len n21.toNat n22.toNat):=Js _ _;have N:∀k b,own ⟨x,p,g,ps,qb,qs,B,T,d,m,ss⟩ k b->w.heap.size<=b:=λk b h=>by
  have h1:=key k b h;have:=x2.size;omega
 refine Ld_s 35 st r2 ?_;have hlt:=ah.len;refine gK (λs W=>∃(j:Nat) (a:EA) (e:ES),j<=tl.length/\s.1=(j:Int)/\Ext w W/\nK W a ⟨jo p0 p1 p2 p3 p4 p5 p6 p7 p8 p9 p10 p11 p12 p13 p14 p15 sw po n18 n19 n20 n21 n22 n23 n24 n25 n26 n27 n28 n29 n30 n31 n32 n33 n34 st,sw,pl,n18,n19,n20,n21,n22⟩ e/\Inv ⟨jo p0 p1 p2 p3 p4 p5 p6 p7 p8 p9 p10 p11 p12 p13 p14 p15 sw po n18 n19 n20 n21 n22 n23 n24 n25 n26 n27 n28 n29 n30 n31 n32 n33 n34 st,sw,pl,n18,n19,n20,n21,n22⟩ e/\NoS e/\Maps ⟨jo p0 p1 p2 p3 p4 p5 p6 p7 p8 p9 p10 p11 p12 p13 p14 p15 sw po n18 n19 n20 n21 n22 n23 n24 n25 n26 n27 n28 n29 n30 n31 n32 n33 n34 st,sw,pl,n18,n19,n20,n21,n22⟩ (e0 sw.len n21.toNat n22.toNat) ((tl.take j).map toB) e/\(∀k b,own a k b->w.heap.size<=b)/\a.x=x)
  (λs _=>(st.len - s.1).toNat) ⟨0,_,_,by omega,rfl,az,hE,hI,hS,Maps.nil,N,rfl⟩ ?_
 rintro⟨i,⟨⟩⟩ W ⟨j,aj,ej,hj,hi,hx,R,U,ao,ae,u,af⟩ next J
 simp only at hi;subst hi;by_cases hl:(j:Int)<(st.len:Int)
 ·simp only[hl,aaA,Δ];have hg:=abe (show j<tl.length by omega);generalize tl[j]=y at hg;obtain⟨y0,y1,y2,y3,y4,y5,y6,⟨⟩⟩:=y;refine jE wF (by omega) (ah.ext hx) (by omega) (by rw[Η];exact hg) λad hc=> ?_;have c0:=hc 0 _ rfl;have c1:=hc 1 _ rfl;have c2:=hc 2 _ rfl;have c3:=hc 3 _ rfl;have c4:=hc 4 _ rfl;have c5:=hc 5 _ rfl;have c6:=hc 6 _ rfl;simp only[VL,c0,c1,c2,c3,c4,c5,c6,fZ,Zn];refine gu λt w14 aB e14 z14 f14=> ?_;refine gZ aB rfl rfl λaC aD aq z15=> ?_;have xx:Ext W aC:=f14.new (aq (·=t) rfl) λb hb e=>by omega
  simp only[sx,aD.cell];have av:(tl.take (j+1)).map toB=(tl.take j).map toB++[toB (y0,y1,y2,y3,y4,y5,y6,())]:=by
   have aE:j<tl.length:=(ady.1 hg).1;rw[ajM aE,akk,(ady.1 hg).2];rfl
  rw[<- af];refine cmS1 (map_ok (R.ext xx) U (toB (y0,y1,y2,y3,y4,y5,y6,())) rfl) ?_;rintro r w16 ⟨rfl,⟨aF,f16⟩|⟨he,_,f16,A,i,Mi,Mo,Q,G,Y,aG,hE',hI'⟩⟩
  ·rw[Α];have:=(R.ext xx).ext f16;refine J _ _ ⟨j+1,aj,ej,by omega,by simp,(hx.trans xx).trans f16,this,U,ao,?_,u,af⟩ (by simp only;omega);rw[av];exact Maps.no ae U R.db.good aF
  ·rw[Α];refine J _ _ ⟨j+1,{aj with B:=A},_,by omega,by simp,(hx.trans xx).new f16 λb hb ⟨k,hk⟩=>by have:=u k b hk;omega,hE',hI',ao,?_,?_,af⟩ (by simp only;omega)
   ·rw[av];exact Maps.yes ae U R.db.good he Y
   ·intro k b hk;have zz:=(hx.trans xx).size
    match k,hk with
    |0,ho=>exact u 0 b ho
    |1,ho=>exact u 1 b ho
    |2,ho=>exact u 2 b ho
    |3,ho=>
     rcases aG b ho with h|h
     ·exact u 3 b h
     ·omega
    |4,ho=>exact u 4 b ho
    |5,ho=>exact u 5 b ho
    |(n+6),ho=>exact ho.elim
 ·simp only[hl,aaV,Β];have:j=tl.length:=by omega
  subst this;rw[ajU] at ae;rw[<- af];exact hK W aj ej hx R U ao ae u
end Go.Proofs.EN
end
section
namespace Go.Proofs.EN
open Gp Go.Proofs Go.Proofs.CN
theorem afo {w:θ} {p0 p1 p2 p3 p4 p5 p6 p7 p8 p9 p10 p11 p12 p13 p14 p15:Int} {sw po:fU} {n18 n19 n20 n21 n22 n23 n24 n25 n26 n27 n28 n29 n30 n31 n32 n33 n34:Int} {st:fU}:CY p0 p1 p2 p3 p4 p5 p6 p7 p8 p9 p10 p11 p12 p13 p14 p15 sw po n18 n19 n20 n21 n22 n23 n24 n25 n26 n27 n28 n29 n30 n31 n32 n33 n34 st w λr w'=>r=decide (sw.len<=8/\po.len<=4/\st.len<=12)/\Ext w w':=by
 apply TK;refine gu λa w1 r1 e1 z1 f1=> ?_;intro J;have hJ:∀q,q=decide (sw.len<=8/\po.len<=4/\st.len<=12)->J q:=λq hq=>⟨hq,f1⟩;clear_value J;refine Ld_s 16 sw r1 ?_;by_cases c1:(sw.len:Int)<=8;rotate_left
 ·rw[abW c1,Β];exact hJ _ (abW λh=>by omega).symm
 rw[ab9 c1,Δ];refine Ld_s 17 po r1 ?_;by_cases c2:(po.len:Int)<=4;rotate_left
 ·rw[abW c2,Β];exact hJ _ (abW λh=>by omega).symm
 rw[ab9 c2,Δ];refine Ld_s 35 st r1 ?_;refine hJ _ (akq.2 ?_);omega
theorem yI {w:θ} {p0 p1 p2 p3 p4 p5 p6 p7 p8 p9 p10 p11 p12 p13 p14 p15:Int} {sw po:fU} {n18 n19 n20 n21 n22 n23 n24 n25 n26 n27 n28 n29 n30 n31 n32 n33 n34:Int} {st:fU} {sl:List T16} {pl:List Int} {tl:List T7} (h:lD 16 e16 w sw sl) (u:lD 1 eI w po pl) (I:lD 7 e7 w st tl) {K:Bool->b_}
  (h0:∀w',Ext w w'->K false w')
  (h1:∀w',Ext w w'->sw.len<=8->po.len<=4->st.len<=12->chk (p0,p1,p2,p3,p4,p5,p6,p7,p8,p9,p10,p11,p12,p13,p14,p15,()) sw.len po.len st.len n18 n19 n20 n21 n22 n23 n24 n25 n26 n27 n28 n29 n30 n31 n32 n33 n34 sw.len sl pl tl 0->K true w'):
  CX p0 p1 p2 p3 p4 p5 p6 p7 p8 p9 p10 p11 p12 p13 p14 p15 sw po n18 n19 n20 n21 n22 n23 n24 n25 n26 n27 n28 n29 n30 n31 n32 n33 n34 st w K:=by
 apply TJ;refine gu λa w1 r1 e1 z1 f1=> ?_;have rd:∀W (Q:_),Row W a (jo p0 p1 p2 p3 p4 p5 p6 p7 p8 p9 p10 p11 p12 p13 p14 p15 sw po n18 n19 n20 n21 n22 n23 n24 n25 n26 n27 n28 n29 n30 n31 n32 n33 n34 st)->Q p0 p1 p2 p3 p4 p5 p6 p7 p8 p9 p10 p11 p12 p13 p14 p15 sw po n18 n19 n20 n21 n22 n23 n24 n25 n26 n27 n28 n29 n30 n31 n32 n33 n34 st->rO W ⟨a,0,none⟩ Q:=by
  intro W Q hr hq;simp only[sx,hr.cell];exact hq
 intro J;have hJ0:∀W,Ext w W->J false W:=λW hW=>h0 W hW;have hJ1:∀W,Ext w W->sw.len<=8->po.len<=4->st.len<=12->chk (p0,p1,p2,p3,p4,p5,p6,p7,p8,p9,p10,p11,p12,p13,p14,p15,()) sw.len po.len st.len n18 n19 n20 n21 n22 n23 n24 n25 n26 n27 n28 n29 n30 n31 n32 n33 n34 sw.len sl pl tl 0->J true W:=λW hW=>h1 W hW;clear_value J;refine rd _ _ r1 ?_;refine cmS0 afo ?_;rintro _ w2 ⟨rfl,f2⟩;by_cases hs:sw.len<=8/\po.len<=4/\st.len<=12;rotate_left
 ·rw[abW hs,Β];exact hJ0 _ (f1.trans f2)
 rw[ab9 hs,Δ];have x2:=f1.trans f2;refine rd _ _ (r1.ext f2) ?_;refine cmS1 (ϋ (h.ext x2) (u.ext x2) (I.ext x2) (by omega) (by omega) (by omega)) ?_;rintro r w3 ⟨hc,f3⟩;by_cases hr:r=0
 ·subst hr;exact hJ1 _ (x2.trans f3) hs.1 hs.2.1 hs.2.2 hc
 ·have:(r==0)=false:=by simpa using hr
  rw[this];exact hJ0 _ (x2.trans f3)
end Go.Proofs.EN
end
section
namespace Go.Proofs.AN
open Gp Gp.V4 Go.Proofs Go.Proofs.VN
open Gp.Bind (In64)
variable {w w':θ}
theorem aej {s t:fU} {l:List UInt8} (hs:h_ w s l) (ht:h_ w t l) (hl:l.length<=2^46):lC s t w λr w'=>r=true/\Ext w w':=by
 apply BH;have h1:=hs.1;have h2:=ht.1;rw[show (((s.len:Int)) !=(t.len:Int))=false by rw[alH];omega,Β];refine gK (λq W=>∃j:Nat,j<=l.length/\q.1=(j:Int)/\Ext w W) (λq _=>(s.len - q.1).toNat) ⟨0,by omega,rfl,Ext.refl _⟩ ?_;rintro⟨i,⟨⟩⟩ W ⟨j,hj,hi,hW⟩ next h
 dsimp only at hi ⊢;subst hi;by_cases I:(j:Int)<(s.len:Int);rotate_left
 ·rw[abW I,Β];exact⟨rfl,hW⟩
 rw[ab9 I,Δ];have hg:=abe (show j<l.length by omega);generalize l[j]=y at hg;have u:=hW.trans (Ext.drew W);obtain⟨a,ha,hc⟩:=(hs.ext u).at_ hg;obtain⟨b,hb,hd⟩:=(ht.ext u).at_ hg;refine⟨a,ha,by omega,by omega,?_⟩;refine iU (k:= .int .u8) (y:=(y.toNat:Int)) (by rw[Η,ahy];exact hc) ?_;refine⟨b,hb,by omega,by omega,?_⟩;refine iU (k:= .int .u8) (y:=(y.toNat:Int)) (by rw[Η,ahy];exact hd) ?_;rw[show (((y.toNat:Int)) !=(y.toNat:Int))=false by rw[alH],Β,Α];exact h _ _ ⟨j+1,by omega,by simp,u⟩ (by dsimp only;omega)
structure Dn where
 op:Int
 sw:Int
 now:Int
 b:fU
 bl:List UInt8
 q:kZ
 o:fU
 d:fU
 t0:Int
 t1:Int
 t2:Int
 t3:Int
 t4:Int
 t5:Int
 t6:Int
def dnV (x:Dn):List Value:=GI x.op x.sw x.now x.b x.q.tos x.q.id x.q.off x.q.ttl x.q.proto x.q.src x.q.dst x.q.df x.q.mf x.o x.d x.t0 x.t1 x.t2 x.t3 x.t4 x.t5 x.t6
theorem abr (x:Dn):(dnV x).length=22:=rfl
structure Y5 (w:θ) (s:fU) (xs:List Dn):Prop where
 sl:lD 22 dnV w s xs
 by_:∀x∈xs,h_ w x.b x.bl/\h_ w x.o x.q.opts/\h_ w x.d x.q.data
theorem Y5.ext {s:fU} {xs:List Dn} (h:Y5 w s xs) (hf:Ext w w'):Y5 w' s xs:=⟨h.sl.ext hf,λx hx=>⟨(h.by_ x hx).1.ext hf,(h.by_ x hx).2.1.ext hf,(h.by_ x hx).2.2.ext hf⟩⟩
theorem ahg {W:θ} {s:fU} {xs:List Dn} (h:Y5 W s xs) {j:Nat} {y:Dn} (hg:xs[j]? =some y) {Q:Int->Int->Int->fU->Int->Int->Int->Int->Int->Int->Int->Bool->Bool->fU->fU->Int->Int->Int->Int->Int->Int->Int->Prop}
  (hq:Q y.op y.sw y.now y.b y.q.tos y.q.id y.q.off y.q.ttl y.q.proto y.q.src y.q.dst y.q.df y.q.mf y.o y.d y.t0 y.t1 y.t2 y.t3 y.t4 y.t5 y.t6):iF s 22 (j:Int) λa5=>MC W a5 Q:=by
 refine CN.jE abr (by omega) h.sl (by omega) (by rw[Η];exact hg) λad hc=> ?_;refine ahm (λi hi=> ?_) hq;have u:(dnV y).length=22:=rfl;rw[hc i _ (abe (by rw[u];exact hi))];exact(abe (by rw[u];exact hi)).symm
theorem ahS {s:fU} {xs:List Dn} (hs:Y5 w s xs):GR s w λr w'=>(r=true->xs.length<=40/\∀x∈xs,x.bl.length<=1500/\x.q.data.length<=1500/\x.q.opts.length<=100)/\Ext w w':=by
 apply Yb;have hl:=hs.sl.len;refine gK (λq W=>∃j:Nat,j<=xs.length/\j<=40/\q.2.1=(j:Int)/\Ext w W/\∀x∈xs.take j,x.bl.length<=1500/\x.q.data.length<=1500/\x.q.opts.length<=100) (λq _=>(s.len - q.2.1).toNat) ⟨0,by omega,by omega,rfl,Ext.refl _,by simp⟩ ?_;rintro⟨n,i,⟨⟩⟩ W ⟨j,hj,hj40,hi,hW,u⟩ next I
 dsimp -zeta only at hi ⊢;subst hi;by_cases U:(j:Int)<(s.len:Int);rotate_left
 ·have R:decide ((j:Int)<(s.len:Int))=false:=abW U;rw[R,Β];refine⟨λ_=>⟨by omega,?_⟩,hW⟩;rw[aji (by omega)] at u;exact u
 have R:decide ((j:Int)<(s.len:Int))=true:=ab9 U;simp -zeta only[R,Δ];have hg:=abe (show j<xs.length by omega);have N:=ajm (show j<xs.length by omega);generalize xs[j]=y at hg N;refine ahg (hs.ext hW) hg ?_;refine gu λa w1 r1 e1 z1 f1=> ?_;refine StN_f r1 λw2 r2 f2 z2=> ?_;have x2:Ext w w2:=(hW.trans f1).new f2 λy hy e=>by have:=hW.size;omega
 obtain⟨y1,y2,y3⟩:=hs.by_ y N;have l1:=y1.1;have l2:=y2.1;have l3:=y3.1;intro J;have O:J true:=⟨λh=>Bool.noConfusion h,x2⟩;have Y:j<40->y.bl.length<=1500/\y.q.data.length<=1500/\y.q.opts.length<=100->J false:=by
  intro h40 hy;simp -zeta only[J];rw[Β];refine Ld_s 3 y.b r2 ?_;rw[show ο.wrap ((j:Int)+1)=((j+1:Nat):Int) by rw[Α];rfl];refine I _ _ ⟨j+1,by omega,by omega,rfl,x2,λx hx=> ?_⟩ (by dsimp only;omega);rw[ajM (by omega),ajk,aiB] at hx;rcases hx with hx|hx
  ·exact u x hx
  ·rw[(ady.1 hg).2] at hx;rw[hx];exact hy
 clear_value J;by_cases c1:(j:Int)>=40
 ·rw[ab9 c1,Δ];exact O
 rw[abW c1,Β];refine Ld_s 3 y.b r2 ?_;by_cases c2:(y.b.len:Int)>1500
 ·rw[ab9 c2,Δ];exact O
 rw[abW c2,Β];refine iU (k:= .slice) (y:=y.d) (by rw[gJ,gJ,r2.cell];rfl) ?_;by_cases c3:(y.d.len:Int)>1500
 ·rw[ab9 c3,Δ];exact O
 rw[abW c3,Β];refine iU (k:= .slice) (y:=y.o) (by rw[gJ,gJ,r2.cell];rfl) ?_;by_cases c4:(y.o.len:Int)>100
 ·rw[ab9 c4];exact O
 rw[abW c4];exact Y (by omega) ⟨by omega,by omega,by omega⟩
end Go.Proofs.AN
namespace Go.Proofs.EN
open Gp Go.Proofs Go.Proofs.AN Go.Proofs.CN
open Gp.Bind (Bnd Slots live GoodB freeN getS In64)
variable {c:Cf} {e e1:ES}
theorem Maps.rest {l:List Bnd} (h:Maps c e l e1):e1.now=e.now/\e1.SS=e.SS/\e1.l=e.l/\e1.wn=e.wn/\e1.tn=e.tn:=by
 induction h with
 |nil=>exact⟨rfl,rfl,rfl,rfl,rfl⟩
 |no _ _ _ _ ih=>exact ih
 |yes _ _ _ _ _ ih=>exact ih
theorem gd0 {n nb ns:Nat} {l:List Bnd} (h:Maps c (e0 n nb ns) l e1) (hi:Inv c e1):Gd c e1:=by
 obtain⟨q1,q2,q3,q4,q5⟩:=h.rest;have hn:∀(k:Nat) (s:Gp.Ses.Ses),¬e1.SS[k]? =some (some s):=by
  intro k s hs;rw[q2] at hs;have hs:(List.replicate ns (none:Option Gp.Ses.Ses))[k]? =some (some s):=hs;rw[akb] at hs;split at hs<;>cases hs
 refine⟨hi,λk s hs=>absurd hs (hn k s),λid t ht=> ?_,λk s hs=>absurd hs (hn k s),?_,?_,?_⟩
 ·rw[q3] at ht;cases ht
 ·rw[q3,q2];show 0=(Gp.Ses.live 0 (List.replicate ns none)).length;rw[Js];rfl
 ·rw[q4,q1];rfl
 ·rw[q1];exact Nat.zero_le _
theorem cfm {p:T16} {lt n18 n19 n20 n21 n22 n23 n24 n25 n26 n27 n28 n29 n30 n31 n32 n33 n34:Int} {sw po st:fU} {sl:List T16} {pl:List Int} {tl:List T7} {p0 p1 p2 p3 p4 p5 p6 p7 p8 p9 p10 p11 p12 p13 p14 p15:Int} (hpl:po.len=pl.length)
  (h:OkP p sw.len po.len lt n18 n19 n20 n21 n22 n23 n24 n25 n26 n27 n28 n29 n30 n31 n32 n33 n34 sw.len sl pl tl) (hf:fineP p sl pl tl sw.len n20):
  CfM ⟨jo p0 p1 p2 p3 p4 p5 p6 p7 p8 p9 p10 p11 p12 p13 p14 p15 sw po n18 n19 n20 n21 n22 n23 n24 n25 n26 n27 n28 n29 n30 n31 n32 n33 n34 st,sw,pl,n18,n19,n20,n21,n22⟩/\1<=n30/\n30<=1048576:=by
 have b:=h.nums;simp only[Zh,afm,ajp,ajV,forall_eq_or_imp,forall_eq,okB] at b;obtain⟨b1,b2,b3,b4,b5,b6,b7,b8,_,_,_,_,_,_,b30,b31,b32,b33,_⟩:=b;refine⟨⟨by show 1<=pl.length;omega,by show 1<=n18;omega,by show n18<=n19;omega,by show n19<65536;omega,_,_,_,_,_,_,_,_,_,_,_,_,_,_,_,_,_,_,_,_,_,_,_,_,_,_,_,_,_,_,_,_,_,_,_,_,rfl,?_,?_,?_,?_⟩,by omega,by omega⟩<;>omega
end Go.Proofs.EN
end
section
namespace Go.Proofs.EN
open Gp Gp.V4 Go.Proofs Go.Proofs.AN Go.Proofs.VN
open Go.Proofs.CN (T16 T7 e16 e7 OkP fineP chk)
open Gp.Bind (Bnd Slots live GoodB freeN getS In64)
open Gp.Ses (Ses)
variable {w w':θ}
theorem afn {s:fU} {l:List UInt8} (h:h_ w s l) {ad:Addr} (ha:s.a=some ad) (h0:0<l.length):ad.block<w.heap.size:=by
 obtain⟨a,h1,h2⟩:=h.at_ (abe h0);rw[ha] at h1
 cases h1
 exact cell_lt h2
theorem ajf {s:fU} {l:List UInt8} (h:h_ w s l) {ad:Addr} (ha:s.a=some ad) (h0:0<l.length):fU.at s ad.block:=by
 obtain⟨a,h1,h2⟩:=h.at_ (abe h0);rw[ha] at h1
 cases h1
 obtain⟨b,o,sp⟩:=ad
 cases sp with
 |none=>exact⟨o,ha⟩
 |some q=>
  exfalso;unfold World.cell? Addr.add at h2;split at h2
  ·simp at h2
  ·cases h2
abbrev Qi (n:Nat):kZ:=uz 167772161 134744072 n 53 9 []
theorem ai2 {n:Nat} (hn:n<65536):jP 167772161 134744072 (ο.wrap (n:Int)) 53 9 ⟨none,0,0⟩ w λr w'=>h_ w' r (Qi n).bytes/\Ext w w':=by
 rw[Α];exact Xv (a:=167772161) (b:=134744072) (src:=n) (dst:=53) (ttl:=9) h_.nil (by simp) (by omega) (by omega) hn (by omega) (by omega)
theorem XO {c:Cf} {n:Nat} (hn:n<65536) (hs:Np c 0):Law c 0 (Qi n):=by
 obtain⟨h1,_,_,_,h5⟩:=RP (a:=167772161) (b:=134744072) (src:=n) (dst:=53) (ttl:=9) (l:=[]) (by omega) (by omega) hn (by omega) (by omega) (by simp);exact⟨hs,h1,by rw[h5];simp⟩
theorem ahl {n:Nat} (hn:n<65536):wordAt (Qi n).data 0=n/\wordAt (Qi n).data 2=53:=by
 obtain⟨_,h2,h3,_⟩:=RP (a:=167772161) (b:=134744072) (src:=n) (dst:=53) (ttl:=9) (l:=[]) (by omega) (by omega) hn (by omega) (by omega) (by simp);exact⟨h2,h3⟩
structure Kp (c:Cf) (w5 W:θ) (a1 a':EA) (x:Nat) (m:Int) (j0:Nat) (b0:Bnd) (k0:Nat) (s0:Ses) (e':ES):Prop where
 fr:gU w5 W (jq a1)
 en:nK W a' c e'
 gd:Gd c e'
 gr:Grow a1 a' w5.heap.size
 x:a'.x=x
 now:e'.now=0
 tn:e'.tn<=m
 S:e'.S[j0]? =some (some b0)
 SS:e'.SS[k0]? =some (some s0)
theorem Kp.ext {c:Cf} {w5 W W':θ} {a1 a':EA} {x:Nat} {m:Int} {j0:Nat} {b0:Bnd} {k0:Nat} {s0:Ses} {e':ES} (h:Kp c w5 W a1 a' x m j0 b0 k0 s0 e') (hf:Ext W W'):Kp c w5 W' a1 a' x m j0 b0 k0 s0 e':=
 ⟨h.fr.ext hf,h.en.ext hf,h.gd,h.gr,h.x,h.now,h.tn,h.S,h.SS⟩
theorem Kp.out {c:Cf} {w0 w5 W:θ} {a1 a':EA} {x:Nat} {m:Int} {j0:Nat} {b0:Bnd} {k0:Nat} {s0:Ses} {e':ES} (h:Kp c w5 W a1 a' x m j0 b0 k0 s0 e') (hm:CfM c) (h1:∀b,jq a1 b->w0.heap.size<=b/\b<w5.heap.size) (hw:w0.heap.size<=w5.heap.size) (h00:0<w0.heap.size) (hH:Hdl W) (hmt:m<2^60)
  (hb0:s0.bd=(j0:Int)) {sw:Int} (J:b0.sw≠sw) (p:kZ) {o d:fU} (ho:h_ W o p.opts) (hd:h_ W d p.data) (l1:p.opts.length<=2^40) (l2:p.data.length<=2^40)
  (N:∀ad,o.a=some ad->0<p.opts.length->¬jq a' ad.block) (O:∀ad,d.a=some ad->0<p.data.length->¬jq a' ad.block)
  {K:b_} (hK:∀W' a2 e2,gU W W' (jq a')->Kp c w5 W' a1 a2 x (m+1) j0 b0 k0 s0 e2->K W'):
  jJ (some ⟨x,0,none⟩) sw p.tos p.id p.off p.ttl p.proto p.src p.dst p.df p.mf o d W λ_ _ _ _ _ _ _ _ _ _ _ _ W'=>K W':=by
 have hz:=h.fr.size;have R:∀b,jq a' b->w0.heap.size<=b:=λb hb=>by
  rcases h.gr b hb with q|q
  ·exact(h1 b q).1
  ·omega
 have I:∀b,b<w5.heap.size->jq a' b->jq a1 b:=λb hb ho=>(h.gr b ho).elim id λq=>by omega
 rw[<- h.x];refine out_ok h.en h.gd hm (by have:=h.tn;omega) hH (λh0=>by have:=R 0 h0;omega) sw p ho hd l1 l2 N O ?_ ?_
 ·intro x0 x1 x2 x3 x4 x5 x6 x7 x8 x9 U why W' hx _;have q:=h.ext hx;exact hK W' a' e' (hx _) ⟨q.fr,q.en,q.gd,q.gr,q.x,q.now,by have:=q.tn;omega,q.S,q.SS⟩
 ·intro x0 x1 x2 x3 x4 x5 x6 x7 x8 x9 U W' a2 e2 hf hE hG Y Z u _;refine hK W' a2 e2 hf ⟨h.fr.trans hf I,hE,hG,h.gr.trans Y hz,Z.trans h.x,u.now.trans h.now,by have:=u.tn;have:=h.tn;omega,u.S _ _ h.S,u.SS _ _ h.SS λj b hj hb=> ?_⟩;have:j=j0:=by omega
  subst this;rw[h.S] at hb;have:b0=b:=by simpa using hb
  subst this;exact J
theorem ajO {W:θ} {a:Nat} {x0 x1 x2:Int} {x3:fU} {x4 x5 x6 x7 x8 x9 h:Int} {u I:Bool} {J N:fU} {O R U Y Z aa ab:Int} {Q:Int->Int->Int->fU->Int->Int->Int->Int->Int->Int->Int->Bool->Bool->fU->fU->Int->Int->Int->Int->Int->Int->Int->Prop}
  (hr:Row W a (GI x0 x1 x2 x3 x4 x5 x6 x7 x8 x9 h u I J N O R U Y Z aa ab)) (hq:Q x0 x1 x2 x3 x4 x5 x6 x7 x8 x9 h u I J N O R U Y Z aa ab):MC W ⟨a,0,none⟩ Q:=
 ahm (λi _=>by rw[gJ,ahA,hr.cell]) hq
theorem agO (awake:∀w,Hdl w->jY w λr w'=>r=true/\Ext w w') {w0 w5:θ} {c:Cf} {a1:EA} {e1:ES} {x j0 k0:Nat} {b0:Bnd} {s0:Ses} {n:Nat} {n30:Int} {s:fU} {xs:List Dn}
  (hn:n<65536) (hm:CfM c) (hs0:Np c 0) (aw:ci c 30=n30/\1<=n30/\n30<=1048576) (hH:Hdl w0) (hx5:Ext w0 w5) (ax:0<w0.heap.size) (h1:∀b,jq a1 b->w0.heap.size<=b/\b<w5.heap.size)
  (hk:Kp c w5 w5 a1 a1 x 1 j0 b0 k0 s0 e1) (hb:b0.sw=0/\b0.pr=17/\b0.ad=167772161/\b0.po=(n:Int)) (hs:s0.bd=(j0:Int)/\s0.ra=134744072/\s0.rp=53/\s0.un=n30)
  (J:Y5 w0 s xs) (hx40:xs.length<=40) (ay:∀x∈xs,x.bl.length<=1500/\x.q.data.length<=1500/\x.q.opts.length<=100)
  {a5:Nat} {C:List Value} (r5:Row w5 a5 C) (hC:C[30]? =some (.int .i64 n30)) (hn5:¬jq a1 a5) {a80:Nat} {y0 y1 y2 y3 y4 y6:Int} {y7 y8:Bool} {y9 U:fU} (az:Row w5 a80 (gQ y0 y1 y2 y3 y4 b0.oad y6 y7 y8 y9 U)) (hn80:¬jq a1 a80)
  {L:List UInt8} (hL:h_ w5 U L) (aA:L.length<=2^46) (aB:∀b,fU.at U b->¬jq a1 b) (aC:L=YT b0.oad 134744072 b0.opo 53 false ((Qi n).data.drop 8))
  {K:Bool->b_} (hK:∀w',Ext w0 w'->K true w'):
  iH (S:=Int×Unit) (λag ae next93=>(bif (decide (ag.1<(s.len:Int))) then
   let R:b_:=λaD=>(next93 ((ο.wrap (ag.1+1)),()) aD)
   iF s 22 ag.1 λaE=>MC ae aE λaF aG aH x100 x101 x102 x103 x104 x105 x106 x107 x108 x109 x110 x111 x112 x113 x114 x115 x116 x117 x118=>Al ae (.cells ⟨(GI 0 0 0 ⟨none,0,0⟩ 0 0 0 0 0 0 0 false false ⟨none,0,0⟩ ⟨none,0,0⟩ 0 0 0 0 0 0 0)⟩ 52) λa120 w119=>ig (GI aF aG aH x100 x101 x102 x103 x104 x105 x106 x107 x108 x109 x110 x111 x112 x113 x114 x115 x116 x117 x118) w119 a120 0 λw121=>let J122:Bool->Prop:=λj123=>((bif j123 then
    Ld ν w121.drew (a120.add 1) λx124=>MC w121.drew a120 λx125 x126 x127 x128 x129 x130 x131 x132 x133 x134 x135 x136 x137 x138 x139 x140 x141 x142 x143 x144 x145 x146=>sN x125 x126 x127 x128 x129 x130 x131 x132 x133 x134 x135 x136 x137 x138 x139 x140 x141 x142 x143 x144 x145 x146 w121.drew λr147 r148 r149 r150 r151 r152 r153 r154 r155 r156 r157 w158=>w158.cell? (a120.add 1)=some (.int .i64 x124)/\
     jJ (some ⟨x,0,none⟩) x124 r147 r148 r149 r150 r151 r152 r153 r154 r155 r156 r157 w158 λr159 r160 r161 r162 r163 r164 r165 r166 r167 r168 r169 r170 w171=>R w171
    else
    R w121))
   Ld ν w121 a120 λx172=>(bif (decide (x172<=3)) then
    Ld ν w121 (a120.add 1) λx173=>J122 (x173 !=0)
    else
    J122 false)
   else
   Ld ν ae (Addr.add ⟨a5,0,none⟩ 30) λx174=>nI (some ⟨x,0,none⟩) (ο.wrap (x174 - 1)) ae λr175 w176=>jP 167772161 134744072 (ο.wrap (n:Int)) 53 9 ⟨none,0,0⟩ w176 λr177 w178=>kL r177 w178 λr179 r180 r181 r182 r183 r184 r185 r186 r187 r188 r189 w190=>jJ (some ⟨x,0,none⟩) 0 r179 r180 r181 r182 r183 r184 r185 r186 r187 r188 r189 w190 λr191 r192 r193 r194 r195 r196 r197 r198 r199 r200 r201 r202 w203=>Al w203 (.cells ⟨ξ⟩ 40) λa205 w204=>ig (gQ r191 r192 r193 r194 r195 r196 r197 r198 r199 r200 r201) w204 a205 0 λw206=>let J207:Bool->b_:=λj208 w209=>(K j208 w209)
    (bif (r202==0) then
    Ld ν w206 (a205.add 5) λx210=>Ld ν w206 (Addr.add ⟨a80,0,none⟩ 5) λx211=>(bif (x210==x211) then
    Ld .slice w206 (a205.add 10) λx212=>Ld .slice w206 (Addr.add ⟨a80,0,none⟩ 10) λx213=>lC x212 x213 w206 λr214 w215=>(bif r214 then
    jY w215 λr216 w217=>J207 r216 w217
    else
    J207 false w215)
    else
    J207 false w206)
    else
    J207 false w206))) (0,()) w5:=by
 have hsl:=J.sl.len;have af:∀{W:θ},gU w5 W (jq a1)->Ext w0 W:=λhf=>(hx5.fr hf).new λb hb ho=>by have:=(h1 b ho).1;omega
 have hz5:=hx5.size;refine gK (λq W=>∃(j:Nat) (a':EA) (e':ES),j<=xs.length/\q.1=(j:Int)/\Kp c w5 W a1 a' x (1+j) j0 b0 k0 s0 e') (λq _=>(s.len - q.1).toNat) ⟨0,a1,e1,by omega,rfl,hk⟩ ?_;rintro⟨i,⟨⟩⟩ W ⟨j,a',e',hj,hi,I⟩ next Y
 dsimp -zeta only at hi ⊢;subst hi;have an:∀b,jq a' b->w0.heap.size<=b:=λb hb=>by
  rcases I.gr b hb with q|q
  ·exact(h1 b q).1
  ·omega
 by_cases ao:(j:Int)<(s.len:Int)
 ·have ah:decide ((j:Int)<(s.len:Int))=true:=ab9 ao;simp -zeta only[ah,Δ];intro R;have hJ94:∀W' a2 e2,Kp c w5 W' a1 a2 x (1+((j+1:Nat):Int)) j0 b0 k0 s0 e2->R W':=by
   intro W' a2 e2 q;simp -zeta only[R];rw[show ο.wrap ((j:Int)+1)=((j+1:Nat):Int) by rw[Α];rfl];exact Y _ _ ⟨j+1,a2,e2,by omega,rfl,q⟩ (by dsimp only;omega)
  clear_value R;have hg:=abe (show j<xs.length by omega);have N:=ajm (show j<xs.length by omega);generalize xs[j]=y at hg N;have hW0:=af I.fr;refine ahg (J.ext hW0) hg ?_;refine gu λg w2 r2 e2 z2 f2=> ?_;refine StN_f r2 λw3 r3 f3 z3=> ?_;have x3:Ext W w3:=f2.nw f3;intro J122;have aq:J122 false:=by
   simp -zeta only[J122];rw[Β];have q:=I.ext x3;exact hJ94 w3 a' e' ⟨q.fr,q.en,q.gd,q.gr,q.x,q.now,by have:=q.tn;omega,q.S,q.SS⟩
  have aI:y.sw≠0->J122 true:=by
   intro aJ;simp -zeta only[J122];rw[Δ];have x3d:=x3.trans (Ext.drew w3);have r3d:=r3.drew;refine Ld_i 1 y.sw r3d (ajO r3d ?_);obtain⟨v1,v2,v3⟩:=J.by_ y N;obtain⟨m1,m2,m3⟩:=ay y N;have y0:=hW0.trans x3d;refine afr y.q (v1.ext y0) (by omega) (v2.ext y0) (v3.ext y0) (by omega) (by omega) λp o' d' w4 f4 bo bd l1 l2 no nd=> ?_;refine⟨by rw[gJ,(r3d.ext f4).cell];rfl,?_⟩;have q:=(I.ext x3d).ext f4;have ar:∀b,jq a' b->b<w3.drew.heap.size:=λb ⟨k,hb⟩=>(I.ext x3d).en.lt k b hb;refine q.out hm h1 hz5 ax ((hH.ext y0).ext f4) (by omega) hs.1 (by rw[hb.1];exact λe=>aJ e.symm) p bo bd l1 l2 ?_ ?_ λW' a2 e2 _ q2=> ?_
   ·intro ad ha h0 ho;rcases no with ⟨rfl,rfl⟩|no
    ·have:=afn v2 ha h0;have:=an _ ho;omega
    ·have:=no ad ha;have:=ar _ ho;omega
   ·intro ad ha h0 ho;rcases nd with ⟨rfl,rfl⟩|nd
    ·have:=afn v3 ha h0;have:=an _ ho;omega
    ·have:=nd ad ha;have:=ar _ ho;omega
   ·exact hJ94 W' a2 e2 ⟨q2.fr,q2.en,q2.gd,q2.gr,q2.x,q2.now,by have:=q2.tn;omega,q2.S,q2.SS⟩
  clear_value J122;refine Ld_i 0 y.op r3 ?_
  cases decide (y.op<=3)
  ·exact aq
  ·rw[Δ];refine Ld_i 1 y.sw r3 ?_;by_cases h:y.sw=0
   ·rw[show (y.sw !=0)=false by rw[alH];exact h];exact aq
   ·rw[show (y.sw !=0)=true by rw[aj3];exact h];exact aI h
 ·have ah:decide ((j:Int)<(s.len:Int))=false:=abW ao;simp -zeta only[ah,Β];obtain⟨h30a,h30b,h30c⟩:=aw;have r5W:=r5.fr I.fr hn5;refine KP (k:= .int .i64) (i:=30) (x:=n30) r5W hC ?_;rw[Α,<- I.x];refine ϲ I.en I.gd (n30 - 1) λr w2 a2 e2 hf2 hE2 hG2 ai aj O=> ?_;have ak:(hop e'.now (n30 - 1):Int)=n30 - 1:=by
   rw[I.now,<- ahj];split<;>split<;>omega
  have Z:e2.SS[k0]? =some (some s0):=(O.SS k0 s0).2 ⟨I.SS,by rw[ak];omega⟩;have hS2:e2.S[j0]? =some (some b0):=by
   obtain⟨j2,b2,g1,g2⟩:=hG2.sb k0 s0 Z;have:j2=j0:=by omega
   subst this;have g3:=O.S _ _ g2;rw[I.S] at g3;have:b0=b2:=by simpa using g3
   rw[this];exact g2
  have hz2:=I.fr.size;have aa:∀b,b<w5.heap.size->jq a' b->jq a1 b:=λb hb ho=>(I.gr b ho).elim id λq=>by omega
  have fr2:gU w5 w2 (jq a1):=I.fr.trans hf2 aa;have hgr12:Grow a1 a2 w5.heap.size:=I.gr.trans ai hz2;refine cmS2 (ai2 hn) ?_;rintro rr w3 ⟨aK,f3⟩;refine RQ (a:=167772161) (b:=134744072) (src:=n) (dst:=53) (ttl:=9) (by omega) (by omega) hn (by omega) (by omega) aK λo d w4 f4 ⟨bo,bd,no,nd⟩=> ?_;have x4:=f3.trans f4;have hE4:=hE2.ext x4;have fr4:=fr2.ext x4;have am:∀b,jq a2 b->w0.heap.size<=b:=λb hb=>by
   rcases hgr12 b hb with q|q
   ·exact(h1 b q).1
   ·omega
  have hl2:∀b,jq a2 b->b<w3.heap.size:=λb ⟨k,hb⟩=>(hE2.ext f3).lt k b hb;obtain⟨g1,g2,g3,g4⟩:=hb;obtain⟨s1,s2,s3,s4⟩:=hs;obtain⟨lw0,lw2⟩:=ahl hn;rw[<- aj];refine out_ok hE4 hG2 hm (by have:=O.tn;have:=I.tn;omega) (hH.ext (af fr4)) (λh=>by have:=am 0 h;omega) 0 (Qi n) bo bd (by simp[Qi,uz]) (by show (RN.ϥ _ _ _ _ _).length<=_;rw[show (RN.ϥ 167772161 134744072 n 53 []).length=8+0 from RN.zM _ _ _ _];omega)
   (λad ha _ ho=>by have:=no ad ha;have:=hl2 _ ho;omega) (λad ha _ ho=>by have:=nd ad ha;have:=hl2 _ ho;omega) ?_ ?_
  ·intro x0 x1 x2 x3 x4' x5 x6 x7 x8 x9 U why w6 hx6 hL6;exfalso;obtain⟨_,au⟩:=hL6 (XO hn hs0);rw[lw0,lw2] at au;refine au (j0:Int) (k0:Int) ((hE2.db.good.i _ _).2 ⟨j0,b0,hS2,?_,rfl⟩) ((hE2.se.good.k _ _).2 ⟨k0,s0,Z,?_,rfl⟩)
   ·unfold Bnd.i;rw[g1,g2,g3,g4];rfl
   ·unfold Ses.k;rw[s1,s2,s3];rfl
  ·intro x0 x1 x2 x3 x4' x5 x6 x7 x8 x9 ab w6 a3 e3 hf6 hE6 hG6 hgr6 hax6 ac hL6;obtain⟨⟨j,b,k,s',q1,q2,q3,q4,q5,_,_,_,_,_,aL,av,_⟩,q13⟩:=hL6 (XO hn hs0);have aM:j=j0:=by
    refine hE6.db.good.one q1 (ac.S _ _ hS2) (.inl ?_);unfold Bnd.i;rw[q2,q3,q4,q5,g1,g2,g3,g4,lw0];rfl
   subst aM;have q1':=ac.S _ _ hS2;rw[q1] at q1';have:b=b0:=by simpa using q1'
   subst this;subst aL;have fr6:gU w5 w6 (jq a1):=fr4.trans hf6 λb hb ho=>(hgr12 b ho).elim id λq=>by omega
   refine gu λu w7 r7 e7 z7 f7=> ?_;refine StN_f r7 λw8 r8 f8 z8=> ?_;have x8:Ext w6 w8:=f7.nw f8;have fr8:=fr6.ext x8;intro J207;have hJ:∀W',Ext w8 W'->J207 true W':=λW' hx=>hK W' ((af fr8).trans hx);clear_value J207;rw[show ((0:Int)==0)=true from rfl,Δ];have r808:=az.fr fr8 hn80;refine Ld_i 5 b.oad r8 (Ld_i 5 b.oad r808 ?_);rw[show (b.oad==b.oad)=true by rw[akK],Δ];refine Ld_s 10 ab r8 (Ld_s 10 U r808 ?_);have hL8:=hL.fr fr8 λad ha h0 ho=>aB _ (ajf hL ha h0) ho;rw[lw2] at av;have hq8:h_ w8 ab L:=by rw[aC];exact av.ext x8
   refine cmS0 (aej hq8 hL8 aA) ?_;rintro _ w9 ⟨rfl,f9⟩;rw[Δ];refine cmS0 (awake w9 (hH.ext ((af fr8).trans f9))) ?_;rintro _ aN ⟨rfl,f10⟩;exact hJ aN (f9.trans f10)
end Go.Proofs.EN
end
section
namespace Go.Proofs.EN
open Gp Gp.V4 Go.Proofs Go.Proofs.AN Go.Proofs.VN
open Go.Proofs.CN (T16 T7 e16 e7 OkP fineP chk chk_one)
open Gp.Bind (Bnd Slots live GoodB freeN getS In64)
open Gp.Ses (Ses)
theorem ag4 (sa da a b:Int) (L:List UInt8):(YT sa da a b false L).length<=16+L.length:=by
 unfold YT QB;rw[Ε (by decide)];have q:∀(l:List UInt8) (n:Int),(j_ l n 2).length<=l.length+2:=λl n=>yj l n 2;have q1:=q [] a;have q2:=q (j_ [] a 2) b;have q3:=q (j_ (j_ [] a 2) b 2) (8+(L.length:Int));have q4:=q (j_ (j_ (j_ [] a 2) b 2) (8+(L.length:Int)) 2) 0;simp only[adH,ahP,aj0,iQ,aiJ] at *;omega
theorem aeG (awake:∀w,Hdl w->jY w λr w'=>r=true/\Ext w w') {w:θ} {p0 p1 p2 p3 p4 p5 p6 p7 p8 p9 p10 p11 p12 p13 p14 p15:Int} {sw po:fU} {n18 n19 n20 n21 n22 n23 n24 n25 n26 n27 n28 n29 n30 n31 n32 n33 n34:Int} {st:fU} {sl:List T16} {pl:List Int} {tl:List T7} (ah:lD 16 e16 w sw sl) (ab:lD 1 CN.eI w po pl) (ai:lD 7 e7 w st tl) {s:fU} {xs:List Dn} (hs:Y5 w s xs) {n:Nat} (hn:n<65536) (hH:Hdl w):
  BM p0 p1 p2 p3 p4 p5 p6 p7 p8 p9 p10 p11 p12 p13 p14 p15 sw po n18 n19 n20 n21 n22 n23 n24 n25 n26 n27 n28 n29 n30 n31 n32 n33 n34 st s (n:Int) w λr w'=>r=true/\Ext w w':=by
 have am:0<w.heap.size:=cell_lt hH;apply LJ;refine gu λa w1 r1 e1 z1 f1=> ?_;have rd:∀W (Q:_),Row W a (jo p0 p1 p2 p3 p4 p5 p6 p7 p8 p9 p10 p11 p12 p13 p14 p15 sw po n18 n19 n20 n21 n22 n23 n24 n25 n26 n27 n28 n29 n30 n31 n32 n33 n34 st)->Q p0 p1 p2 p3 p4 p5 p6 p7 p8 p9 p10 p11 p12 p13 p14 p15 sw po n18 n19 n20 n21 n22 n23 n24 n25 n26 n27 n28 n29 n30 n31 n32 n33 n34 st->rO W ⟨a,0,none⟩ Q:=by
  intro W Q hr hq;simp only[sx,hr.cell];exact hq
 intro J;have R:∀W,Ext w1 W->J true W:=by
  intro W hW;simp only[J,Δ];refine cmS0 (awake W (hH.ext (f1.trans hW))) ?_;rintro r W' ⟨hr,hf⟩;exact⟨hr,(f1.trans hW).trans hf⟩
 have hlen:=hs.sl.len;have an:=ab.len;have ao:∀W,Ext w1 W->sw.len<=8->po.len<=4->st.len<=12->xs.length<=40->(∀x∈xs,x.bl.length<=1500/\x.q.data.length<=1500/\x.q.opts.length<=100)->2<=sw.len->chk (p0,p1,p2,p3,p4,p5,p6,p7,p8,p9,p10,p11,p12,p13,p14,p15,()) sw.len po.len st.len n18 n19 n20 n21 n22 n23 n24 n25 n26 n27 n28 n29 n30 n31 n32 n33 n34 sw.len sl pl tl 0->J false W:=by
  intro W hW l1 l2 l3 l4 l5 l6 hc;simp -zeta only[J,Β];have r1W:=r1.ext hW;have xW:=f1.trans hW;refine rd _ _ r1W ?_;refine abD (ah.ext xW) (ab.ext xW) (ai.ext xW) (by omega) (by omega) (by omega) ?_ ?_
  ·intro r w2 _ hr hc2;exact absurd (chk_one hc hc2).symm hr
  intro aq N w2 a2 e2 f2 hE hI _ I ac;obtain⟨hm,u1,u2⟩:=cfm (p0:=p0) (p1:=p1) (p2:=p2) (p3:=p3) (p4:=p4) (p5:=p5) (p6:=p6) (p7:=p7) (p8:=p8) (p9:=p9) (p10:=p10) (p11:=p11) (p12:=p12) (p13:=p13) (p14:=p14) (p15:=p15) (st:=st) an aq N;have hG:=gd0 I hI;obtain⟨m1,m2,m3,m4,m5⟩:=I.rest;have m1:e2.now=0:=m1;have m5:e2.tn=0:=m5;intro U;have hJ50:U false->(bif Option.isNone (some (⟨a2.x,0,none⟩:Addr)) then U true else U ((0:Int) !=0)):=λh=>h;refine hJ50 ?_;simp -zeta only[U];rw[Β];refine cmS2 (ai2 hn) ?_;rintro rr w3 ⟨ar,f3⟩;refine RQ (a:=167772161) (b:=134744072) (src:=n) (dst:=53) (ttl:=9) (by omega) (by omega) hn (by omega) (by omega) ar λo d w4 f4 ⟨bo,bd,no,nd⟩=> ?_;have Y:=f3.trans f4;have x4:=xW.trans (f2.trans Y);have hE4:=hE.ext Y;have Z:∀b,jq a2 b->W.heap.size<=b:=λb ⟨k,hk⟩=>ac k b hk;have hl2:∀b,jq a2 b->b<w3.heap.size:=λb ⟨k,hb⟩=>(hE.ext f3).lt k b hb;have hzW:=xW.size;have hz1:=f1.size;have hzW1:=hW.size;have hs0:Np ⟨jo p0 p1 p2 p3 p4 p5 p6 p7 p8 p9 p10 p11 p12 p13 p14 p15 sw po n18 n19 n20 n21 n22 n23 n24 n25 n26 n27 n28 n29 n30 n31 n32 n33 n34 st,sw,pl,n18,n19,n20,n21,n22⟩ 0:=⟨by omega,by show (0:Int)<(sw.len:Int);omega⟩;obtain⟨lw0,lw2⟩:=ahl hn;refine out_ok hE4 hG hm (by omega) (hH.ext x4) (λh=>by have:=Z 0 h;omega) 0 (Qi n) bo bd (by simp[Qi,uz]) (by show (RN.ϥ _ _ _ _ _).length<=_;rw[show (RN.ϥ 167772161 134744072 n 53 []).length=8+0 from RN.zM _ _ _ _];omega)
   (λad ha _ ho=>by have:=no ad ha;have:=hl2 _ ho;omega) (λad ha _ ho=>by have:=nd ad ha;have:=hl2 _ ho;omega) ?_ ?_
  ·intro x0 x1 x2 x3 x4' x5 x6 x7 x8 x9 au why w6 hx6 hL6;obtain⟨ae,_⟩:=hL6 (XO hn hs0);refine gu λu w7 r7 e7 z7 f7=> ?_;refine StN_f r7 λw8 r8 f8 z8=> ?_;have x8:Ext w w8:=(x4.trans hx6).trans (f7.nw f8);have hA:jY w8 λr w'=>r=true/\Ext w w':=by
    refine cmS0 (awake w8 (hH.ext x8)) ?_;rintro r w9 ⟨hr,f9⟩;exact⟨hr,x8.trans f9⟩
   rcases ae with ⟨rfl,_⟩|⟨rfl,_⟩|⟨rfl,_⟩
   ·exact hA
   ·exact hA
   ·exact hA
  ·intro x0 x1 x2 x3 x4' x5 x6 x7 x8 x9 au w6 a3 e3 hf6 hE6 hG6 af ag O hL6;obtain⟨⟨j,b,k,s',q1,q2,q3,q4,q5,q6,q7,q8,q9,av,aw,aj,_⟩,ax⟩:=hL6 (XO hn hs0);subst aw;rw[lw0] at q5;rw[lw2] at q9 aj;have z6:=hf6.size;have x6:Ext w w6:=(x4.fr hf6).new λb hb ho=>by have:=Z b ho;omega
   refine gu λu w7 r7 e7 z7 f7=> ?_;refine StN_f r7 λw8 r8 f8 z8=> ?_;have x8:Ext w6 w8:=f7.nw f8;rw[show ((0:Int) !=0)=false from rfl,Β];have aa:∀b,jq a3 b->W.heap.size<=b/\b<w6.heap.size:=λb hb=>by
    have l:=hb;obtain⟨kk,hk⟩:=l;have:=hE6.lt kk b hk;rcases af b hb with h|h
    ·exact⟨Z b h,this⟩
    ·have:=f2.size;have:=Y.size;exact⟨by omega,by omega⟩
   have hr1:Row w8 a (jo p0 p1 p2 p3 p4 p5 p6 p7 p8 p9 p10 p11 p12 p13 p14 p15 sw po n18 n19 n20 n21 n22 n23 n24 n25 n26 n27 n28 n29 n30 n31 n32 n33 n34 st):=((r1W.ext (f2.trans Y)).fr hf6 λho=>by have:=Z _ ho;have:=r1W.lt;omega).ext x8;have ak:ci ⟨jo p0 p1 p2 p3 p4 p5 p6 p7 p8 p9 p10 p11 p12 p13 p14 p15 sw po n18 n19 n20 n21 n22 n23 n24 n25 n26 n27 n28 n29 n30 n31 n32 n33 n34 st,sw,pl,n18,n19,n20,n21,n22⟩ 30=n30:=rfl;have ay:s'.un=n30:=by
    rw[av];unfold Qa FW;rw[Ζ rfl,ak,m1];rw[Ε (by omega)];omega
   refine agO (c:=⟨jo p0 p1 p2 p3 p4 p5 p6 p7 p8 p9 p10 p11 p12 p13 p14 p15 sw po n18 n19 n20 n21 n22 n23 n24 n25 n26 n27 n28 n29 n30 n31 n32 n33 n34 st,sw,pl,n18,n19,n20,n21,n22⟩) (w0:=w) (a1:=a3) (e1:=e3) (j0:=j) (k0:=k) (b0:=b) (s0:=s') awake hn hm hs0 ⟨ak,u1,u2⟩ hH (x6.trans x8) am (λb hb=>⟨by have:=(aa b hb).1;omega,by have:=(aa b hb).2;have:=x8.size;omega⟩)
    ⟨gU.refl _ _,hE6.ext x8,hG6,Grow.refl _ _,ag,O.now.trans m1,by have:=O.tn;omega,q1,q6⟩ ⟨q2,q3,q4,q5⟩ ⟨q7,q8,q9,ay⟩ hs l4 l5 hr1 rfl (λho=>by have:=(aa _ ho).1;have:=r1W.lt;omega) r8 (λho=>by have:=(aa _ ho).2;omega) (aj.ext x8) ?_ ax rfl ?_
   ·refine ahO (ag4 _ _ _ _ _) ?_;have:((Qi n).data.drop 8).length<=(Qi n).data.length:=by rw[aj0];omega
    have h8:(Qi n).data.length=8+0:=RN.zM _ _ _ _;omega
   ·exact λw' hx=>⟨rfl,hx⟩
 clear_value J;have hJt2:=R;refine rd _ _ r1 ?_;refine yI (ah.ext f1) (ab.ext f1) (ai.ext f1) (λW hW=>R W hW) λW hW l1 l2 l3 hc=> ?_;rw[ab6,Β];refine cmS0 (ahS (hs.ext (f1.trans hW))) ?_;rintro fr w3 ⟨hf,f3⟩
 cases fr
 ·exact R w3 (hW.trans f3)
 rw[ab6,Β];obtain⟨hf1,hf2⟩:=hf rfl;refine Ld_s 16 sw ((r1.ext hW).ext f3) ?_;by_cases h2:(sw.len:Int)<2
 ·rw[ab9 h2];exact R w3 (hW.trans f3)
 ·rw[abW h2];exact ao w3 (hW.trans f3) l1 l2 l3 hf1 hf2 (by omega) hc
end Go.Proofs.EN
end
section
namespace Gp
open Go Go.Proofs
def WY (P:Program) (ks:List Shape) (v:Value) (C:b_) (xs:List (Ae ks)):Prop:=
 match v with
 | .func (.func f) first cap=>oq P f=true/\∀(l:Nat) (w:θ) (Q:Nat->Nat->b_) (D:b_),
   (∀N i W,Q N i W->C W)->(∀N i W W',Q N i W->Ext W W'->Q N i W')->(∀W W',D W->Ext W W'->D W')->
   (∀N i x W (K:Bool->b_),xs[i]? =some x->Q N i W->w.heap.size<=N->N<=W.heap.size->(∀W' S,Q N (i+1) W'->gU W W' S->(∀b,w.heap.size<=b->b<N->¬S b)->K true W')->(∀W',D W'->K false W')->KQ P l (encR ks x) W K)->
   (∀W,Ext w W->Q W.heap.size 0 W)->Gw P [] f (first.toList++(Value.func (.yield l) #[] #[]::cap.toList)) w λ_ w'=>(∃N,Q N xs.length w')\/D w'
 |_=>False
theorem ac_ {P:Program} {ks:List Shape} {v:Value} {C:b_} {xs:List (Ae ks)} {w:θ} {body:Nat->Ae ks->θ->(Exit->b_)->Prop} {Kn Kr:b_} {Kx:List (Nat×(b_))}
  (hv:WY P ks v C xs) (I:Nat->Nat->b_)
  (h0:∀W,Ext w W->w.heap.size+2<=W.heap.size->I W.heap.size 0 W)
  (hC:∀N i W,I N i W->C W)
  (stI:∀N i W W',I N i W->gU W W' (·=w.heap.size+1)->I N i W')
  (step:∀N i x W Kb,xs[i]? =some x->I N i W->w.heap.size+1<N->N<=W.heap.size->(∀W' S,gU (gG W (w.heap.size+1)) W' S->(∀b,w.heap.size<=b->b<N->¬S b)->I N (i+1) W'->Kb .normal W')->body (w.heap.size+1) x W Kb)
  (fn:∀N W,I N xs.length W->Mark none w W->Kn W):
  zn P none ks v w body Kn Kr Kx:=by
 unfold zn;refine⟨by simp,?_⟩;unfold WY at hv;split at hv
 ·rename_i f first cap
  obtain⟨hb,hv⟩:=hv;refine⟨hb,λl L w1 ctx=> ?_⟩;have hl:l=w.heap.size+1:=ctx.at_;subst hl;have hz0:w1.heap.size=w.heap.size+1+1:=ctx.size;have ls:∀W st p,gU W (iM W (w.heap.size+1) st p) (·=w.heap.size+1):=λW st p=>gU.iM W _ st p;have mset:∀W st p,Mark none w W->Mark none w (iM W (w.heap.size+1) st p):=λW st p hm hn=>by
   rw[show (iM W (w.heap.size+1) st p).heap[w.heap.size]? =W.heap[w.heap.size]? by simp[iM,ajZ]];exact hm hn
  have mbody:∀W W' S,Mark none w W->w.heap.size+1<W.heap.size->gU (gG W (w.heap.size+1)) W' S->¬S w.heap.size->Mark none w W':=λW W' S hm J hf hs hn=>by
   rw[hf.same _ (by simp[gG];omega) hs];rw[show (gG W (w.heap.size+1)).heap[w.heap.size]? =W.heap[w.heap.size]? by simp[gG,ajZ]];exact hm hn
  have llt:∀st p W,L st p W->w.heap.size+1<W.heap.size:=λst p W hL=>by
   obtain⟨lp,h⟩:=ctx.isLoop st p W hL;exact(aiQ.1 h).1
  have lext:∀st p W W',L st p W->Ext W W'->L st p W':=λst p W W' hL he=>
   ctx.frame st p W W' hL ((he λ_=>False).same _ (llt st p W hL) (by simp))
  have hx1:Ext w w1:=λS=>⟨by omega,λb hb _=>ctx.old b hb,ctx.io⟩;have mext:∀W W',Mark none w W->w.heap.size+1<W.heap.size->Ext W W'->Mark none w W':=λW W' hm J he hn=>by
   rw[(he λ_=>False).same _ (by omega) (by simp)];exact hm hn
  refine Calls.mono (hv (w.heap.size+1) w1 (λN i W=>I N i W/\L .ready none W/\Mark none w W) (λ_=>False)
   (λN i W h=>hC N i W h.1) (λN i W W' h he=>⟨stI N i W W' h.1 (he _),lext _ _ _ _ h.2.1 he,mext _ _ h.2.2 (llt _ _ _ h.2.1) he⟩)
   (λW W' h he=>h) ?_ ?_) ?_
  ·intro N i x W K hx ⟨hI,hL,hm⟩ hN1 hN2 ht _;refine ctx.yield x W none K hL (step N i x W _ hx hI (by omega) hN2 ?_);intro W' S u hS hI';have hs:∀b,w.heap.size<=b->b<=w.heap.size+1->¬S b:=λb h1 h2=>hS b h1 (by omega);have hL':L .busy none W':=ctx.frame _ _ _ _ (ctx.busy _ _ hL) (u.same _ (by simpa [gG] using llt _ _ _ hL) (hs _ (by omega) (aiq _)));refine⟨hL',none,rfl,ht _ (λb=>S b\/b=w.heap.size+1) ⟨stI _ _ _ _ hI' (ls _ _ _),ctx.set _ _ _ _ _ hL',mset _ _ _ (mbody W W' S hm (llt _ _ _ hL) u (hs _ (aiq _) (by omega)))⟩ ?_ ?_⟩
   ·exact((((gU.gG W (w.heap.size+1)).mono λb e=> .inr e).trans (u.mono λb e=> .inl e) λ_ _ e=>e).trans ((gU.iM W' (w.heap.size+1) _ _).mono λb e=> .inr e) λ_ _ e=>e)
   ·rintro b hb1 hb2 (h|h)
    ·exact hS b (by omega) hb2 h
    ·omega
  ·intro W hW;exact⟨h0 W (hx1.trans hW) (by have:=hW.size;omega),lext _ _ _ _ ctx.ready hW,mext _ _ ctx.marks (by omega) hW⟩
  ·rintro e w2 ⟨he,h⟩;refine⟨he,?_⟩;rcases h with ⟨N,hI,hL,hm⟩|h
   ·exact⟨.ready,none,hL,by simp,fn N _ (stI _ _ _ _ hI (ls _ _ _)) (mset _ _ _ hm)⟩
   ·exact h.elim
 ·exact hv.elim
end Gp
namespace Go.Proofs.SN
open Gp Gp.Ses Go.Proofs
theorem ae0 (most:Nat) (S:Slots) (M:ByteArray->Option Int) (A:QZ) (f0 f1:Nat) (k:Int):
  WY υ yK (Value.func (.func sG) #[] #[(Value.pointer (some ⟨f0,0,none⟩)),(Value.pointer (some ⟨f1,0,none⟩))])
   (λW=>Row W f0 [.pointer (some ⟨A.d,0,none⟩)]/\Row W f1 [.int .i64 k]/\TA W A most S M) (yS (Fg S k)):=by
 refine⟨by kernel_rfl,λn w Q D hC hQ hD hy h0=> ?_⟩;refine Calls.mono (wS (a0:= .func (.yield n) #[] #[]) (f0:=⟨f0,0,none⟩) (f1:=⟨f1,0,none⟩) (K:=λw'=>(∃N,Q N (yS (Fg S k)).length w')\/D w') ?_) (λe w' h=>h);obtain⟨r0,r1,h⟩:=hC _ _ _ (h0 w (Ext.refl _));have hl:=h.len;have hm:=h.mx;simp only[sx,r0.cell];refine cmS0 (Aa h) ?_;rintro _ w2 ⟨rfl,hw⟩;subst hw;obtain⟨r0,r1,h⟩:=hC _ _ _ (h0 w2.drew (Ext.drew _));simp only[sx,ab6,r0.cell,r1.cell,h.hd.cell];refine h.own.get k ?_;have hil:=Gp.Ses.QM S k;refine cmS2 (Ov ((h.own.buf k).sl jc (by omega)) (by omega)) ?_;rintro s3 w3 ⟨f3,b3,n3⟩;have q3:=h0 w3 ((Ext.drew _).trans f3);have z3:w2.heap.size<=w3.heap.size:=f3.size;have R:(yS (Fg S k)).length=(Fg S k).length:=by simp[yS]
 have hol:(Fg S k).length=(ids S k).length:=by rw[<- QS,ahv]
 rw[R];have l3:=b3.len;refine gK (λst W=>∃i:Nat,i<=(Fg S k).length/\st.1=(i:Int)/\Q w3.heap.size i W/\iY 1 eI W s3 (ids S k)/\w3.heap.size<=W.heap.size) (λst _=>(Fg S k).length - st.1.toNat) ⟨0,by omega,rfl,q3,b3,aiq _⟩ ?_;rintro⟨x,⟨⟩⟩ W ⟨i,hi,rfl,hq,hb,hz⟩ next I
 obtain⟨r0,r1,h⟩:=hC _ _ _ hq;by_cases U:i<(Fg S k).length
 ·have u:((i:Int)<(s3.len:Int)):=by omega
  have hS:(Fg S k)[i]? =some (Fg S k)[i]:=abe U;generalize (Fg S k)[i]=y at hS;obtain⟨v,b⟩:=y;have hv:(ids S k)[i]? =some v:=by rw[<- QS,aiF,hS];rfl
  obtain⟨J,_⟩:=aku.1 (ajF hS);obtain⟨j,hj,O⟩:=Gp.Ses.nH.1 J;have O:v=(j:Int):=by omega
  subst O;have gl:=(ady.1 hj).1;have c:∀m,m<6->_:=h.slot hj;have c0:=c 0 (by omega);have c1:=c 1 (by omega);have c2:=c 2 (by omega);have c3:=c 3 (by omega);have c4:=c 4 (by omega);simp only[ajt,iO,d_] at c0 c1 c2 c3 c4;rw[ab9 u,Δ];refine BJ (hb.sl jc (by omega)) hv λa hc=> ?_;simp only[sx,hc,r0.cell,h.hd.cell,Η,c0,c1,c2,c3,c4];refine⟨by omega,by omega,?_⟩;refine lI (hy w3.heap.size i ((j:Int),(b.bd,b.st,b.un,b.ra,b.rp,()),()) W _ ?_ hq z3 hz ?_ ?_)
  ·simp only[yS,aiF,hS,aik]
  ·intro W' T hq' hf hT;refine⟨true,rfl,?_⟩;simp only[ab6,Β];rw[Α];refine I _ _ ⟨i+1,by omega,by simp,hq',hb.fr hf λc hc=>hT c (n3 c hc) (b3.lt hc),by have:=hf.size;omega⟩ (by simp only;omega)
  ·intro W' hd;refine⟨false,rfl,?_⟩;simp only[aek,Δ];exact .inr hd
 ·have u:¬((i:Int)<(s3.len:Int)):=by omega
  rw[abW u,Β];have:i=(Fg S k).length:=by omega
  subst this;exact .inl ⟨_,hq⟩
end Go.Proofs.SN
end
section
namespace Go.Proofs.AN
open Gp Gp.V4 Go.Proofs Go.Proofs.VN
open Gp.Bind (In64)
variable {w w':θ}
theorem ajh (p:kZ) {o d:fU} (ho:h_ w o p.opts) (hd:h_ w d p.data) (h1:p.opts.length<=2^40) (h2:p.data.length<=2^40) (ad po:Int)
  {K:Int->Int->Int->Int->Int->Int->Int->Bool->Bool->fU->fU->Int->b_}
  (hK:∀x0 x1 x2 x3 x4 x5 x6 x7 x8 x9 h e w',Ext w w'->(adG p p.src ad (-1) po->ahx w.heap.size w' p p.src ad (-1) po x5 x6 h e)->K x0 x1 x2 x3 x4 x5 x6 x7 x8 x9 h e w'):
  KX p.tos p.id p.off p.ttl p.proto p.src p.dst p.df p.mf o d ad po w K:=by
 apply ZY;refine gu λg0 w1 r1 e1 z1 f1=> ?_;refine gu λg1 w2 r2 e2 z2 f2=> ?_;have x2:=f1.trans f2;have u:=r1.ext f2;have za:=f1.size;have zb:=f2.size;refine lK u (Ld_i 5 p.src u ?_);refine ZL p (ho.ext x2) (hd.ext x2) h1 h2 _ _ _ _ λy0 y1 y2 y3 y4 y5 y6 y7 y8 y9 y10 e W hW hR=> ?_;refine StN_f (r2.ext hW) λw4 r4 f4 z4=> ?_;refine lK r4 ?_;refine hK _ _ _ _ _ _ _ _ _ _ _ e w4 ((x2.trans hW).nw f4) λhm=> ?_;obtain⟨q1,q2,q2',q3,q4⟩:=hR hm;exact⟨q1,q2,q2',q3.fr f4 λad ha h0 e=>jW (r2.ext hW) (by simp) q3 ha h0 e,λx hx=>by have:=q4 x hx;omega⟩
def e2 (x:Int×Int):List Value:=[.int .i64 x.1,.int .i64 x.2]
theorem RV (x:Int×Int):(e2 x).length=2:=rfl
theorem ahM (x:Int×Int):∀v∈e2 x,iL v=true:=by
 intro v hv;simp only[e2,afm,ajp,ajV] at hv;rcases hv with rfl|rfl<;>rfl
def alw (f:Int) (ra rp:Int) (l:List (Int×Int)):Prop:=f=0\/(f=1/\∃x∈l,x.1=ra)\/(f=2/\(ra,rp)∈l)
theorem V7 {s:fU} {l:List (Int×Int)} {P:Int×Int->Prop} (hl:s.len=l.length) (hn:l.length<=2^40) {body:Int×Unit->θ->(Int×Unit->b_)->Prop} {K:Int->b_}
  (hK:∀r w',Ext w w'->(decide (r>=0)=true↔∃x∈l,P x)->K r w')
  (hb:∀(j:Nat) x W next,l[j]? =some x->Ext w W->(P x->∀W',Ext w W'->K (j:Int) W')->(¬P x->∀W',Ext w W'->next ((((j+1:Nat):Int)),()) W')->body ((j:Int),()) W next):
  iH (S:=Int×Unit) (λs3 W next=>bif decide (s3.1<(s.len:Int)) then body s3 W next else K (-1) W) (0,()) w:=by
 refine gK (λq W=>∃j:Nat,j<=l.length/\q.1=(j:Int)/\Ext w W/\∀x∈l.take j,¬P x) (λq _=>(s.len - q.1).toNat) ⟨0,by omega,rfl,Ext.refl _,by simp⟩ ?_;rintro⟨i,⟨⟩⟩ W ⟨j,hj,hi,hW,u⟩ next I
 dsimp only at hi ⊢;subst hi;by_cases O:(j:Int)<(s.len:Int)
 ·rw[ab9 O,Δ];have J:j<l.length:=by omega
  have hg:=abe J;have N:=ajm J;refine hb j _ W next hg hW (λhp W' hW'=>hK _ W' hW' ⟨λ_=>⟨_,N,hp⟩,λ_=>by rw[ab9];omega⟩) λhp W' hW'=>I _ _ ⟨j+1,J,rfl,hW',λx hx=> ?_⟩ (by dsimp only;omega)
  rw[ajM J,ajk,aiB] at hx;rcases hx with hx|rfl
  ·exact u x hx
  ·exact hp
 ·rw[abW O,Β];rw[aji (by omega)] at u;exact hK _ W hW ⟨λh=>by simp at h,λ⟨x,hx,hp⟩=>absurd hp (u x hx)⟩
theorem adN (f ra rp:Int) {s:fU} {l:List (Int×Int)} (hs:lD 2 e2 w s l) (hn:l.length<=2^40):Au f ra rp s w λr w'=>(r=true↔alw f ra rp l)/\Ext w w':=by
 apply Qs;refine gu λa w1 r1 e1 z1 f1=> ?_;have hl:=hs.len;by_cases h0:f=0
 ·subst h0;exact⟨⟨λ_=> .inl rfl,λ_=>rfl⟩,f1⟩
 rw[show (f==0)=false by simpa using h0,Β];have hi:∀j:Nat,j<l.length->ο.wrap ((j:Int)+1)=((j+1:Nat):Int):=λj hj=>by rw[Α];rfl
 by_cases h1:f=1
 ·subst h1;show cond true _ _;rw[Δ];apply pz;apply qI;refine V7 (K:=λr w'=>(decide (r>=0)=true↔alw 1 ra rp l)/\Ext w w') (P:=λx=>x.1=ra) hl hn (λr w' hx hr=>⟨hr.trans ⟨λh=> .inr (.inl ⟨rfl,h⟩),λh=> ?_⟩,f1.trans hx⟩) ?_
  ·rcases h with h|⟨_,h⟩|⟨h,_⟩
   ·cases h
   ·exact h
   ·cases h
  intro j x W next hg hW hy I
  refine CN.jE RV (by omega) (hs.ext (f1.trans hW)) (by omega) (by rw[Η];exact hg) λad hc=> ?_;refine iU (k:= .int .i64) (y:=x.1) (hc 0 _ rfl) (iU (k:= .int .i64) (y:=x.2) (hc 1 _ rfl) ?_);refine CN.jZ (by kernel_rfl) ?_;refine Calls.mono (NC (A0:=x.1) (A1:=x.2) (f0:=⟨a,0,none⟩) (w:=W) (K:=λr W'=>r=(x.1==ra)/\Ext W W') ?_) ?_
  ·refine gu λb w2 r2 e2 z2 f2=> ?_;exact Ld_i 0 x.1 r2 (Ld_i 0 ra ((r1.ext hW).ext f2) ⟨rfl,f2⟩)
  rintro ev W' ⟨r,he,rfl,hW'⟩;refine⟨_,he,_,rfl,?_⟩;by_cases hp:x.1=ra
  ·rw[show (x.1==ra)=true by simpa using hp,Δ];exact hy hp W' (hW.trans hW')
  ·rw[show (x.1==ra)=false by simpa using hp,Β,hi j (ady.1 hg).1];exact I hp W' (hW.trans hW')
 rw[show (f==1)=false by simpa using h1,Β];by_cases h2:f=2
 ·subst h2;show cond true _ _;rw[Δ];refine Ld_i 0 ra r1 (Ld_i 1 rp r1 ?_);apply qX;refine gu λb w2 r2 e2 z2 f2=> ?_;refine Ld_i 0 ra r2 (Ld_i 1 rp r2 ?_);apply tK;refine gu λc w3 r3 e3 z3 f3=> ?_;have x3:=(f1.trans f2).trans f3;refine V7 (K:=λr w'=>(decide (r>=0)=true↔alw 2 ra rp l)/\Ext w w') (P:=λx=>x=(ra,rp)) hl hn (λr w' hx hr=>⟨hr.trans ⟨λ⟨x,h,e⟩=> .inr (.inr ⟨rfl,e ▸ h⟩),λh=> ?_⟩,x3.trans hx⟩) ?_
  ·rcases h with h|⟨h,_⟩|⟨_,h⟩
   ·cases h
   ·cases h
   ·exact⟨_,h,rfl⟩
  intro j x W next hg hW hy I
  have u:=hW.trans (Ext.drew W);have r3d:=r3.ext u;refine Ld_i 0 ra r3d (Ld_i 1 rp r3d ?_);refine CN.jE RV (by omega) (hs.ext (x3.trans u)) (by omega) (by rw[Η];exact hg) λad hc=> ?_;refine iU (k:= .int .i64) (y:=x.1) (hc 0 _ rfl) (iU (k:= .int .i64) (y:=x.2) (hc 1 _ rfl) ?_);by_cases hp:x=(ra,rp)
  ·rw[show ((ra==x.1) && ((rp==x.2) && true))=true by subst hp;simp,Δ];exact hy hp _ u
  ·rw[show ((ra==x.1) && ((rp==x.2) && true))=false by
    rw[Bool.eq_false_iff];intro h;simp only[aln,ajq,beq_iff_eq] at h;exact hp (Prod.ext h.1.symm h.2.symm),Β,hi j (ady.1 hg).1]
   exact I hp _ u
 ·rw[show (f==2)=false by simpa using h2,Β];exact⟨⟨λh=>Bool.noConfusion h,λh=>absurd h (by rintro(h|⟨h,_⟩|⟨h,_⟩)<;>omega)⟩,f1⟩
end Go.Proofs.AN
end
section
namespace Go.Proofs.EN
open Gp Gp.V4 Go.Proofs Go.Proofs.AN Go.Proofs.VN
open Gp.Bind (Bnd Slots live GoodB freeN getS In64)
open Gp.Ses (Ses)
variable {w w':θ} {a:EA} {c:Cf} {e:ES}
def rem (e:ES) (id:Int):List (Int×Int):=(SN.Fg e.SS id).map λx=>(x.2.ra,x.2.rp)
theorem agR (h:nK w a c e) (id:Int):uX (some ⟨a.x,0,none⟩) id w λr w'=>lD 2 e2 w' r (rem e id)/\Ext w w':=by
 apply JW;refine gu λq w1 r1 e1 z1 f1=> ?_;have h1:=h.ext f1;refine kF.2 (iU (k:= .ptr) (y:=some ⟨a.T.d,0,none⟩) (by rw[gJ];exact h1.c3) ?_);refine cmS5 (aa6 w1 _ _) ?_;rintro v w5 ⟨f5,g0,g1,rfl,p0,p1⟩;have h5:=h1.ext f5;have r5:=r1.ext f5;have hz5:=f5.size;have lt5:=r5.lt;have O:(SN.Fg e.SS id).length<=4096:=by
  refine ahO (alA _ _) ?_;have:=Gp.Ses.jV e.SS 0;have:=h.sl;have:=h.cf.s1;omega
 have R:(SN.yS (SN.Fg e.SS id)).length=(rem e id).length:=by unfold SN.yS rem;simp
 have hrl:(rem e id).length<=4096:=by unfold rem;rw[ahv];exact O
 refine ac_ (SN.ae0 c.ns.toNat e.SS e.M a.T g0 g1 id) (λN i W=>w5.heap.size+1<N/\∃t,Row W q [.slice t.a t.len t.cap]/\iY 2 e2 W t ((rem e id).take i)/\gU w5 W (·=q)/\∀b,fU.at t b->N<=b) ?_ ?_ ?_ ?_ ?_
 ·intro W hx hz;exact⟨by omega,⟨none,0,0⟩,r5.ext hx,by simpa using iY.nil,hx _,λb ⟨o,hb⟩=>by cases hb⟩
 ·rintro N i W ⟨_,t,k1,k2,k3,k4⟩;have ne:∀{b v},Row w5 b [v]->(∀t:fU,v≠.slice t.a t.len t.cap)->b≠q:=by
   rintro b v hr hv rfl;have c1:=hr.cell 0;rw[r5.cell] at c1;simp only[abY,afM] at c1;exact hv ⟨none,0,0⟩ c1.symm
  exact⟨p0.fr k3 (ne p0 (by simp)),p1.fr k3 (ne p1 (by simp)),h5.se.fr k3 λb hb e=>by have:=h.lt 4 b hb;omega⟩
 ·rintro N i W W' ⟨hN,t,k1,k2,k3,k4⟩ hf;exact⟨hN,t,k1.fr hf (by omega),k2.fr hf λb hb e=>by have:=k4 b hb;omega,k3.trans hf λb hb e=>by omega,k4⟩
 ·rintro N i x W Kb hx ⟨_,t,k1,k2,k3,k4⟩ hN hNW hk;have hb:∃p,(SN.Fg e.SS id)[i]? =some p/\x=(p.1,(p.2.bd,p.2.st,p.2.un,p.2.ra,p.2.rp,()),()):=by
   unfold SN.yS at hx;rw[aiF] at hx
   cases hp:(SN.Fg e.SS id)[i]? with
   |none=>rw[hp] at hx;cases hx
   |some p=>rw[hp] at hx;exact⟨p,rfl,(akT hx).symm⟩
  obtain⟨p,hp,rfl⟩:=hb;have hil:=(ady.1 hp).1;have hr:(rem e id)[i]? =some (p.2.ra,p.2.rp):=by unfold rem;rw[aiF,hp];rfl
  have U:=(ady.1 hr).1;refine gu λu w6 r6 e6 z6 f6=> ?_;refine gZ r6 rfl rfl λw7 r7 f7' z7=> ?_;have x7:Ext W w7:=f6.new (f7' (·=u) rfl) λy hy e=>by omega
  refine⟨(x7 λ_=>False).same _ (by omega) (by simp),?_⟩;have fb:=gU.gG w7 (w5.heap.size+1);have zb:(gG w7 (w5.heap.size+1)).heap.size=w7.heap.size:=by simp[gG]
  have q8:=(k1.ext x7).fr fb (by omega);have b8:=(k2.ext x7).fr fb λb hb e=>by have:=k4 b hb;omega
  have u8:=r7.fr fb (by omega);refine Ld_s 0 t q8 ?_;refine iU (k:= .int .i64) (y:=p.2.ra) (by rw[gJ,gJ,u8.cell];rfl) (iU (k:= .int .i64) (y:=p.2.rp) (by rw[gJ,gJ,u8.cell];rfl) ?_);refine gu λy w8 r8 e8 z8 f8=> ?_;have sl:lD 2 e2 w8 ⟨some ⟨y,0,none⟩,1,1⟩ [(p.2.ra,p.2.rp)]:=(iY.row (xs:=[(p.2.ra,p.2.rp)]) (by simpa [e2] using r8)).sl RV (by omega);refine mX RV (b8.ext f8) sl rfl (by omega) ahM (by simp;omega) (by simp;omega) λs' w9 b9 f9 n9=> ?_;have Y:¬fU.at t q:=λhb=>by have:=k4 q hb;omega
  have q9:=(q8.ext f8).fr f9 Y;refine gX q9 rfl (by simp) λI Z J z10=> ?_;have f10:gU w9 I (·=q):=J _ rfl;have hz7:=x7.size;have hs':∀b,fU.at s' b->N<=b:=λb hb=>by
   rcases n9 b hb with h|h
   ·exact k4 b h
   ·omega
  have fr:gU (gG W (w5.heap.size+1)) I (λb=>b=q\/fU.at t b):=
   (((CN.QG (x7 _) _).ext f8).trans f9 λb _ hb=> .inr hb).trans f10 λb _ hb=> .inl hb
  refine hk I _ fr ?_ ⟨by omega,s',Z,?_,?_,hs'⟩
  ·rintro b hb1 hb2 (h|h)
   ·omega
   ·have:=k4 b h;omega
  ·rw[ajM U,(ady.1 hr).2];exact b9.fr f10 λb hb e=>by have:=hs' b hb;omega
  ·refine(k3.trans (gU.gG W _) λb hb e=>by omega).trans fr ?_;rintro b hb (h|h)
   ·exact h
   ·have:=k4 b h;omega
 ·rintro N W ⟨hN,t,k1,k2,k3,k4⟩ hm;refine Ld_s 0 t k1 ⟨hm rfl,?_⟩;have fp:=gU.pJ W w5.heap.size (.deferred none);have k2':=k2.fr fp λb hb e=>by have:=k4 b hb;omega
  rw[R,ajU] at k2';refine⟨k2'.sl RV (by omega),?_⟩;exact((((f1.trans f5).fr k3).ext (Ext.refl _)).trans (fp.mono (S':=λb=>b=q\/b=w5.heap.size) λb e=> .inr e) λb hb e=>by omega).new λb hb e=>by omega
end Go.Proofs.EN
end
section
namespace Go.Proofs.EN
open Gp Gp.V4 Go.Proofs Go.Proofs.AN Go.Proofs.VN
open Gp.Bind (Bnd Slots live GoodB freeN getS In64)
open Gp.Ses (Ses)
variable {w w':θ} {a:EA} {c:Cf} {e:ES}
theorem ad3 (h:nK w a c e) (hm:CfM c):w.cell? (Addr.add (Addr.add ⟨a.x,0,none⟩ 5) 29)=some (.int .i64 (ci c 29)):=by
 obtain⟨A0,A1,A2,A3,A4,A5,A6,A7,A8,A9,A10,A11,A12,A13,A14,A15,A16,A17,A18,A19,A20,A21,A22,A23,A24,A25,A26,A27,A28,A29,A30,A31,A32,A33,A34,A35,hC,_⟩:=hm.wt;rw[gJ,gJ,h.hd.cell];unfold ci;rw[hC];rfl
theorem af_ (h:nK w a c e) (hm:CfM c) (p:kZ) (hg:DR p) (hl:p.data.length<=60000) {o d:fU} (ho:h_ w o p.opts) (hd:h_ w d p.data) (h1:p.opts.length<=2^40)
  (ai:∀(j:Nat) (b:Bnd),e.S[j]? =some (some b)->aeU c b)
  {K:Int->Int->Int->Int->Int->Int->Int->Int->Bool->Bool->fU->fU->Int->b_}
  (hD:∀x0 x1 x2 x3 x4 x5 x6 x7 x8 x9 R why w',Ext w w'->((why=9/\e.Mo (Bind.keyS [17,p.dst,(wordAt p.data 2:Int)])=none)\/(why=10/\∃(j:Nat) (b:Bnd),e.Mo (Bind.keyS [17,p.dst,(wordAt p.data 2:Int)])=some (j:Int)/\e.S[j]? =some (some b)/\b.st=false/\¬alw (ci c 29) p.src (wordAt p.data 0:Int) (rem e (j:Int))))->K 0 x0 x1 x2 x3 x4 x5 x6 x7 x8 x9 R why w')
  (hK:∀i x0 x1 x2 x3 x4 x5 x6 x7 x8 x9 R w',Ext w w'->(∃(j:Nat) (b:Bnd),e.Mo (Bind.keyS [17,p.dst,(wordAt p.data 2:Int)])=some (j:Int)/\e.S[j]? =some (some b)/\(b.st=true\/alw (ci c 29) p.src (wordAt p.data 0:Int) (rem e (j:Int)))/\i=b.sw/\x6=b.ad)->K i x0 x1 x2 x3 x4 x5 x6 x7 x8 x9 R 0 w'):
  oW (some ⟨a.x,0,none⟩) p.tos p.id p.off p.ttl p.proto p.src p.dst p.df p.mf o d w K:=by
 have h2:p.data.length<=2^40:=by omega
 obtain⟨g1,g2,g3,g4,g5⟩:=id hg;apply NK;refine gu λb1 w1 r1 e1 z1 f1=> ?_;refine gu λb2 w2 r2 e2 z2 f2=> ?_;have x2:=f1.trans f2;have r1:=r1.ext f2;have za:=f1.size;have zb:=f2.size;have fin:∀(W:θ) (why:Int),Ext w2 W->((why=9/\e.Mo (Bind.keyS [17,p.dst,(wordAt p.data 2:Int)])=none)\/(why=10/\∃(j:Nat) (b:Bnd),e.Mo (Bind.keyS [17,p.dst,(wordAt p.data 2:Int)])=some (j:Int)/\e.S[j]? =some (some b)/\b.st=false/\¬alw (ci c 29) p.src (wordAt p.data 0:Int) (rem e (j:Int))))->
   ig ξ W ⟨b2,0,none⟩ 0 λU=>iC U ⟨b2,0,none⟩ λy0 y1 y2 y3 y4 y5 y6 y7 y8 y9 ac=>K 0 y0 y1 y2 y3 y4 y5 y6 y7 y8 y9 ac why U:=by
  intro W why hW hL;refine StN_f (r2.ext hW) λw4 r4 f4 z4=> ?_;refine lK r4 ?_;exact hD _ _ _ _ _ _ _ _ _ _ _ why w4 ((x2.trans hW).nw f4) hL
 intro J7;have hJ7:∀W,Ext w2 W->J7 false W:=by
  intro W hW;simp -zeta only[J7];rw[Β];have r1W:=r1.ext hW;have xW:=x2.trans hW;refine lK r1W ?_;refine Wx p (hd.ext xW) h2 λk1 k2 k3 d' is w3 m f3 hd' hml aj=> ?_;refine gu λb3 w4 r4 e4 z4 f4=> ?_;refine StN_f r4 λw5 r5 f5 z5=> ?_;have g5':=f3.trans (f4.nw f5)
  cases is
  rotate_left
  ·have:=aj rfl;omega
  rw[Β];refine lK (r1W.ext g5') ?_;refine cmS10 (ae8 p (ho.ext (xW.trans g5')) (hd.ext (xW.trans g5')) h1 h2) ?_;rintro x y z ee w6 ⟨⟨_,_,hp0,ak⟩,f6⟩;obtain⟨rfl,rfl,rfl⟩:=ak hg;obtain⟨rfl,_⟩:=hp0 rfl;refine gu λb4 w7 r7 e7 z7 f7=> ?_;refine StN_f r7 λw8 r8 f8 z8=> ?_;have g8:Ext W w8:=(g5'.trans f6).trans (f7.nw f8);rw[show ((0:Int) !=0)=false from rfl,Β];have g8d:=g8.trans (Ext.drew w8);have x8:=xW.trans g8d;have hE8:=h.ext x8;refine kF.2 (iU (k:= .ptr) (y:=some ⟨a.B.d,0,none⟩) (by rw[gJ];exact hE8.c2) ?_);refine Ld_i 0 p.proto r8.drew (Ld_i 6 p.dst (r1W.ext g8d) (Ld_i 2 (wordAt p.data 2:Int) r8.drew ?_));have idst:In64 p.dst:=by
   have:=(oH g2).1.2.1.2;unfold kG at this;unfold In64;omega
  have isrc:In64 p.src:=by
   have:=(oH g2).1.2.1.1;unfold kG at this;unfold In64;omega
  have iw:∀i,In64 (wordAt p.data i:Int):=λi=>by have:=Pv p.data i;unfold In64;omega
  rw[g1];have i3:∀n∈[(17:Int),p.dst,(wordAt p.data 2:Int)],In64 n:=by
   intro n hn;simp only[afm,ajp,ajV] at hn;rcases hn with rfl|rfl|rfl
   ·decide
   ·exact idst
   ·exact iw 2
  refine cmS3 (RI hE8.db 17 p.dst _ i3) ?_;rintro n t w9 ⟨rfl,rfl,f9⟩;have g9:=g8d.trans f9
  cases N:e.Mo (Bind.keyS [17,p.dst,(wordAt p.data 2:Int)]) with
  |none=>
   rw[aj_,aek,Δ];exact fin w9 9 (hW.trans g9) (.inl ⟨rfl,N⟩)
  |some v=>
  rw[ajv,ab6,Β,ajY];obtain⟨j,b,hj,_,rfl⟩:=(h.db.good.o _ _).1 N;have am:getS e.S (j:Int)=some b:=Gp.Bind.nV.2 ⟨by omega,by rw[Η];exact hj⟩;have hE9:=h.ext (xW.trans g9);refine kF.2 (iU (k:= .ptr) (y:=some ⟨a.B.d,0,none⟩) (by rw[gJ];exact hE9.c2) ?_);refine cmS14 (Jh hE9.db _) ?_;rintro a1 a2 a3 a4 a5 a6 a7 a8 r w10 ⟨_,hR,f10⟩;rw[am] at hR;obtain⟨rfl,rfl,rfl,rfl,rfl,rfl,rfl,rfl⟩:=hR;refine gu λb5 U an e11 z11 f11=> ?_;refine StN_f an λae ao f12 z12=> ?_;have zf10:=f10.size;have g12:Ext w8.drew ae:=f9.trans (f10.trans (f11.nw f12));have r1C:=(r1W.ext g8d).ext g12;refine Ld_i 0 p.proto (r8.drew.ext g12) (Ld_i 5 p.src r1C (Ld_i 1 (wordAt p.data 0:Int) (r8.drew.ext g12) ?_));refine cmS13 (Ph _ _ _ _) ?_;rintro _ _ w13 ⟨rfl,rfl,f13⟩;rw[Ε (by omega)];have hE13:=(hE8.ext g12).ext f13;have ij:In64 (j:Int):=by
   have:=(ady.1 hj).1;have:=h.db.len;have:=h.cf.b1;unfold In64;omega
  refine find_ok hE13 (j:Int) true p.src _ (by
   intro n hn;simp only[afm,ajp,ajV] at hn;rcases hn with rfl|rfl|rfl
   ·exact ij
   ·exact isrc
   ·exact iw 0) λw14 f14=> ?_
  generalize WQ e true (j:Int) p.src (wordAt p.data 0:Int)=so;generalize agV e so=st;refine gu λb6 w15 aq e15 z15 f15=> ?_;refine StN_f aq λu Y f16 z16=> ?_;have g16:Ext ae u:=f13.trans (f14.trans (f15.nw f16));have g16d:=g16.trans (Ext.drew u);have r1D:=r1C.ext g16d;have r12D:=ao.ext g16d;intro J168;have af:∀W',Ext u.drew W'->(b.st=true\/alw (ci c 29) p.src (wordAt p.data 0:Int) (rem e (j:Int)))->J168 false W':=by
   intro W' hW' Z;simp -zeta only[J168];rw[Β];have aa:=Y.drew.ext hW';have r1':=r1D.ext hW';refine rd7 aa (lK r1' ?_);apply Io;refine gu λb7 ar r17 e17 z17 f17=> ?_;refine gu λb8 I au e18 z18 f18=> ?_;refine Ld_i 4 p.proto au ?_;rw[show (p.proto !=6)=true by rw[g1];rfl,Δ];show cond false _ _;rw[Β];have J:=hW'.trans (f17.trans f18);have xx:Ext w I:=(xW.trans g8d).trans (g12.trans (g16d.trans J));refine lK (r1D.ext J) ?_;refine Ld_i 2 b.ad (r12D.ext J) (Ld_i 3 b.po (r12D.ext J) ?_);refine ajh p (ho.ext xx) (hd.ext xx) h1 h2 b.ad b.po λy0 y1 y2 y3 y4 y5 y6 y7 y8 y9 ac ee w19 f19 hM=> ?_;have ag:=ai j b hj;have hM:=hM ⟨hg,⟨(oH g2).1.2.1.1,by unfold kG;have:=ag.2.1;omega⟩,by have:=ag.2.2.2.1;omega,hl⟩;refine gu λb9 w20 av e20 z20 f20=> ?_;refine StN_f av λab aw f21 z21=> ?_;have ah:Ext I ab:=f19.trans (f20.nw f21);have y21d:=(J.trans ah).trans (Ext.drew ab);refine Ld_i 0 b.sw (r12D.ext y21d) (lK aw.drew ?_);refine StN_f ((r2.ext (((hW.trans g8d).trans (g12.trans g16d)).trans y21d))) λax ay f22 z22=> ?_;refine lK ay ?_;exact hK _ _ _ _ _ _ _ _ _ _ _ _ ax (((xx.trans ah).trans (Ext.drew ab)).nw f22) ⟨j,b,N,hj,Z,rfl,hM.dst⟩
  have az:∀W',Ext u.drew W'->b.st=false->¬alw (ci c 29) p.src (wordAt p.data 0:Int) (rem e (j:Int))->J168 true W':=by
   intro W' hW' O Z;simp -zeta only[J168];rw[Δ];exact fin W' 10 (((hW.trans g8d).trans (g12.trans g16d)).trans hW') (.inr ⟨rfl,j,b,N,hj,O,Z⟩)
  clear_value J168;refine Ld_b 7 b.st r12D ?_
  cases O:b.st
  rotate_left
  ·rw[ab6,Β];exact af _ (Ext.refl _) (.inl O)
  rw[aek,Δ];have hE16:=hE8.ext (g12.trans g16d);have c5:∀{V:θ},Ext u.drew V->V.cell? (Addr.add (Addr.add ⟨b6,0,none⟩ 5) 0)=some (.int .i64 p.src)/\V.cell? (Addr.add (Addr.add ⟨b6,0,none⟩ 5) 1)=some (.int .i64 (wordAt p.data 0:Int)):=λhV=>⟨by rw[gJ,gJ,(Y.drew.ext hV).cell];rfl,by rw[gJ,gJ,(Y.drew.ext hV).cell];rfl⟩;obtain⟨k5,k6⟩:=c5 (Ext.refl _);refine kF.2 (iU (k:= .int .i64) (y:=ci c 29) (ad3 hE16 hm) (iU (k:= .int .i64) (y:=p.src) k5 (iU (k:= .int .i64) (y:=(wordAt p.data 0:Int)) k6 ?_)));refine cmS2 (agR hE16 _) ?_;rintro rs ar ⟨aA,f17⟩;obtain⟨k5',k6'⟩:=c5 f17;refine⟨k5',k6',ad3 (hE16.ext f17) hm,?_⟩;have aB:(rem e (j:Int)).length<=2^40:=by
   unfold rem;rw[ahv];refine ahO (alA _ _) ?_;have:=Gp.Ses.jV e.SS 0;have:=h.sl;have:=h.cf.s1;omega
  refine cmS0 (adN _ _ _ aA aB) ?_;rintro rr I ⟨hr,f18⟩
  cases rr
  ·exact az I (f17.trans f18) O λhh=>by have:=hr.2 hh;cases this
  ·exact af I (f17.trans f18) (.inr (hr.1 rfl))
 clear_value J7;refine cmS0 (Ji (h.ext x2)) ?_;rintro q w3 ⟨rfl,hw⟩;subst hw;rw[ab6,Β];refine lK r1 ?_;refine cmS0 (Wy p (ho.ext x2) (hd.ext x2) h1 h2) ?_;rintro q w3 ⟨rfl,f3⟩;rw[ab9 g2,g3,ab9 g4];exact hJ7 w3 f3
end Go.Proofs.EN
end
section
namespace Go.Proofs.EN
open Gp Gp.V4 Go.Proofs Go.Proofs.AN Go.Proofs.VN
open Go.Proofs.CN (T16 T7 e16 e7 OkP fineP chk chk_one refbase_ok base_good base_fine)
open Gp.Bind (Bnd Slots live GoodB freeN getS In64)
open Gp.Ses (Ses)
theorem ags {e:ES} {j:Int} {x:Int×Int}:x∈rem e j↔∃(k:Nat) (s:Ses),e.SS[k]? =some (some s)/\s.bd=j/\(s.ra,s.rp)=x:=by
 unfold rem SN.Fg;rw[ajX];constructor
 ·rintro⟨⟨v,s⟩,hv,hx⟩;obtain⟨h1,h2⟩:=aku.1 hv;obtain⟨k,h3,_⟩:=Gp.Ses.nH.1 h1;exact⟨k,s,h3,by simpa using h2,hx⟩
 ·rintro⟨k,s,h1,h2,h3⟩;exact⟨((k:Int),s),aku.2 ⟨Gp.Ses.nH.2 ⟨k,h1,by omega⟩,by simpa using h2⟩,h3⟩
theorem take1:PN.CO 17 5000 1 1024 65535 [3325256705] []=some (17,3325256705,5000):=rfl
theorem dgw {a b src dst:Nat} (ha:a<4294967296) (hb:b<4294967296) (h1:src<65536) (h2:dst<65536):DR (uz a b src dst 9 [])/\wordAt (uz a b src dst 9 []).data 0=src/\wordAt (uz a b src dst 9 []).data 2=dst/\(uz a b src dst 9 []).data.length=8:=by
 obtain⟨q1,q2,q3,_,q5⟩:=RP (l:=[]) ha hb h1 h2 (show 9<256 by omega) (by simp);exact⟨q1,q2,q3,q5⟩
theorem ahk {w:θ} {a:EA} {c:Cf} {e:ES} (h:nK w a c e) (hm:CfM c) (hI:Inv c e) (O:ci c 29=2) {j k:Nat} {b:Bnd} {s:Ses} (hj:e.S[j]? =some (some b)) (hb:b.o=[17,3325256705,5000]/\b.st=false)
  (hk:e.SS[k]? =some (some s)) (hs:s.bd=(j:Int)) (ho:∀(k':Nat) (s':Ses),e.SS[k']? =some (some s')->s'=s) (src:Nat) (I:src<4294967296) {o d:fU} (bo:h_ w o (uz src 3325256705 53 5000 9 []).opts) (bd:h_ w d (uz src 3325256705 53 5000 9 []).data)
  {K:Int->Int->Int->Int->Int->Int->Int->Int->Bool->Bool->fU->fU->Int->b_}
  (hD:∀x0 x1 x2 x3 x4 x5 x6 x7 x8 x9 u w',Ext w w'->(s.ra,s.rp)≠((src:Int),53)->K 0 x0 x1 x2 x3 x4 x5 x6 x7 x8 x9 u 10 w')
  (hK:∀x0 x1 x2 x3 x4 x5 x7 x8 x9 u w',Ext w w'->(s.ra,s.rp)=((src:Int),53)->K b.sw x0 x1 x2 x3 x4 x5 b.ad x7 x8 x9 u 0 w'):
  oW (some ⟨a.x,0,none⟩) (uz src 3325256705 53 5000 9 []).tos (uz src 3325256705 53 5000 9 []).id (uz src 3325256705 53 5000 9 []).off (uz src 3325256705 53 5000 9 []).ttl (uz src 3325256705 53 5000 9 []).proto (uz src 3325256705 53 5000 9 []).src (uz src 3325256705 53 5000 9 []).dst (uz src 3325256705 53 5000 9 []).df (uz src 3325256705 53 5000 9 []).mf o d w K:=by
 obtain⟨q1,q2,q3,q4⟩:=dgw (a:=src) (b:=3325256705) (src:=53) (dst:=5000) I (by omega) (by omega) (by omega);have J:e.Mo (Bind.keyS [17,3325256705,5000])=some (j:Int):=(h.db.good.o _ _).2 ⟨j,b,hj,by rw[hb.1],rfl⟩;have N:alw (ci c 29) (src:Int) 53 (rem e (j:Int))↔(s.ra,s.rp)=((src:Int),53):=by
  unfold alw;rw[O,ags];constructor
  ·rintro(h|⟨h,_⟩|⟨_,k',s',g1,_,g3⟩)
   ·omega
   ·omega
   ·rw[ho k' s' g1] at g3;exact g3
  ·exact λh=> .inr (.inr ⟨rfl,k,s,hk,hs,h⟩)
 have same:∀{j':Nat} {b':Bnd},e.Mo (Bind.keyS [17,3325256705,5000])=some (j':Int)->e.S[j']? =some (some b')->j'=j/\b'=b:=by
  intro j' b' h1 h2;rw[J] at h1;have:j=j':=by have:=akT h1;omega
  subst this;rw[hj] at h2;exact⟨rfl,(by simpa using h2:b=b').symm⟩
 refine af_ h hm _ q1 (by omega) bo bd (by simp[uz]) hI.mp ?_ ?_
 ·intro x0 x1 x2 x3 x4 x5 x6 x7 x8 x9 u why w' hx hw;rw[q2,q3] at hw;rcases hw with ⟨_,h⟩|⟨rfl,j',b',g1,g2,_,g4⟩
  ·have h:e.Mo (Bind.keyS [17,3325256705,5000])=none:=h;rw[J] at h;cases h
  ·obtain⟨rfl,rfl⟩:=same g1 g2;exact hD _ _ _ _ _ _ _ _ _ _ _ w' hx λhh=>g4 (N.2 hh)
 ·intro i x0 x1 x2 x3 x4 x5 x6 x7 x8 x9 u w' hx hw;rw[q2,q3] at hw;obtain⟨j',b',g1,g2,g3,rfl,rfl⟩:=hw;obtain⟨rfl,rfl⟩:=same g1 g2;rcases g3 with g3|g3
  ·rw[hb.2] at g3;cases g3
  ·exact hK _ _ _ _ _ _ _ _ _ _ w' hx (N.1 g3)
theorem adV {w:θ} (hH:Hdl w):jY w λr w'=>r=true/\Ext w w':=by
 have h00:0<w.heap.size:=cell_lt hH;apply TG;refine cmS20 (refbase_ok w) ?_;rintro p0 p1 p2 p3 p4 p5 p6 p7 p8 p9 p10 p11 p12 p13 p14 p15 sw po n18 n19 n20 n21 n22 n23 n24 n25 n26 n27 n28 n29 n30 n31 n32 n33 n34 st w1 ⟨bs,bp,hB,rfl,rfl,rfl,rfl,rfl,rfl,rfl,rfl,rfl,rfl,rfl,rfl,rfl,rfl,rfl,rfl,rfl,rfl,rfl,rfl,rfl,rfl,rfl,rfl,rfl,rfl,rfl,rfl,rfl,rfl,rfl,rfl,rfl,rfl,rfl,rfl⟩;have hz:∀{W:θ},lD 7 e7 W ⟨none,0,0⟩ ([]:List T7):=λ{W}=>lD.nil;refine abD hB.sl hB.pl hz (by simp) (by simp) (by simp) (λr w' _ hr hc=>absurd (chk_one hc (.inr ⟨base_good,.inr ⟨base_fine,rfl⟩⟩)) hr) λaf u w2 a e f2 hE hI _ hM U=> ?_;obtain⟨hm,_,_⟩:=cfm (p0:=32) (p1:=1) (p2:=13) (p3:=184) (p4:=0) (p5:=0) (p6:=0) (p7:=0) (p8:=0) (p9:=0) (p10:=0) (p11:=0) (p12:=0) (p13:=0) (p14:=0) (p15:=1) (st:=⟨none,0,0⟩) rfl af u;have hG:=gd0 hM hI;have he:e=e0 2 64 128:=by
  have hM:Maps _ (e0 2 64 128) [] e:=hM;generalize hq:([]:List Bnd)=q at hM
  cases hM with
  |nil=>rfl
  |no=>simp at hq
  |yes=>simp at hq
 subst he;have x2:=hB.ext.trans f2;intro J;have hJ:J false->(bif Option.isNone (some (⟨a.x,0,none⟩:Addr)) then J true else J ((0:Int) !=0)):=λh=>h;refine hJ ?_;simp -zeta only[J];rw[Β];refine cmS2 (Xv (l:=[]) (a:=167772161) (b:=3221225985) (src:=5000) (dst:=53) (ttl:=9) h_.nil (by simp) (by omega) (by omega) (by omega) (by omega) (by omega)) ?_;rintro rr w3 ⟨I,f3⟩;refine RQ (a:=167772161) (b:=3221225985) (src:=5000) (dst:=53) (ttl:=9) (by omega) (by omega) (by omega) (by omega) (by omega) I λo d w4 f4 ⟨bo,bd,no,nd⟩=> ?_;obtain⟨q1,q2,q3,q4⟩:=dgw (a:=167772161) (b:=3221225985) (src:=5000) (dst:=53) (by omega) (by omega) (by omega) (by omega);have O:=f3.trans f4;have Z:∀b,jq a b->w1.heap.size<=b:=λb ⟨k,hk⟩=>U k b hk;have hl2:∀b,jq a b->b<w3.heap.size:=λb ⟨k,hb⟩=>(hE.ext f3).lt k b hb;have hz1:=hB.ext.size;have N:∀c:Cf,c.sw.len=2->Law c 1 (uz 167772161 3221225985 5000 53 9 []):=λc hc=>⟨⟨by omega,by rw[hc];omega⟩,q1,by omega⟩;refine out_ok (hE.ext O) hG hm (by show (0:Int)<_;omega) (hH.ext (x2.trans O)) (λh=>by have:=Z 0 h;omega) 1 (uz 167772161 3221225985 5000 53 9 []) bo bd (by simp[uz]) (by omega)
  (λad ha _ ho=>by have:=no ad ha;have:=hl2 _ ho;omega) (λad ha _ ho=>by have:=nd ad ha;have:=hl2 _ ho;omega) ?_ ?_
 ·intro x0 x1 x2' x3 x4 x5 x6 x7 x8 x9 ag why w5 hx5 hL;exfalso;obtain⟨hf,_⟩:=hL (N _ rfl);rw[q2] at hf;rcases hf with ⟨_,h⟩|⟨_,h|h⟩|⟨_,h⟩
  ·have h:(16:Int)<=0:=h;omega
  ·have h:(64:Int)<=((live 0 (List.replicate 64 none)).length:Int):=h;rw[sD] at h;simp at h
  ·have h:(128:Int)<=((Gp.Ses.live 0 (List.replicate 128 none)).length:Int):=h;rw[Js] at h;simp at h
  ·have h:PN.CO 17 5000 1 1024 65535 [3325256705] []=none:=h;rw[take1] at h;cases h
 intro x0 x1 x2' x3 x4 x5 x6 x7 x8 x9 ag w5 a3 e3 hf5 hE5 hG5 hgr5 Y _ hL;obtain⟨⟨j,b,k,s,g1,g2,g3,g4,g5,g6,g7,g8,g9,_,rfl,_,gS,gT⟩,_⟩:=hL (N _ rfl);rw[q3] at g9;rw[q2] at gT;obtain⟨gT,gst⟩:=gT rfl;have gT:PN.CO 17 5000 1 1024 65535 [3325256705] []=some (b.opr,b.oad,b.opo):=gT;rw[take1] at gT;have gT:=akT gT;simp only[akd] at gT;obtain⟨t1,t2,t3⟩:=gT;have aa:b.o=[17,3325256705,5000]:=by unfold Bnd.o;rw[<- t1,<- t2,<- t3]
 have hz3:=O.size;have x5w:Ext w w5:=((x2.trans O).fr hf5).new λy hy ho=>by have:=Z y ho;omega
 refine gu λu1 w6 r6 e6 z6 f6=> ?_;refine StN_f r6 λw7 r7 f7 z7=> ?_;have y7:Ext w5 w7:=f6.nw f7;intro R;have hJ73:R false->(bif ((0:Int) !=0) then R true else Ld ν w7 (Addr.add ⟨u1,0,none⟩ 5) λx140=>R (x140 !=3325256705)):=λh=>Ld_i 5 b.oad r7 (by rw[<- t2];exact h);refine hJ73 ?_;simp -zeta only[R];rw[Β];have ho:∀(k':Nat) (s':Ses),e3.SS[k']? =some (some s')->s'=s:=by
  intro k' s' h;rw[gS,ajo] at h;split at h
  ·split at h
   ·exact(by simpa using h:s=s').symm
   ·cases h
  ·have h:(List.replicate 128 (none:Option Ses))[k']? =some (some s'):=h;rw[akb] at h;split at h<;>cases h
 rw[<- Y];refine cmS2 (Xv (l:=[]) (a:=3221225985) (b:=3325256705) (src:=53) (dst:=5000) (ttl:=9) h_.nil (by simp) (by omega) (by omega) (by omega) (by omega) (by omega)) ?_;rintro rr w8 ⟨I,f8⟩;refine RQ (a:=3221225985) (b:=3325256705) (src:=53) (dst:=5000) (ttl:=9) (by omega) (by omega) (by omega) (by omega) (by omega) I λo d w9 f9 ⟨bo,bd,_,_⟩=> ?_;have y9:=y7.trans (f8.trans f9);refine ahk (hE5.ext y9) hm hG5.inv rfl g1 ⟨aa,gst⟩ g6 g7 ho 3221225985 (by omega) bo bd ?_ ?_
 ·intro _ _ _ _ _ _ _ _ _ _ _ _ _ ah;exact absurd (by rw[g8,g9];rfl) ah
 intro z0 z1 z2 z3 z4 z5 z7' z8 z9 z10 w10 f10 _;refine gu λu2 w11 ai e11 z11 f11=> ?_;refine StN_f ai λab aj f12 z12=> ?_;have ac:Ext w5 ab:=(y9.trans f10).trans (f11.nw f12);refine cmS2 (Xv (l:=[]) (a:=3221225986) (b:=3325256705) (src:=53) (dst:=5000) (ttl:=9) h_.nil (by simp) (by omega) (by omega) (by omega) (by omega) (by omega)) ?_;rintro rr w13 ⟨I,f13⟩;refine RQ (a:=3221225986) (b:=3325256705) (src:=53) (dst:=5000) (ttl:=9) (by omega) (by omega) (by omega) (by omega) (by omega) I λo d w14 f14 ⟨bo,bd,_,_⟩=> ?_;have g14:=f13.trans f14;have ak:=ac.trans g14;refine ahk (hE5.ext ak) hm hG5.inv rfl g1 ⟨aa,gst⟩ g6 g7 ho 3221225986 (by omega) bo bd ?_ ?_;rotate_left
 ·intro _ _ _ _ _ _ _ _ _ _ _ _ ae;rw[g8,g9] at ae;have:=congrArg Prod.fst ae;have:(3221225985:Int)=3221225986:=this;omega
 intro v0 v1 v2 v3 v4 v5 v6 v7 v8 v9 v10 w15 f15 _;refine gu λu3 w16 am e16 z16 f16=> ?_;refine StN_f am λan r17 f17 z17=> ?_;have g17:Ext ab an:=(g14.trans f15).trans (f16.nw f17);intro J137;have hJ137:J137 true:=⟨rfl,(x5w.trans ac).trans g17⟩;clear_value J137;rw[show ((0:Int)==0)=true from rfl,Δ,g2,show ((1:Int)==1)=true from rfl,Δ];refine Ld_i 6 b.ad (aj.ext g17) ?_;rw[g4];exact hJ137
end Go.Proofs.EN
end
section
namespace Go.Proofs.AN
open Gp Go.Proofs.CN
abbrev ajd:jk:= .arr 16 (.int .u8) 1
abbrev agW:jk:= .agg (.cons (.agg (.cons (.int .i64) 1 (.cons (.int .i64) 1 (.cons (.int .i64) 1 (.cons (.int .i64) 1 .nil))))) 4 (.cons (.agg (.cons (.int .i64) 1 (.cons (.int .i64) 1 (.cons (.int .i64) 1 .nil)))) 3 .nil))
def aje (l:List Int):T16:=(l.getD 0 0,l.getD 1 0,l.getD 2 0,l.getD 3 0,l.getD 4 0,l.getD 5 0,l.getD 6 0,l.getD 7 0,l.getD 8 0,l.getD 9 0,l.getD 10 0,l.getD 11 0,l.getD 12 0,l.getD 13 0,l.getD 14 0,l.getD 15 0,())
def ajg (x:agW.T):T7:=(x.1.1,x.1.2.1,x.1.2.2.1,x.1.2.2.2.1,x.2.1.1,x.2.1.2.1,x.2.1.2.2.1,())
theorem ϑ {l:List Int} (h:l.length=16):∃p0 p1 p2 p3 p4 p5 p6 p7 p8 p9 p10 p11 p12 p13 p14 p15:Int,l=[p0,p1,p2,p3,p4,p5,p6,p7,p8,p9,p10,p11,p12,p13,p14,p15]:=by
 match l,h with
 |[p0,p1,p2,p3,p4,p5,p6,p7,p8,p9,p10,p11,p12,p13,p14,p15],_=>exact⟨p0,p1,p2,p3,p4,p5,p6,p7,p8,p9,p10,p11,p12,p13,p14,p15,rfl⟩
theorem ais {w:θ} {x:(jk.slice ajd 16).T} (h:(jk.slice ajd 16).In w x):lD 16 e16 w x.1 (x.2.map aje):=
 YJ (by decide) h aje e16 qx λy hy=>by
  obtain⟨p0,p1,p2,p3,p4,p5,p6,p7,p8,p9,p10,p11,p12,p13,p14,p15,rfl⟩:=ϑ hy.1;rfl
theorem ahY {w:θ} {x:(jk.slice (.int .i64) 1).T} (h:(jk.slice (.int .i64) 1).In w x):lD 1 eI w x.1 (x.2.map λy:Int=>y):=
 YJ (d:= .int .i64) (by decide) h (λy:Int=>y) eI (λ_=>rfl) λy hy=>rfl
theorem ait {w:θ} {x:(jk.slice agW 7).T} (h:(jk.slice agW 7).In w x):lD 7 e7 w x.1 (x.2.map ajg):=
 YJ (by decide) h ajg e7 wF λy hy=>rfl
abbrev ajN:jk:= .agg (.cons (.int .i64) 1 (.cons (.int .i64) 1 (.cons (.int .i64) 1 (.cons (.int .i64) 1 (.cons (.int .i64) 1 (.cons (.int .i64) 1 (.cons (.int .i64) 1 (.cons .bool 1 (.cons .bool 1 (.cons (.slice (.int .u8) 1) 1 (.cons (.slice (.int .u8) 1) 1 .nil)))))))))))
abbrev doD:jk:= .agg (.cons (.int .i64) 1 (.cons (.int .i64) 1 (.cons (.int .i64) 1 (.cons (.slice (.int .u8) 1) 1 (.cons ajN 11 (.cons agW 7 .nil))))))
def byG (l:List Int):List UInt8:=l.map λn:Int=>UInt8.ofNat n.toNat
def doG (x:doD.T):Dn:=
 ⟨x.1,x.2.1,x.2.2.1,x.2.2.2.1.1,byG x.2.2.2.1.2,⟨x.2.2.2.2.1.1,x.2.2.2.2.1.2.1,x.2.2.2.2.1.2.2.1,x.2.2.2.2.1.2.2.2.1,x.2.2.2.2.1.2.2.2.2.1,x.2.2.2.2.1.2.2.2.2.2.1,x.2.2.2.2.1.2.2.2.2.2.2.1,x.2.2.2.2.1.2.2.2.2.2.2.2.1,x.2.2.2.2.1.2.2.2.2.2.2.2.2.1,byG x.2.2.2.2.1.2.2.2.2.2.2.2.2.2.1.2,byG x.2.2.2.2.1.2.2.2.2.2.2.2.2.2.2.1.2⟩,
  x.2.2.2.2.1.2.2.2.2.2.2.2.2.2.1.1,x.2.2.2.2.1.2.2.2.2.2.2.2.2.2.2.1.1,x.2.2.2.2.2.1.1.1,x.2.2.2.2.2.1.1.2.1,x.2.2.2.2.2.1.1.2.2.1,x.2.2.2.2.2.1.1.2.2.2.1,x.2.2.2.2.2.1.2.1.1,x.2.2.2.2.2.1.2.1.2.1,x.2.2.2.2.2.1.2.1.2.2.1⟩
theorem aiV {w:θ} {x:(jk.slice doD 22).T} (h:(jk.slice doD 22).In w x):Y5 w x.1 (x.2.map doG):=by
 refine⟨YJ (by decide) h doG dnV abr λy hy=>rfl,λy hy=> ?_⟩;obtain⟨z,hz,rfl⟩:=ajX.1 hy;have u:=h.2 z hz;exact⟨YH u.2.2.2.1,YH u.2.2.2.2.1.2.2.2.2.2.2.2.2.2.1,YH u.2.2.2.2.1.2.2.2.2.2.2.2.2.2.2.1⟩
end Go.Proofs.AN
end
section
namespace Go.Proofs.YtnemccmcpllhcaaGreatDoor
theorem acG {P:Program} {c:OpenClaim} (hs:c.start= .entering) (h:P.funcs.any Func.goes=false):false=c.goesBy P:=by
 unfold OpenClaim.goesBy Program.goesAt Program.goesFrom;rw[hs];have hg:∀f,P.goes f=false:=by
  intro f;unfold Program.goes;rw[h,Bool.and_false,Bool.or_false,akN];intro g _
  cases e:P.funcs[g]? with
  |none=>simp
  |some fn=>
   have:=Array.any_eq_false'.1 h fn (Array.mem_of_getElem? e);simpa using this
 cases P.funcNamed c.func with
 |none=>rfl
 |some f=>simp[hg]
theorem aez:υ.funcs.any Func.goes=false:=by kernel_rfl
end Go.Proofs.YtnemccmcpllhcaaGreatDoor
end
