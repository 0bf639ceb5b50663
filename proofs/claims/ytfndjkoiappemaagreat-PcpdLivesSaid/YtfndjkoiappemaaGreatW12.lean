import Derived.Test.YtfndjkoiappemaaGreatW11
import Derived.Test.YtfndjkoiappemaaGreatW9
import Derived.Test.YtfndjkoiappemaaGreatW3
import Derived.Test.YtfndjkoiappemaaGreatW2
open List (append_assoc foldl_cons foldl_nil getElem?_replicate mem_map)
open Int (toNat_natCast toNat_of_nonneg)
set_option maxRecDepth 100000
set_option maxHeartbeats 2000000
section
namespace Go.Proofs.EN
open Gp Go.Proofs Go.Proofs.CN
open Gp.Bind (Bnd Slots live GoodB freeN getS In64)
def toB (x:T7):Bnd:=⟨x.1,x.2.1,x.2.2.1,x.2.2.2.1,x.2.2.2.2.1,x.2.2.2.2.2.1,x.2.2.2.2.2.2.1,true⟩
inductive Maps (c:Cf) (e0:ES):List Bnd->ES->Prop
 |nil:Maps c e0 [] e0
 |no {l:List Bnd} {e:ES} {b:Bnd}:Maps c e0 l e->Inv c e->GoodB e.S e.Mi e.Mo->Cj c e b≠0->Maps c e0 (l++[b]) e
 |yes {l:List Bnd} {e:ES} {b:Bnd} {i:Nat} {Mi Mo:ByteArray->Option Int} {Q:List Int} {G:List (PN.O3×Unit)}:Maps c e0 l e->Inv c e->GoodB e.S e.Mi e.Mo->Cj c e b=0->freeN e.S=some i->Maps c e0 (l++[b]) {e with S:=e.S.set i (some b),Mi:=Mi,Mo:=Mo,Q:=Q,G:=G}
theorem sN:∀(k j:Nat),live j (List.replicate k none)=[]
 |0,_=>rfl
 |k+1,j=>by rw[List.replicate_succ,live];exact sN k _
theorem Lr:∀(k j:Nat),Gp.Ses.live j (List.replicate k none)=[]
 |0,_=>rfl
 |k+1,j=>by rw[List.replicate_succ,Gp.Ses.live];exact Lr k _
def e0 (n nb ns:Nat):ES:=⟨0,List.replicate nb none,λ_=>none,λ_=>none,List.replicate n 0,[],List.replicate ns none,λ_=>none,[],0,0,λ_ _=>[]⟩
theorem acR {ls lp lt n18 n19 n20 n21 n22 n23 n24 n25 n26 n27 n28 n29 n30 n31 n32 n33 n34:Int} {p:sV} {n:Nat} {sl:List sV} {pl:List Int} {tl:List T7} (h:OkP p ls lp lt n18 n19 n20 n21 n22 n23 n24 n25 n26 n27 n28 n29 n30 n31 n32 n33 n34 n sl pl tl):
  (1<=ls/\ls<=64)/\(1<=lp/\lp<=16)/\(0<=lt/\lt<=64)/\(1<=n18/\n18<=65535)/\(n18<=n19/\n19<=65535)/\(1<=n20/\n20<=4096)/\(1<=n21/\n21<=4096)/\(1<=n22/\n22<=4096):=by
 have b:=h.nums;simp only[abf,List.mem_cons,List.not_mem_nil,or_false,forall_eq_or_imp,forall_eq,okB] at b;obtain⟨b1,b2,b3,b4,b5,b6,b7,b8,_⟩:=b;refine⟨b1,b2,⟨b3.1,?_⟩,b4,b5,b6,b7,b8⟩;have:=b3.2;split at this<;>omega
theorem Ih {p:sV} {n:Nat} {sl:List sV} {pl:List Int} {tl:List T7} (h:Bd p n sl pl tl=true):∀x∈pl,nY x:=by
 intro x hx;unfold Bd at h;simp only[Bool.and_eq_true,Bool.not_eq_true',List.any_eq_false] at h;have:=h.2.2.1 x hx;simpa using this
theorem acP {w:World} {p0 p1 p2 p3 p4 p5 p6 p7 p8 p9 u I J N O R:Int} {sw po:iq} {n18 n19 n20 n21 n22 n23 n24 n25 n26 n27 n28 n29 n30 n31 n32 n33 n34:Int} {st:iq} {sl:List sV} {pl:List Int} {tl:List T7} (aC:mY 16 e16 w sw sl) (ao:mY 1 eI w po pl) (aq:mY 7 e7 w st tl) (lsw:sw.len<=2^40) (lpo:po.len<=2^40) (lst:st.len<=2^40)
  {K:g_->Int->b_}
  (ar:∀r w',Ext w w'->r≠0->chk (p0,p1,p2,p3,p4,p5,p6,p7,p8,p9,u,I,J,N,O,R,()) sw.len po.len st.len n18 n19 n20 n21 n22 n23 n24 n25 n26 n27 n28 n29 n30 n31 n32 n33 n34 sw.len sl pl tl r->K none r w')
  (aD:OkP (p0,p1,p2,p3,p4,p5,p6,p7,p8,p9,u,I,J,N,O,R,()) sw.len po.len st.len n18 n19 n20 n21 n22 n23 n24 n25 n26 n27 n28 n29 n30 n31 n32 n33 n34 sw.len sl pl tl->Gu (p0,p1,p2,p3,p4,p5,p6,p7,p8,p9,u,I,J,N,O,R,()) sl pl tl sw.len n20->
   ∀w' a e,Ext w w'->wQ w' a ⟨jV p0 p1 p2 p3 p4 p5 p6 p7 p8 p9 u I J N O R sw po n18 n19 n20 n21 n22 n23 n24 n25 n26 n27 n28 n29 n30 n31 n32 n33 n34 st,sw,pl,n18,n19,n20,n21,n22⟩ e->Inv ⟨jV p0 p1 p2 p3 p4 p5 p6 p7 p8 p9 u I J N O R sw po n18 n19 n20 n21 n22 n23 n24 n25 n26 n27 n28 n29 n30 n31 n32 n33 n34 st,sw,pl,n18,n19,n20,n21,n22⟩ e->NoS e->Maps ⟨jV p0 p1 p2 p3 p4 p5 p6 p7 p8 p9 u I J N O R sw po n18 n19 n20 n21 n22 n23 n24 n25 n26 n27 n28 n29 n30 n31 n32 n33 n34 st,sw,pl,n18,n19,n20,n21,n22⟩ (e0 sw.len n21.toNat n22.toNat) (tl.map toB) e->(∀k b,own a k b->w.heap.size<=b)->K (some ⟨a.x,0,none⟩) 0 w'):
  D9 p0 p1 p2 p3 p4 p5 p6 p7 p8 p9 u I J N O R sw po n18 n19 n20 n21 n22 n23 n24 n25 n26 n27 n28 n29 n30 n31 n32 n33 n34 st w K:=by
 apply aap;refine iI λa w1 r1 e1 z1 f1=> ?_;have rd:∀W (Q:_),Row W a (jV p0 p1 p2 p3 p4 p5 p6 p7 p8 p9 u I J N O R sw po n18 n19 n20 n21 n22 n23 n24 n25 n26 n27 n28 n29 n30 n31 n32 n33 n34 st)->Q p0 p1 p2 p3 p4 p5 p6 p7 p8 p9 u I J N O R sw po n18 n19 n20 n21 n22 n23 n24 n25 n26 n27 n28 n29 n30 n31 n32 n33 n34 st->vH W ⟨a,0,none⟩ Q:=by
  intro W Q hr hq;simp only[sx,hr.cell];exact hq
 refine rd _ _ r1 ?_;refine SX (aeS (aC.ext f1) (ao.ext f1) (aq.ext f1) lsw lpo lst) ?_;rintro r w2 ⟨hc,f2⟩;have x2:=f1.trans f2;by_cases hr:r=0;rotate_left
 ·have:(r !=0)=true:=by rw[bne_iff_ne];exact hr
  rw[this,cond_true];exact ar r w2 x2 hr hc
 have:(r !=0)=false:=by rw[bne_eq_false_iff_eq];exact hr
 rw[this,cond_false];subst hr;rcases hc with ⟨_,h⟩|⟨ah,⟨_,h⟩|⟨Y,_⟩⟩
 ·cases h
 ·cases h
 have hK:=aD ah Y;have hn:=acR ah;obtain⟨b1,b2,b3,b4,b5,b6,b7,b8⟩:=hn;have r2:=r1.ext f2;refine rd _ _ r2 ?_;refine iI λx w3 r3 e3 z3 f3=> ?_;have x3:=x2.trans f3;have r2:=r2.ext f3;refine iC (k:= .slice) (i:=17) (x:=po) r2 rfl (iC (k:= .int .i64) (i:=18) (x:=n18) r2 rfl (iC (k:= .int .i64) (i:=19) (x:=n19) r2 rfl ?_));have hpl:=(ao.ext x3).len;refine ZG (PN.Q5 (ao.ext x3) (by omega) (by omega) Y.2.1 (Ih ah.parts) (by omega) (by omega) (by omega)) ?_;rintro _ _ w4 ⟨rfl,f4,p,g,ps,rfl,hP,nP⟩;have lP:∀b,PN.fp p g ps b->b<w4.heap.size:=λb hb=>by
  rcases hb with h|h|h
  ·rw[h];exact hP.hd.lt
  ·rw[h];exact hP.gv.lt
  ·exact hP.ad.lt h
 have r2:=r2.ext f4;refine jc.2 (iK (i:=0) (r3.ext f4) rfl (by simp) λw5 r5 f5' z5=> ?_);have f5:iG w4 w5 (·=x):=f5' _ rfl;have zx:x<w3.heap.size/\a<x:=by have:=f2.size;omega
 have hP:=hP.fr f5 λb hb e=>by have:=nP b hb;omega
 have r2:=r2.fr f5 (by omega);refine iC (k:= .slice) (i:=16) (x:=sw) r2 rfl (iC (k:= .int .i64) (i:=20) (x:=n20) r2 rfl ?_);refine Yi (QN.Q5 (sw.len:Int) n20 w5) ?_;rintro q _ w6 ⟨f6,hq⟩;have f6:Ext w5 w6:=f6;rcases hq with ⟨ab,rfl,qb,qs,rfl,nq1,nq2,hQ⟩|⟨ac,_,_⟩;rotate_left
 ·exact absurd ⟨by omega,by omega,by omega,by omega⟩ ac
 have lQ:qb<w6.heap.size/\qs<w6.heap.size:=⟨hQ.hd.lt,hQ.row.lt⟩;have hP:=hP.ext f6;have r2:=r2.ext f6;refine jc.2 (iK (i:=1) (r5.ext f6) rfl (by simp) λw7 r7 f7' z7=> ?_);have f7:iG w6 w7 (·=x):=f7' _ rfl;have s4:=f4.size;have s6:=f6.size;have hP:=hP.fr f7 λb hb e=>by have:=nP b hb;omega
 have hQ:=hQ.fr f7 (by omega) (by omega);have r2:=r2.fr f7 (by omega);refine iC (k:= .int .i64) (i:=21) (x:=n21) r2 rfl ?_;refine ZF (agX n21 w7) ?_;rintro _ _ w8 ⟨f8,⟨ac,_,_⟩|⟨_,_,rfl,B,rfl,nB,hB⟩⟩
 ·exact absurd ⟨by omega,by omega⟩ ac
 have hP:=hP.ext f8;have hQ:=hQ.fr (f8 λ_=>False) (by simp) (by simp);have r2:=r2.ext f8;refine jc.2 (iK (i:=2) (r7.ext f8) rfl (by simp) λw9 r9 f9' z9=> ?_);have f9:iG w8 w9 (·=x):=f9' _ rfl;have s8:=f8.size;have hP:=hP.fr f9 λb hb e=>by have:=nP b hb;omega
 have hQ:=hQ.fr f9 (by omega) (by omega);have hB:=hB.fr f9 λb hb e=>by have:=(nB b hb).1;omega
 have r2:=r2.fr f9 (by omega);refine iC (k:= .int .i64) (i:=22) (x:=n22) r2 rfl ?_;refine UF (SN.ahJ n22 w9) ?_;rintro _ _ au ⟨f10,⟨ac,_,_⟩|⟨_,_,rfl,T,rfl,nT,hT⟩⟩
 ·exact absurd ⟨by omega,by omega⟩ ac
 have hP:=hP.ext f10;have hQ:=hQ.fr (f10 λ_=>False) (by simp) (by simp);have hB:=hB.ext f10;have r2:=r2.ext f10;refine jc.2 (iK (i:=3) (r9.ext f10) rfl (by simp) λai aE av z11=> ?_);have f11:iG au ai (·=x):=av _ rfl;have s10:=f10.size;have lT:∀b,SN.fp T b->b<au.heap.size:=λb hb=>hT.lt hb;have hP:=hP.fr f11 λb hb e=>by have:=nP b hb;omega
 have hQ:=hQ.fr f11 (by omega) (by omega);have hB:=hB.fr f11 λb hb e=>by have:=(nB b hb).1;omega
 have hT:=hT.fr f11 λb hb e=>by have:=nT b hb;omega
 have r2:=r2.fr f11 (by omega);refine iC (k:= .int .i64) (i:=22) (x:=n22) r2 rfl ?_;refine Po (WN.ac7 n22 ⟨by omega,by omega⟩ ai) ?_;rintro _ _ ak ⟨f12,rfl,d,m,ss,rfl,hW,nW⟩;have f12:Ext ai ak:=f12;have hP:=hP.ext f12;have hQ:=hQ.fr (f12 λ_=>False) (by simp) (by simp);have hB:=hB.ext f12;have hT:=hT.ext f12;have r2:=r2.ext f12;refine jc.2 (iK (i:=4) (aE.ext f12) rfl (by simp) λal az aw z13=> ?_);have f13:iG ak al (·=x):=aw _ rfl;have s12:=f12.size;have lW:∀b,WN.pz d m ss b->b<ak.heap.size:=λb hb=>hW.wm.lt hb;have hP:=hP.fr f13 λb hb e=>by have:=nP b hb;omega
 have hQ:=hQ.fr f13 (by omega) (by omega);have hB:=hB.fr f13 λb hb e=>by have:=(nB b hb).1;omega
 have hT:=hT.fr f13 λb hb e=>by have:=nT b hb;omega
 have hW:=hW.fr f13 λb hb e=>by have:=nW b hb;omega
 have r2:=r2.fr f13 (by omega);simp only[List.set_cons_zero,List.set_cons_succ] at az;have aF:Ext w al:=by
  have q5:=(x3.trans f4).new f5 λb hb e=>by have:=x2.size;omega
  have q7:=(q5.trans f6).new f7 λb hb e=>by have:=x2.size;omega
  have q9:=(q7.trans f8).new f9 λb hb e=>by have:=x2.size;omega
  have aG:=(q9.trans f10).new f11 λb hb e=>by have:=x2.size;omega
  exact(aG.trans f12).new f13 λb hb e=>by have:=x2.size;omega
 have aA:=QN.acN ab;rw[toNat_natCast] at aA;have hQ':QN.QR al qb qs (List.replicate sw.len 0) n20:=by simpa using hQ
 have key:∀k b,own ⟨x,p,g,ps,qb,qs,B,T,d,m,ss⟩ k b->(k=0/\b=x)\/(k=1/\w3.heap.size<=b/\b<w4.heap.size)\/(k=2/\w5.heap.size<=b/\b<w6.heap.size)\/(k=3/\w7.heap.size<=b/\b<w8.heap.size)\/(k=4/\w9.heap.size<=b/\b<au.heap.size)\/(k=5/\ai.heap.size<=b/\b<ak.heap.size):=by
  intro k b ho
  match k,ho with
  |0,ho=>exact .inl ⟨rfl,ho⟩
  |1,ho=>exact .inr (.inl ⟨rfl,nP b ho,lP b ho⟩)
  |2,ho=>
   refine .inr (.inr (.inl ⟨rfl,?_⟩));rcases ho with h|h<;>simp only at h<;>omega
  |3,ho=>exact .inr (.inr (.inr (.inl ⟨rfl,nB b ho⟩)))
  |4,ho=>exact .inr (.inr (.inr (.inr (.inl ⟨rfl,nT b ho,lT b ho⟩))))
  |5,ho=>exact .inr (.inr (.inr (.inr (.inr ⟨rfl,nW b ho,lW b ho⟩))))
  |(n+6),ho=>exact ho.elim
 have hE:wQ al ⟨x,p,g,ps,qb,qs,B,T,d,m,ss⟩ ⟨jV p0 p1 p2 p3 p4 p5 p6 p7 p8 p9 u I J N O R sw po n18 n19 n20 n21 n22 n23 n24 n25 n26 n27 n28 n29 n30 n31 n32 n33 n34 st,sw,pl,n18,n19,n20,n21,n22⟩ (e0 sw.len n21.toNat n22.toNat):=by
  refine⟨⟨rfl,rfl,rfl,rfl,rfl,by simp only;omega,by simp only;omega,by simp only;omega,by simp only;omega,Ih ah.parts⟩,az,hP,hQ',aA,hB,hT,hW,?_,?_⟩
  ·intro k k' b h1 h2;have h1:=key k b h1;have h2:=key k' b h2;omega
  ·intro k b h1;have h1:=key k b h1;omega
 have hI:Inv ⟨jV p0 p1 p2 p3 p4 p5 p6 p7 p8 p9 u I J N O R sw po n18 n19 n20 n21 n22 n23 n24 n25 n26 n27 n28 n29 n30 n31 n32 n33 n34 st,sw,pl,n18,n19,n20,n21,n22⟩ (e0 sw.len n21.toNat n22.toNat):=by
  refine⟨by simp[e0],λi hi=> ?_,λo=> ?_,λj b hj=> ?_⟩
  ·have h1:II (e0 sw.len n21.toNat n22.toNat).S i=0:=by
    unfold II;show ((live 0 (List.replicate n21.toNat none)).filter _).length=0;rw[sN];rfl
   rw[h1];show (List.replicate sw.len (0:Int)).getD i.toNat 0=((0:Nat):Int);rw[List.getD_eq_getElem?_getD,getElem?_replicate];split<;>rfl
  ·constructor
   ·intro h;simp[e0] at h
   ·rintro⟨j,b,hj,_⟩;have hj:(List.replicate n21.toNat (none:Option Bnd))[j]? =some (some b):=hj;rw[getElem?_replicate] at hj;split at hj<;>simp at hj
  ·have hj:(List.replicate n21.toNat (none:Option Bnd))[j]? =some (some b):=hj;rw[getElem?_replicate] at hj;split at hj<;>simp at hj
 have hS:NoS (e0 sw.len n21.toNat n22.toNat):=Lr _ _;have ab:∀k b,own ⟨x,p,g,ps,qb,qs,B,T,d,m,ss⟩ k b->w.heap.size<=b:=λk b h=>by
  have h1:=key k b h;have:=x2.size;omega
 refine iC (k:= .slice) (i:=35) (x:=st) r2 rfl ?_;have hlt:=aq.len;refine iE (λs W=>∃(j:Nat) (a:EA) (e:ES),j<=tl.length/\s.1=(j:Int)/\Ext w W/\wQ W a ⟨jV p0 p1 p2 p3 p4 p5 p6 p7 p8 p9 u I J N O R sw po n18 n19 n20 n21 n22 n23 n24 n25 n26 n27 n28 n29 n30 n31 n32 n33 n34 st,sw,pl,n18,n19,n20,n21,n22⟩ e/\Inv ⟨jV p0 p1 p2 p3 p4 p5 p6 p7 p8 p9 u I J N O R sw po n18 n19 n20 n21 n22 n23 n24 n25 n26 n27 n28 n29 n30 n31 n32 n33 n34 st,sw,pl,n18,n19,n20,n21,n22⟩ e/\NoS e/\Maps ⟨jV p0 p1 p2 p3 p4 p5 p6 p7 p8 p9 u I J N O R sw po n18 n19 n20 n21 n22 n23 n24 n25 n26 n27 n28 n29 n30 n31 n32 n33 n34 st,sw,pl,n18,n19,n20,n21,n22⟩ (e0 sw.len n21.toNat n22.toNat) ((tl.take j).map toB) e/\(∀k b,own a k b->w.heap.size<=b)/\a.x=x)
  (λs _=>(st.len - s.1).toNat) ⟨0,_,_,by omega,rfl,aF,hE,hI,hS,Maps.nil,ab,rfl⟩ ?_
 rintro⟨i,⟨⟩⟩ W ⟨j,aj,ej,hj,hi,hx,ae,af,ax,am,U,an⟩ next aa
 simp only at hi;subst hi;by_cases hl:(j:Int)<(st.len:Int)
 ·simp only[hl,decide_true,cond_true];have hg:=List.getElem?_eq_getElem (show j<tl.length by omega);generalize tl[j]=y at hg;obtain⟨y0,y1,y2,y3,y4,y5,y6,⟨⟩⟩:=y;refine SlN_ix yO (by omega) (aq.ext hx) (by omega) (by rw[toNat_natCast];exact hg) λad hc=> ?_;have c0:=hc 0 _ rfl;have c1:=hc 1 _ rfl;have c2:=hc 2 _ rfl;have c3:=hc 3 _ rfl;have c4:=hc 4 _ rfl;have c5:=hc 5 _ rfl;have c6:=hc 6 _ rfl;simp only[Uc,c0,c1,c2,c3,c4,c5,c6,iy,PD];refine iI λt w14 aH e14 z14 f14=> ?_;refine iJ aH rfl rfl λaI aJ ay z15=> ?_;have xx:Ext W aI:=f14.new (ay (·=t) rfl) λb hb e=>by omega
  simp only[sx,aJ.cell];have aB:(tl.take (j+1)).map toB=(tl.take j).map toB++[toB (y0,y1,y2,y3,y4,y5,y6,())]:=by rw[take_succ hg,List.map_append];rfl
  rw[<- an];refine Eb (map_ok (ae.ext xx) af (toB (y0,y1,y2,y3,y4,y5,y6,())) rfl) ?_;rintro r w16 ⟨rfl,⟨aK,f16⟩|⟨he,_,f16,A,i,Mi,Mo,Q,G,ag,aL,hE',hI'⟩⟩
  ·rw[wrap_i64 (by omega) (by omega)];have:=(ae.ext xx).ext f16;refine aa _ _ ⟨j+1,aj,ej,by omega,by simp,(hx.trans xx).trans f16,this,af,ax,?_,U,an⟩ (by simp only;omega);rw[aB];exact Maps.no am af ae.db.good aK
  ·rw[wrap_i64 (by omega) (by omega)];refine aa _ _ ⟨j+1,{aj with B:=A},_,by omega,by simp,(hx.trans xx).new f16 λb hb ⟨k,hk⟩=>by have:=U k b hk;omega,hE',hI',ax,?_,?_,an⟩ (by simp only;omega)
   ·rw[aB];exact Maps.yes am af ae.db.good he ag
   ·intro k b hk;have zz:=(hx.trans xx).size
    match k,hk with
    |0,ho=>exact U 0 b ho
    |1,ho=>exact U 1 b ho
    |2,ho=>exact U 2 b ho
    |3,ho=>
     rcases aL b ho with h|h
     ·exact U 3 b h
     ·omega
    |4,ho=>exact U 4 b ho
    |5,ho=>exact U 5 b ho
    |(n+6),ho=>exact ho.elim
 ·simp only[hl,decide_false,cond_false];have:j=tl.length:=by omega
  subst this;rw[List.take_length] at am;rw[<- an];exact hK W aj ej hx ae af ax am U
end Go.Proofs.EN
end
section
namespace Go.Proofs.PS
open Gp Go.Proofs Go.Proofs.EN
open Gp.Bind (Bnd Slots live GoodB freeN getS In64)
theorem ahi (w:World):oI (IntKind.u64.wrap ((0:Nat):Int)) w λr w'=>r=0/\w'=w:=WN.ahi w
theorem aiP (s:iq) (lim:Int) (v:Value) (w:World):jf s 0 ((0:Nat):Int) lim v w λw'=>w'=w:=by
 apply yG;refine iE (λst W=>W=w/\st.1=0/\st.2.1=0) (λ_ _=>0) ⟨rfl,rfl,rfl⟩ ?_;rintro⟨a,b,c,d,e,⟨⟩⟩ W ⟨rfl,ha,hb⟩ next hnext
 simp only at ha hb;subst ha hb;have:decide ((IntKind.i64.wrap ((0:Int) - 0))<=12)=true:=rfl;rw[this,cond_true];have h:jA s 0 0 v W λw'=>w'=W:=by
  apply uG;refine iE (λst W'=>W'=W/\st.1=1) (λ_ _=>0) ⟨rfl,rfl⟩ ?_;rintro⟨a,⟨⟩⟩ W' ⟨rfl,ha⟩ next' hnext'
  simp only at ha;subst ha;have:decide ((1:Int)<0)=false:=rfl;rw[this,cond_false]
 refine uz h ?_;rintro w' hw;exact hw
abbrev lK:List Shape:=[.agg [(.int .i64),(.int .i64),(.int .i64),(.int .i64)],.one (.int .i64)]
end Go.Proofs.PS
end
section
namespace Go.Proofs.PS
open Gp Go.Proofs Go.Proofs.EN Go.Proofs.CN Go.Proofs.PM
open Gp.Bind (Bnd Slots live GoodB freeN getS In64)
structure Dc where
 op:Int
 sw:Int
 ad:Int
 nw:Int
 s:iq
 l:List UInt8
def eD (x:Dc):List Value:=[.int .i64 x.op,.int .i64 x.sw,.int .i64 x.ad,.int .i64 x.nw,.slice x.s.a x.s.len x.s.cap]
theorem abp (x:Dc):(eD x).length=5:=rfl
structure ahR (w:World) (s:iq) (xs:List Dc):Prop where
 sl:mY 5 eD w s xs
 by_:∀x∈xs,qy w x.s x.l
 ad:∀x∈xs,In64 x.ad
theorem agd {w:World} {p0 p1 p2 p3 p4 p5 p6 p7 p8 p9 u I N O R U:Int} {sw po:iq} {n18 n19 n20 n21 n22 n23 n24 n25 n26 n27 n28 n29 n30 n31 n32 n33 n34:Int} {st:iq}:xQ p0 p1 p2 p3 p4 p5 p6 p7 p8 p9 u I N O R U sw po n18 n19 n20 n21 n22 n23 n24 n25 n26 n27 n28 n29 n30 n31 n32 n33 n34 st w λr w'=>r=decide (sw.len<=8/\po.len<=4/\st.len<=12)/\Ext w w':=by
 apply Vq;refine iI λa w1 r1 e1 z1 f1=> ?_;intro J;have hJ:∀q,q=decide (sw.len<=8/\po.len<=4/\st.len<=12)->J q:=λq hq=>⟨hq,f1⟩;clear_value J;refine iC (k:= .slice) (i:=16) (x:=sw) r1 rfl ?_;by_cases c1:(sw.len:Int)<=8;rotate_left
 ·rw[decide_eq_false c1,cond_false];exact hJ _ (decide_eq_false λh=>by omega).symm
 rw[decide_eq_true c1,cond_true];refine iC (k:= .slice) (i:=17) (x:=po) r1 rfl ?_;by_cases c2:(po.len:Int)<=4;rotate_left
 ·rw[decide_eq_false c2,cond_false];exact hJ _ (decide_eq_false λh=>by omega).symm
 rw[decide_eq_true c2,cond_true];refine iC (k:= .slice) (i:=35) (x:=st) r1 rfl ?_;refine hJ _ (decide_eq_decide.2 ?_);omega
theorem CP {w:World} {p0 p1 p2 p3 p4 p5 p6 p7 p8 p9 h u I N O R:Int} {sw po:iq} {n18 n19 n20 n21 n22 n23 n24 n25 n26 n27 n28 n29 n30 n31 n32 n33 n34:Int} {st:iq} {sl:List sV} {pl:List Int} {tl:List T7} (U:mY 16 e16 w sw sl) (Y:mY 1 eI w po pl) (aa:mY 7 e7 w st tl) {K:Bool->b_}
  (h0:∀w',Ext w w'->K false w')
  (h1:∀w',Ext w w'->sw.len<=8->po.len<=4->st.len<=12->chk (p0,p1,p2,p3,p4,p5,p6,p7,p8,p9,h,u,I,N,O,R,()) sw.len po.len st.len n18 n19 n20 n21 n22 n23 n24 n25 n26 n27 n28 n29 n30 n31 n32 n33 n34 sw.len sl pl tl 0->K true w'):
  Fz p0 p1 p2 p3 p4 p5 p6 p7 p8 p9 h u I N O R sw po n18 n19 n20 n21 n22 n23 n24 n25 n26 n27 n28 n29 n30 n31 n32 n33 n34 st w K:=by
 apply Vp;refine iI λa w1 r1 e1 z1 f1=> ?_;have rd:∀W (Q:_),Row W a (jV p0 p1 p2 p3 p4 p5 p6 p7 p8 p9 h u I N O R sw po n18 n19 n20 n21 n22 n23 n24 n25 n26 n27 n28 n29 n30 n31 n32 n33 n34 st)->Q p0 p1 p2 p3 p4 p5 p6 p7 p8 p9 h u I N O R sw po n18 n19 n20 n21 n22 n23 n24 n25 n26 n27 n28 n29 n30 n31 n32 n33 n34 st->vH W ⟨a,0,none⟩ Q:=by
  intro W Q hr hq;simp only[sx,hr.cell];exact hq
 intro J;have hJ0:∀W,Ext w W->J false W:=λW hW=>h0 W hW;have hJ1:∀W,Ext w W->sw.len<=8->po.len<=4->st.len<=12->chk (p0,p1,p2,p3,p4,p5,p6,p7,p8,p9,h,u,I,N,O,R,()) sw.len po.len st.len n18 n19 n20 n21 n22 n23 n24 n25 n26 n27 n28 n29 n30 n31 n32 n33 n34 sw.len sl pl tl 0->J true W:=λW hW=>h1 W hW;clear_value J;refine rd _ _ r1 ?_;refine Uz agd ?_;rintro _ w2 ⟨rfl,f2⟩;by_cases hs:sw.len<=8/\po.len<=4/\st.len<=12;rotate_left
 ·rw[decide_eq_false hs,cond_false];exact hJ0 _ (f1.trans f2)
 rw[decide_eq_true hs,cond_true];have x2:=f1.trans f2;refine rd _ _ (r1.ext f2) ?_;refine Js (Sz (U.ext x2) (Y.ext x2) (aa.ext x2) (by omega) (by omega) (by omega)) ?_;rintro r w3 ⟨hc,f3⟩;by_cases hr:r=0
 ·subst hr;exact hJ1 _ (x2.trans f3) hs.1 hs.2.1 hs.2.2 hc
 ·have:(r==0)=false:=by simpa using hr
  rw[this];exact hJ0 _ (x2.trans f3)
end Go.Proofs.PS
end
section
namespace Go.Proofs.PM
open Gp Gp.V4 Go.Proofs Go.Proofs.CN
open Gp.Bind (In64)
theorem seg {α:Type} (A B C:List α) {i k:Nat} (hi:A.length=i) (hk:B.length=k):((A++(B++C)).drop i).take k=B:=by
 subst hi hk;rw[List.drop_left,List.take_left]
theorem Fe (A C:List UInt8) {i k n:Nat} (hi:A.length=i) (hn:n<256^k):num (A++(beN k n++C)) i k=n:=by
 unfold num;rw[seg A (beN k n) C hi (lZ k n),Q8,Nat.mod_eq_of_lt hn]
theorem n_ {l:List UInt8} {n k:Int} (h:fitsP n k):wo l n k=l++beN k.toNat n.toNat:=by unfold wo;rw[if_pos h]
theorem adL (k:Int) (h:1<=k/\k<=4):fitsP 0 k:=by
 have:=Int.pow_pos (n:=256) (m:=k.toNat) (by decide);exact⟨h,by omega,by omega⟩
theorem JE {n k:Int} (h:fitsP n k):n.toNat<256^k.toNat:=by
 obtain⟨_,h1,h2⟩:=h;have:((n.toNat:Nat):Int)<((256^k.toNat:Nat):Int):=by
  rw[toNat_of_nonneg h1];exact_mod_cast h2
 exact_mod_cast this
theorem agj {l no:List UInt8} {p:PA} (h:p.may):Fj l no p=l++(no++(beN 1 p.pr.toNat++(beN 3 0++(beN 2 p.po.toNat++(beN 2 p.ou.toNat++(List.replicate 10 0++([255,255]++beN 4 p.ad.toNat))))))):=by
 obtain⟨_,h1,h2,h3,h4⟩:=h;have ha:(p.ad % 4294967296).toNat=p.ad.toNat:=by
  obtain⟨_,g1,g2⟩:=h4;have:(256:Int)^(4:Int).toNat=4294967296:=by decide
  omega
 unfold Fj sU mapped;simp only[foldl_cons,foldl_nil];rw[n_ h1,n_ (adL 3 (by omega)),n_ h2,n_ h3,ha];simp only[append_assoc];rfl
structure ajd (L l no:List UInt8) (p:PA):Prop where
 len:L.length=60
 hd:∀i k,i+k<=24->num L i k=num l i k
 hs:∀i k,i+k<=24->(L.drop i).take k=(l.drop i).take k
 no:(L.drop 24).take 12=no
 pr:num L 36 1=p.pr.toNat
 po:num L 40 2=p.po.toNat
 ou:num L 42 2=p.ou.toNat
 ad:num L 56 4=p.ad.toNat
 pre:(L.drop 44).take 12=pre
theorem VW {l no:List UInt8} {p:PA} (hl:l.length=24) (u:no.length=12) (h:p.may):ajd (Fj l no p) l no p:=by
 have e:=agj (l:=l) (no:=no) h;obtain⟨_,h1,h2,h3,h4⟩:=h;have l1:=JE h1;have l2:=JE h2;have l3:=JE h3;have l4:=JE h4;have I:∀i k,i+k<=24->((Fj l no p).drop i).take k=(l.drop i).take k:=by
  intro i k J;rw[e,List.drop_append_of_le_length (by omega),List.take_append_of_le_length (by rw[List.length_drop];omega)]
 refine⟨?_,λi k J=>by unfold num;rw[I i k J],I,?_,?_,?_,?_,?_,?_⟩
 ·rw[e];simp[lZ,hl,u]
 ·rw[e];exact seg _ _ _ hl u
 ·rw[e,<- append_assoc];exact Fe _ _ (by simp[hl,u]) l1
 ·rw[e,<- append_assoc,<- append_assoc,<- append_assoc];exact Fe _ _ (by simp[hl,u,lZ]) l2
 ·rw[e,<- append_assoc,<- append_assoc,<- append_assoc,<- append_assoc];exact Fe _ _ (by simp[hl,u,lZ]) l3
 ·have e2:Fj l no p=(l++(no++(beN 1 p.pr.toNat++(beN 3 0++(beN 2 p.po.toNat++(beN 2 p.ou.toNat++(List.replicate 10 0++[255,255])))))))++(beN 4 p.ad.toNat++[]):=by rw[e];simp only[append_assoc,List.append_nil]
  rw[e2];exact Fe _ _ (by simp[hl,u,lZ]) l4
 ·have e2:Fj l no p=(l++(no++(beN 1 p.pr.toNat++(beN 3 0++(beN 2 p.po.toNat++beN 2 p.ou.toNat)))))++(PM.pre++beN 4 p.ad.toNat):=by rw[e];simp only[append_assoc];rfl
  rw[e2];exact seg _ _ _ (by simp[hl,u,lZ]) rfl
def VG (lf:Int) (cl:List UInt8):List UInt8:=sU [] [(2,1,()),(1,1,()),(0,2,()),(lf,4,())]++cl
def V7 (cl no:List UInt8) (p:PA):List UInt8:=Fj (VG p.lf cl) no p
theorem afZ {lf:Int} {cl:List UInt8} (h:fitsP lf 4):VG lf cl=[2,1,0,0]++(beN 4 lf.toNat++cl):=by
 unfold VG sU;simp only[foldl_cons,foldl_nil];rw[n_ (n:=2) (k:=1) ⟨⟨by omega,by omega⟩,by omega,by decide⟩,n_ (n:=1) (k:=1) ⟨⟨by omega,by omega⟩,by omega,by decide⟩,n_ (adL 2 (by omega)),n_ h];simp only[append_assoc];rfl
theorem abe {cl no:List UInt8} {p:PA} (hc:cl.length=16) (u:no.length=12) (h:p.may):
  jT (V7 cl no p) 1=0/\Bc (V7 cl no p)=p/\((V7 cl no p).drop 8).take 16=cl/\((V7 cl no p).drop 24).take 12=no:=by
 have hq:=afZ (cl:=cl) h.1;have I:(VG p.lf cl).length=24:=by rw[hq];simp[lZ,hc]
 obtain⟨t1,t2,t3,t4,t5,t6,t7,t8,t9⟩:=VW I u h;have n0:num (VG p.lf cl) 0 1=2:=by rw[hq];rfl
 have n1:num (VG p.lf cl) 1 1=1:=by rw[hq];rfl
 have n4:num (VG p.lf cl) 4 4=p.lf.toNat:=by rw[hq];exact Fe _ _ rfl (JE h.1)
 refine⟨?_,?_,?_,t4⟩
 ·unfold jT V7;rw[if_neg (by omega),if_neg (by omega),if_neg];rw[t2 0 1 (by omega),t2 1 1 (by omega),n0,n1];exact λhn=>hn ⟨rfl,rfl,t9⟩
 ·obtain⟨⟨_,a1,_⟩,⟨_,a2,_⟩,⟨_,a3,_⟩,⟨_,a4,_⟩,⟨_,a5,_⟩⟩:=h;unfold Bc V7;rw[t2 4 4 (by omega),n4,t5,t6,t7,t8,toNat_of_nonneg a1,toNat_of_nonneg a2,toNat_of_nonneg a3,toNat_of_nonneg a4,toNat_of_nonneg a5]
 ·unfold V7;rw[t3 8 16 (by omega),hq,<- append_assoc,List.drop_left' (by simp[lZ]),List.take_of_length_le (by omega)]
def O1 (r ep lf:Int):List UInt8:=sU (sU [] [(2,1,()),(129,1,()),(0,1,()),(r,1,())]) [(lf,4,()),(ep,4,()),(0,4,()),(0,4,()),(0,4,())]
theorem aeG {r ep lf:Int} (h1:fitsP r 1) (h2:fitsP ep 4) (h3:fitsP lf 4):O1 r ep lf=[2,129,0]++(beN 1 r.toNat++(beN 4 lf.toNat++(beN 4 ep.toNat++List.replicate 12 0))):=by
 unfold O1 sU;simp only[foldl_cons,foldl_nil];rw[n_ (n:=2) (k:=1) ⟨⟨by omega,by omega⟩,by omega,by decide⟩,n_ (n:=129) (k:=1) ⟨⟨by omega,by omega⟩,by omega,by decide⟩,n_ (adL 1 (by omega)),n_ h1,n_ h3,n_ h2,n_ (adL 4 (by omega)),n_ (adL 4 (by omega)),n_ (adL 4 (by omega))];simp only[append_assoc];rfl
theorem adq {r ep:Int} {no:List UInt8} {p:PA} (u:no.length=12) (h:Dj r ep p):
  jT (Hg r ep no p) 129=0/\Bc (Hg r ep no p)=p/\num (Hg r ep no p) 3 1=r.toNat/\num (Hg r ep no p) 8 4=ep.toNat/\(Hg r ep no p).length=60:=by
 obtain⟨hm,hr,he⟩:=h;have hq:=aeG hr he hm.1;have I:(O1 r ep p.lf).length=24:=by rw[hq];simp[lZ]
 have e:Hg r ep no p=Fj (O1 r ep p.lf) no p:=rfl;obtain⟨t1,t2,t3,t4,t5,t6,t7,t8,t9⟩:=VW I u hm;have n0:num (O1 r ep p.lf) 0 1=2:=by rw[hq];rfl
 have n1:num (O1 r ep p.lf) 1 1=129:=by rw[hq];rfl
 have n3:num (O1 r ep p.lf) 3 1=r.toNat:=by rw[hq];exact Fe _ _ rfl (JE hr)
 have n4:num (O1 r ep p.lf) 4 4=p.lf.toNat:=by rw[hq,<- append_assoc];exact Fe _ _ (by simp[lZ]) (JE hm.1)
 have n8:num (O1 r ep p.lf) 8 4=ep.toNat:=by rw[hq,<- append_assoc,<- append_assoc];exact Fe _ _ (by simp[lZ]) (JE he)
 refine⟨?_,?_,?_,?_,?_⟩
 ·unfold jT;rw[e,if_neg (by omega),if_neg (by omega),if_neg];rw[t2 0 1 (by omega),t2 1 1 (by omega),n0,n1];exact λhn=>hn ⟨rfl,rfl,t9⟩
 ·obtain⟨⟨_,a1,_⟩,⟨_,a2,_⟩,⟨_,a3,_⟩,⟨_,a4,_⟩,⟨_,a5,_⟩⟩:=hm;unfold Bc;rw[e,t2 4 4 (by omega),n4,t5,t6,t7,t8,toNat_of_nonneg a1,toNat_of_nonneg a2,toNat_of_nonneg a3,toNat_of_nonneg a4,toNat_of_nonneg a5]
 ·rw[e,t2 3 1 (by omega),n3]
 ·rw[e,t2 8 4 (by omega),n8]
 ·rw[e,t1]
end Go.Proofs.PM
end
section
namespace Go.Proofs.CN
open Gp
def words (n:Nat):List Int:=[8193,3512,(n:Int),0,0,0,0,1]
def aax (n j:Nat):List Int:=((words n).take j).flatMap (λx=>[x / 256,x % 256])++List.replicate (16 - 2 * j) 0
def Ql (n:Nat):sV:=(32,1,13,184,0,(n:Int),0,0,0,0,0,0,0,0,0,1,())
abbrev cu8 (l:List Int):List Value:=l.map λx=>Value.int .u8 x
theorem acz (l:List Int) (i:Nat) (x:Int):(cu8 l).set i (.int .u8 x)=cu8 (l.set i x):=by
 unfold cu8;rw[List.map_set]
theorem adY:∀(n:Fin 3) (j:Fin 8),((aax n j).set (2 * j) (IntKind.u8.wrap (IntKind.i64.wrap (Int.tdiv (Int.tmod (IntKind.i64.wrap ((Int.tmod ((words n).getD j 0) 65536)+65536)) 65536) 256)))).set (2 * j+1) (IntKind.u8.wrap (Int.tmod (Int.tmod (IntKind.i64.wrap ((Int.tmod ((words n).getD j 0) 65536)+65536)) 65536) 256))=aax n (j+1):=by decide
theorem aht:∀(n:Fin 3) (j:Fin 9),(aax n j).length=16:=by decide
theorem ahs:∀(n:Fin 3),cu8 (aax n 8)=e16 (Ql n):=by
 intro n
 match n with
 |0=>rfl
 |1=>rfl
 |2=>rfl
end Go.Proofs.CN
namespace Go.Proofs.CN
open Gp
theorem aef (n:Nat):∀(j:Nat),j<8->(words n)[j]? =some ((words n).getD j 0)
 |0,_=>rfl
 |1,_=>rfl
 |2,_=>rfl
 |3,_=>rfl
 |4,_=>rfl
 |5,_=>rfl
 |6,_=>rfl
 |7,_=>rfl
 |j+8,h=>absurd h (by omega)
theorem ai1:∀(n:Fin 3),[Value.int .u8 0,.int .u8 0,.int .u8 0,.int .u8 0,.int .u8 0,.int .u8 0,.int .u8 0,.int .u8 0,.int .u8 0,.int .u8 0,.int .u8 0,.int .u8 0,.int .u8 0,.int .u8 0,.int .u8 0,.int .u8 0]=cu8 (aax n 0):=λ_=>rfl
theorem ahu {W:World} {b:Nat} (n:Fin 3) (h:Row W b (cu8 (aax n 8))):Row W b [.int .u8 32,.int .u8 1,.int .u8 13,.int .u8 184,.int .u8 0,.int .u8 ((n:Nat):Int),.int .u8 0,.int .u8 0,.int .u8 0,.int .u8 0,.int .u8 0,.int .u8 0,.int .u8 0,.int .u8 0,.int .u8 0,.int .u8 1]:=by
 rw[ahs] at h;exact h
theorem acy (l:List Int):(cu8 l).length=l.length:=List.length_map ..
theorem VJ (n:Fin 3) {w:World} {s:iq} (hs:mY 1 eI w s (words n)):yJ s w λr0 r1 r2 r3 r4 r5 r6 r7 r8 r9 O R U Y aa ab w'=>((r0,r1,r2,r3,r4,r5,r6,r7,r8,r9,O,R,U,Y,aa,ab,()):sV)=Ql n/\Ext w w':=by
 apply aat;refine iI λa w1 ra ea z1 f1=>iI λb w2 rb eb z2 f2=> ?_;have hs0:=hs;have ra:=ra.ext f2;have hs:=hs.ext (f1.trans f2);have hlen:s.len=8:=hs.len;have rb:Row w2 b (cu8 (aax n 0)):=by rw[<- ai1 n];exact rb
 refine iE (λst W=>∃j:Nat,j<=8/\st.1=(j:Int)/\Row W b (cu8 (aax n j))/\iG w2 W (·=b)) (λst _=>(8 - st.1).toNat) ⟨0,by omega,rfl,rb,iG.refl _ _⟩ ?_;rintro⟨i,⟨⟩⟩ W ⟨j,hj,hi,rW,fW⟩ next u
 simp only at hi;subst hi;simp -zeta only[];intro J9;by_cases J:(j:Int)<(s.len:Int)
 ·have hj8:j<8:=by omega
  rw[decide_eq_true J,cond_true,decide_eq_true (show (j:Int)<8 by omega)];simp only[J9];rw[cond_true];have I:=aef n j hj8;have ac:mY 1 eI W s (words n):=hs.fr fW (λc hc _ e=>by
   have:=aeD kN (by omega) hs0 hc (by show 0<8;omega);omega)
  refine SlN_ix kN (by omega) ac (by omega) (by rw[toNat_natCast];exact I) λa' hc=> ?_;have hc0:=hc 0 _ rfl;rw[show a'.add 0=a' from rfl] at hc0;have hl16:=aht n ⟨j,by omega⟩;have N:=adY n ⟨j,hj8⟩;simp only at hl16 N;have e2j:IntKind.i64.wrap (2 * (j:Int))=((2 * j:Nat):Int):=by rw[wrap_i64 (by omega) (by omega)];omega
  simp only[sx,hc0,e2j];rw[wrap_i64 (n:=((2 * j:Nat):Int)+1) (by omega) (by omega),show ((2 * j:Nat):Int)+1=((2 * j+1:Nat):Int) by omega];simp only[toNat_natCast,Nat.mul_one];refine⟨by decide,by decide,by decide,by decide,by omega,by omega,iK rW rfl (by rw[acy,hl16];omega) λw5 r5 f5 z5=> ?_⟩;rw[acz] at r5;refine⟨by omega,by omega,iK r5 rfl (by rw[acy,List.length_set,hl16];omega) λw6 r6 f6 z6=> ?_⟩;rw[acz,N] at r6;rw[wrap_i64 (by omega) (by omega)];refine u _ _ ⟨j+1,by omega,by simp,r6,(fW.trans (f5 (·=b) rfl) λ_ _ e=>e).trans (f6 (·=b) rfl) λ_ _ e=>e⟩ (by simp only;omega)
 ·rw[decide_eq_false J,cond_false];have:j=8:=by omega
  subst this;simp only[J9];rw[cond_false];have rW:=ahu n rW;have raW:=ra.fr fW (by omega);simp only[sx,rW.cell];refine iJ raW rfl rfl λw5 r5 f5 z5=> ?_;simp only[d_,iy,iF,r5.cell];exact⟨rfl,(f1.trans f2).new (S:=λx=>x=b\/x=a) ((fW.mono λ_=>Or.inl).trans (f5 _ (.inr rfl)) λ_ _ e=>e) (by intro x hx h;rcases h with rfl|rfl<;>omega)⟩
end Go.Proofs.CN
namespace Go.Proofs.CN
open Gp
theorem Zj {r0 r1 r2 r3 r4 r5 r6 r7 r8 r9 u I J N O R:Int} {n:Nat} {z:Int} (hz:(n:Int)=z) (h:((r0,r1,r2,r3,r4,r5,r6,r7,r8,r9,u,I,J,N,O,R,()):sV)=Ql n):r0=32/\r1=1/\r2=13/\r3=184/\r4=0/\r5=z/\r6=0/\r7=0/\r8=0/\r9=0/\u=0/\I=0/\J=0/\N=0/\O=0/\R=1:=by
 subst hz;simp only[Ql,Prod.mk.injEq,and_true] at h;exact h
structure Zp (w w':World) (bs bp:Nat):Prop where
 rs:Row w' bs (.int .u8 32:: .int .u8 1:: .int .u8 13:: .int .u8 184:: .int .u8 0:: .int .u8 1:: .int .u8 0:: .int .u8 0:: .int .u8 0:: .int .u8 0:: .int .u8 0:: .int .u8 0:: .int .u8 0:: .int .u8 0:: .int .u8 0:: .int .u8 1:: .int .u8 32:: .int .u8 1:: .int .u8 13:: .int .u8 184:: .int .u8 0:: .int .u8 2:: .int .u8 0:: .int .u8 0:: .int .u8 0:: .int .u8 0:: .int .u8 0:: .int .u8 0:: .int .u8 0:: .int .u8 0:: .int .u8 0:: .int .u8 1::[])
 rp:Row w' bp [.int .i64 3325256705]
 hs:w.heap.size<=bs
 hp:w.heap.size<=bp
 ne:bs≠bp
 ext:Ext w w'
abbrev ai5 (w w':World) (p0 p1 p2 p3 p4 p5 p6 p7 p8 p9 p10 p11 p12 p13 p14 p15:Int) (sw po:iq) (n18 n19 n20 n21 n22 n23 n24 n25 n26 n27 n28 n29 n30 n31 n32 n33 n34:Int) (st:iq):Prop:=∃bs bp,Zp w w' bs bp/\p0=32/\p1=1/\p2=13/\p3=184/\p4=0/\p5=0/\p6=0/\p7=0/\p8=0/\p9=0/\p10=0/\p11=0/\p12=0/\p13=0/\p14=0/\p15=1/\sw=⟨some ⟨bs,0,none⟩,2,2⟩/\po=⟨some ⟨bp,0,none⟩,1,1⟩/\n18=1024/\n19=65535/\n20=16/\n21=64/\n22=128/\n23=8/\n24=1048576/\n25=1500/\n26=1500/\n27=64/\n28=0/\n29=2/\n30=300/\n31=7440/\n32=240/\n33=60/\n34=60/\st=⟨none,0,0⟩
set_option maxHeartbeats 4000000 in
theorem abZ (w:World):wG w λp0 p1 p2 p3 p4 p5 p6 p7 p8 p9 Y aa ab ac ae af sw po n18 n19 n20 n21 n22 n23 n24 n25 n26 n27 n28 n29 n30 n31 n32 n33 n34 st w'=>ai5 w w' p0 p1 p2 p3 p4 p5 p6 p7 p8 p9 Y aa ab ac ae af sw po n18 n19 n20 n21 n22 n23 n24 n25 n26 n27 n28 n29 n30 n31 n32 n33 n34 st:=by
 apply WX;refine iI λa w1 ra ea z1 f1=> ?_;refine iI λb0 v0 rb0 eb0 y0 g0=> ?_;have hb0:mY 1 eI v0 ⟨some ⟨b0,0,none⟩,8,8⟩ (words 0):=(iW.row (xs:=words 0) (f:=eI) (n:=1) rb0).sl kN (by omega);refine Jr (VJ 0 hb0) ?_;rintro q0 q1 q2 q3 q4 q5 q6 q7 q8 q9 I J N O R U u0 ⟨hq,h0⟩;obtain⟨rfl,rfl,rfl,rfl,rfl,rfl,rfl,rfl,rfl,rfl,rfl,rfl,rfl,rfl,rfl,rfl⟩:=Zj (z:=0) rfl hq;refine iI λb1 v1 rb1 eb1 y1 g1=> ?_;have hb1:mY 1 eI v1 ⟨some ⟨b1,0,none⟩,8,8⟩ (words 1):=(iW.row (xs:=words 1) (f:=eI) (n:=1) rb1).sl kN (by omega);refine Jr (VJ 1 hb1) ?_;rintro q0 q1 q2 q3 q4 q5 q6 q7 q8 q9 I J N O R U u1 ⟨hq,h1⟩;obtain⟨rfl,rfl,rfl,rfl,rfl,rfl,rfl,rfl,rfl,rfl,rfl,rfl,rfl,rfl,rfl,rfl⟩:=Zj (z:=1) rfl hq;refine iI λb2 v2 rb2 eb2 y2 g2=> ?_;have hb2:mY 1 eI v2 ⟨some ⟨b2,0,none⟩,8,8⟩ (words 2):=(iW.row (xs:=words 2) (f:=eI) (n:=1) rb2).sl kN (by omega);refine Jr (VJ 2 hb2) ?_;rintro q0 q1 q2 q3 q4 q5 q6 q7 q8 q9 I J N O R U u2 ⟨hq,h2⟩;obtain⟨rfl,rfl,rfl,rfl,rfl,rfl,rfl,rfl,rfl,rfl,rfl,rfl,rfl,rfl,rfl,rfl⟩:=Zj (z:=2) rfl hq;have g0':=h0.size;have g1':=h1.size;have g2':=h2.size;refine iI λbs w5 rs es z5 f5=>iI λbp w6 rp ep z6 f6=> ?_;have fa:=(((((g0.trans h0).trans g1).trans h1).trans g2).trans h2);have ra:=(((ra.ext fa).ext f5).ext f6);refine iJ ra rfl rfl λu r t y=> ?_;have r:Row u a (.int .u8 32:: .int .u8 1:: .int .u8 13:: .int .u8 184:: .int .u8 0:: .int .u8 0:: .int .u8 0:: .int .u8 0:: .int .u8 0:: .int .u8 0:: .int .u8 0:: .int .u8 0:: .int .u8 0:: .int .u8 0:: .int .u8 0:: .int .u8 1:: .slice (some ⟨bs,0,none⟩) 2 2:: .slice (some ⟨bp,0,none⟩) 1 1:: .int .i64 1024:: .int .i64 65535:: .int .i64 16:: .int .i64 64:: .int .i64 128:: .int .i64 8:: .int .i64 1048576:: .int .i64 1500:: .int .i64 1500:: .int .i64 64:: .int .i64 0:: .int .i64 2:: .int .i64 300:: .int .i64 7440:: .int .i64 240:: .int .i64 60:: .int .i64 60:: .slice none 0 0::[]):=r;simp only[sx,r.cell];have rs:Row u bs _:=(rs.ext f6).fr (t (·=a) rfl) (by omega);have rp:Row u bp _:=rp.fr (t (·=a) rfl) (by omega);have fz:Ext w u:=(((f1.trans fa).trans f5).trans f6).new (t (·=a) rfl) (by intro x hx h;omega);exact⟨bs,bp,⟨rs,rp,by omega,by omega,by omega,fz⟩,rfl,rfl,rfl,rfl,rfl,rfl,rfl,rfl,rfl,rfl,rfl,rfl,rfl,rfl,rfl,rfl,rfl,rfl,rfl,rfl,rfl,rfl,rfl,rfl,rfl,rfl,rfl,rfl,rfl,rfl,rfl,rfl,rfl,rfl,rfl,rfl⟩
end Go.Proofs.CN
namespace Go.Proofs.CN
open Gp
theorem adt:OkP (Ql 0) ((2:Nat):Int) ((1:Nat):Int) ((0:Nat):Int) 1024 65535 16 64 128 8 1048576 1500 1500 64 0 2 300 7440 240 60 60 2 [Ql 1,Ql 2] [3325256705] []:=⟨by decide,by decide,by decide⟩
theorem ads:Gu (Ql 0) [Ql 1,Ql 2] [3325256705] [] 2 16:=⟨by decide,by decide,by decide,by decide,λk hk=>by simp[cnt]⟩
theorem Zp.sl {w w':World} {bs bp:Nat} (h:Zp w w' bs bp):mY 16 e16 w' ⟨some ⟨bs,0,none⟩,2,2⟩ [Ql 1,Ql 2]:=(iW.row (xs:=[Ql 1,Ql 2]) (f:=e16) (n:=16) h.rs).sl tY (by omega)
theorem Zp.pl {w w':World} {bs bp:Nat} (h:Zp w w' bs bp):mY 1 eI w' ⟨some ⟨bp,0,none⟩,1,1⟩ [3325256705]:=(iW.row (xs:=[(3325256705:Int)]) (f:=eI) (n:=1) h.rp).sl kN (by omega)
end Go.Proofs.CN
namespace Go.Proofs.CN
end Go.Proofs.CN
end
section
namespace Go.Proofs.PM
open Gp Gp.V4 Go.Proofs Go.Proofs.CN
open Gp.Bind (In64)
theorem aeQ {w:World} {cl no:List UInt8} {d0 d1 d2 d3 d4 d5 d6 d7 d8 d9 d10 d11 d12 d13 d14 d15 d16 d17 d18 d19 d20 d21 d22 d23 d24 d25 d26 d27 d28 d29 d30 d31 d32:Int} (hc:cl.length=16) (u:no.length=12) (I:[d1,d2,d3,d4,d5,d6,d7,d8,d9,d10,d11,d12,d13,d14,d15,d16]=bi cl) (hd:[d17,d18,d19,d20,d21,d22,d23,d24,d25,d26,d27,d28]=bi no) (hp:PA.may ⟨d0,d29,d30,d31,d32⟩):
  BM d0 d1 d2 d3 d4 d5 d6 d7 d8 d9 d10 d11 d12 d13 d14 d15 d16 d17 d18 d19 d20 d21 d22 d23 d24 d25 d26 d27 d28 d29 d30 d31 d32 w λs e w'=>Ext w w'/\e=0/\Buf w' s (bytesV (V7 cl no ⟨d0,d29,d30,d31,d32⟩))/\∀b,iq.at s b->w.heap.size<=b:=by
 apply YT;refine iI λa w1 r1 e1 z1 f1=> ?_;have rd:∀W (Q:_),Row W a (iU d0 d1 d2 d3 d4 d5 d6 d7 d8 d9 d10 d11 d12 d13 d14 d15 d16 d17 d18 d19 d20 d21 d22 d23 d24 d25 d26 d27 d28 d29 d30 d31 d32)->Q d0 d1 d2 d3 d4 d5 d6 d7 d8 d9 d10 d11 d12 d13 d14 d15 d16 d17 d18 d19 d20 d21 d22 d23 d24 d25 d26 d27 d28 d29 d30 d31 d32->jD W ⟨a,0,none⟩ Q:=by
  intro W Q hr hq;simp only[sx,hr.cell];exact hq
 refine rd _ _ r1 ?_;refine Jo acU ?_;rintro _ w2 ⟨rfl,f2⟩;rw[decide_eq_true hp,Bool.not_true,cond_false];have r2:=r1.ext f2;refine iC (k:= .int .i64) (i:=0) (x:=d0) r2 rfl ?_;refine iI λb w3 r3 e3 z3 f3=> ?_;refine Ec (PU (l:=[]) (fs:=[(2,1,()),(1,1,()),(0,2,()),(d0,4,())]) Buf.nil (NV r3 rfl rfl) (by simp) (by simp)) ?_;rintro s4 w4 ⟨b4,f4,n4⟩;have r4:=((r2.ext f3).ext f4).drew;refine rd _ _ r4 ?_;rw[kK];refine F9 ?_;have hL:bytesV cl=jH d1 d2 d3 d4 d5 d6 d7 d8 d9 d10 d11 d12 d13 d14 d15 d16:=by rw[uH,<- I];rfl
 have hs:qy w4.drew ⟨some ⟨a,0+1,none⟩,16,16⟩ cl:=EP (o:=1) r4 (A:=[.int .i64 d0]) (C:=[.int .u8 d17,.int .u8 d18,.int .u8 d19,.int .u8 d20,.int .u8 d21,.int .u8 d22,.int .u8 d23,.int .u8 d24,.int .u8 d25,.int .u8 d26,.int .u8 d27,.int .u8 d28,.int .i64 d29,.int .i64 d30,.int .i64 d31,.int .i64 d32]) (by rw[hL];rfl) rfl hc.symm;have l4:=Bg [(2,1,()),(1,1,()),(0,2,()),(d0,4,())] [];simp only[List.length_cons,List.length_nil] at l4;have x4:Ext w w4.drew:=(((f1.trans f2).trans f3).trans f4).trans (Ext.drew w4);have x3:Ext w w3:=(f1.trans f2).trans f3;refine nC (b4.ext (Ext.drew w4)) hs (by omega) λs5 w5 b5 f5 n5 _=> ?_;have na:¬iq.at s4 a:=λh=>by have:=n4 a h;have:=(r2.ext f3).lt;omega
 have r5:=r4.fr f5 na;have J:∀R:Prop,R->CkN (iU d0 d1 d2 d3 d4 d5 d6 d7 d8 d9 d10 d11 d12 d13 d14 d15 d16 d17 d18 d19 d20 d21 d22 d23 d24 d25 d26 d27 d28 d29 d30 d31 d32) w5 ⟨a,0,none⟩ 0 R:=by
  intro R hR;simp only[sx,zo,Di,r5.cell,true_and];exact hR
 refine J _ ?_;have x5:Ext w w5:=x4.new f5 λy hy h=>by have:=n4 y h;have:=x3.size;omega
 refine Iq (ac0 (w0:=w) b5 x5 (λy hy=> ?_) (by rw[List.length_append];omega) u hd hp) ?_
 ·rcases n5 y hy with h|h
  ·have:=n4 y h;have:=x3.size;omega
  ·have:=x4.size;omega
 rintro s6 w6 ⟨b6,f6,n6⟩;exact⟨f6,by trivial,b6,n6⟩
theorem aeK {w:World} {sw ad lf po ou:Int} (h:In64 ad) (hp:PA.may ⟨lf,17,po,ou,3325256705⟩):
  BL sw ad lf po ou w λs w'=>Ext w w'/\Buf w' s (bytesV (V7 (mapped ad) (List.replicate 12 0) ⟨lf,17,po,ou,3325256705⟩))/\∀b,iq.at s b->w.heap.size<=b:=by
 apply YR;refine QV h λx0 x1 x2 x3 x4 x5 x6 x7 x8 x9 x10 x11 x12 x13 x14 x15 w1 hx f1=> ?_;refine Yh (aeQ (cl:=mapped ad) (no:=List.replicate 12 0) (yR ad) (by simp) hx (by rfl) hp) ?_;rintro s e w2 ⟨f2,_,b2,n2⟩;exact⟨f1.trans f2,b2,λb hb=>by have:=n2 b hb;have:=f1.size;omega⟩
theorem Zi {w:World} {s:iq} {l:List UInt8} (hs:qy w s l) (hl:l.length=60) (hp:jT l 129=0) {K:Int->Int->Int->Int->Int->Int->Int->Int->Int->Int->Int->Int->Int->Int->Int->Int->Int->Int->Int->Int->Int->Int->Int->Int->Int->Int->Int->Int->Int->Int->Int->Int->Int->Int->Int->Int->b_}
  (h:∀x0 x1 x2 x3 x4 x5 x6 x7 x8 x9 u I J N O R U Y aa ab ac ae af ag ah ai aj ak al am an ao aq ar au w',Ext w w'->x0=(num l 3 1:Int)->x1=(num l 8 4:Int)->x2=(num l 4 4:Int)->K x0 x1 x2 x3 x4 x5 x6 x7 x8 x9 u I J N O R U Y aa ab ac ae af ag ah ai aj ak al am an ao aq ar au 0 w'):Ho s w K:=by
 apply aaq;refine iI λa w1 r1 e1 z1 f1=> ?_;refine acW (hs.ext f1) (by omega) λd0 d1 d2 d3 d4 d5 d6 d7 d8 d9 d10 d11 d12 d13 d14 d15 d16 d17 d18 d19 d20 d21 d22 d23 d24 d25 d26 d27 d28 d29 d30 d31 d32 w2 f2 hq=> ?_;rw[hp] at hq ⊢;obtain⟨q0,qc,qn,q29,q30,q31,q32⟩:=hq rfl;refine iI λb w3 r3 e3 z3 f3=> ?_;refine iJ r3 rfl rfl λw4 r4 f4' z4=> ?_;have x4:Ext w2 w4:=f3.new (f4' (·=b) rfl) λy hy e=>by omega
 simp only[show ((0:Int) !=0)=false from rfl,cond_false,kK];refine TP (jH 0 0 0 0 0 0 0 0 0 0 0 0 0 0 0 0) w4 (iU d0 d1 d2 d3 d4 d5 d6 d7 d8 d9 d10 d11 d12 d13 d14 d15 d16 d17 d18 d19 d20 d21 d22 d23 d24 d25 d26 d27 d28 d29 d30 d31 d32) 1 0 r4 (by intro v hv;exact List.all_eq_true.1 (by rfl:(jH 0 0 0 0 0 0 0 0 0 0 0 0 0 0 0 0).all jr=true) v hv) (by show 17<=33;omega) λw5 r5 f5' z5=> ?_;have f5:iG w4 w5 (·=b):=f5' _ rfl;have r5:Row w5 b (iU d0 0 0 0 0 0 0 0 0 0 0 0 0 0 0 0 0 d17 d18 d19 d20 d21 d22 d23 d24 d25 d26 d27 d28 d29 d30 d31 d32):=r5;have x5:Ext w2 w5:=x4.new f5 λy hy e=>by omega
 have hs5:=(hs.ext f1).ext (f2.trans x5);refine QF (abx hs5 (by omega) 8 4) ?_;rintro n e w6 ⟨rfl,hg⟩;have hn:=TV (at_:=8) (k:=4) (by omega) (by omega) hg;subst hn;refine byte_at hs5 (i:=3) (by omega) λad hc _=> ?_;have av:w6.drew.cell? ad=some (.int .u8 (l[3].toNat:Int)):=hc;have r6:=r5.drew;simp only[sx,av,r6.cell];have hb3:=Lp (l:=l) (i:=3) (by omega);have h255:l[3].toNat<256:=l[3].toNat_lt;rw[wrap_i64 (by omega) (by omega),<- hb3];have r7:Row w6.drew a _:=(r1.ext (f2.trans x5)).drew;refine iJ r7 rfl rfl λw7 r7 f7' z7=> ?_;simp only[sx,r7.cell];exact h _ _ _ _ _ _ _ _ _ _ _ _ _ _ _ _ _ _ _ _ _ _ _ _ _ _ _ _ _ _ _ _ _ _ _ w7 ((((f1.trans f2).trans x5).trans (Ext.drew w6)).new (f7' (·=a) rfl) λy hy e=>by omega) rfl rfl q0
end Go.Proofs.PM
end
section
namespace Go.Proofs.PS
open Gp Go.Proofs Go.Proofs.EN Go.Proofs.CN Go.Proofs.PM
open Gp.V4 (fitsP sizeOk num)
open Gp.Bind (Bnd Slots live GoodB freeN getS In64)
variable {c:Cf} {v:SV} {w:World} {A:SA}
theorem U7:∀(S:Slots) (k:Nat),((live k S).map (·.1)).Nodup/\∀x∈live k S,(k:Int)<=x.1
 |[],k=>by simp[live]
 |none::r,k=>by
  obtain⟨h1,h2⟩:=U7 r (k+1);exact⟨h1,λx hx=>by have:=h2 x hx;omega⟩
 |some b::r,k=>by
  obtain⟨h1,h2⟩:=U7 r (k+1);refine⟨?_,λx hx=> ?_⟩
  ·show ((k:Int)::(live (k+1) r).map (·.1)).Nodup;rw[List.nodup_cons];refine⟨λhm=> ?_,h1⟩;obtain⟨y,hy,he⟩:=List.mem_map.1 hm;have:=h2 y hy;omega
  ·rcases List.mem_cons.1 hx with rfl|hx
   ·exact Int.le_refl _
   ·have:=h2 x hx;omega
theorem Good.cnt {Z:Bnd->Prop} {P:List Int} (g:Good c Z v P) (h:Srv w A c v) (hZ:∀b,¬Z b):(live 0 v.e.S).length=v.L.length:=by
 refine len_eq (f:=(·.2)) (g:=iR.b) (Dv (U7 v.e.S 0).1 λx hx y hy e=> ?_) (Dv h.bn λx hx y hy e=>g.kk x hx y hy (by unfold iR.k;rw[e])) λb=> ?_
 ·obtain⟨x1,x2⟩:=x;obtain⟨y1,y2⟩:=y;obtain⟨i,hi,rfl⟩:=Gp.Bind.lY.1 hx;obtain⟨j,hj,rfl⟩:=Gp.Bind.lY.1 hy;simp only at e;subst e;rw[DU h.en.db.good hi hj rfl]
 ·rw[mem_map,mem_map];constructor
  ·rintro⟨⟨x1,x2⟩,hx,rfl⟩;obtain⟨i,hi,_⟩:=Gp.Bind.lY.1 hx;rcases g.ex i x2 hi with h|h
   ·exact h
   ·exact absurd h (hZ _)
  ·rintro⟨x,hx,rfl⟩;obtain⟨_,i,hi⟩:=g.eb x hx;exact⟨(((0+i:Nat):Int),x.b),Gp.Bind.lY.2 ⟨i,hi,rfl⟩,rfl⟩
structure ahS (c:Cf) (v:SV) (most:Int):Prop where
 pl:c.pl=[3325256705]
 sw:c.sw.len=2
 q:c.q=16
 nb:c.nb=64
 L:v.L=[]
 now:v.now=0
 nx:v.nx=0
 most:v.most=most
 tn:v.tn=0
 e:v.e=e0 2 64 128
theorem agi {w:World} {K:g_->Int->g_->Int->b_}
  (h:∀w' c A v,Ext w w'->Srv w' A c v->Good c (λ_=>False) v []->ahS c v 4->(∀b,jS A v.L b->w.heap.size<=b)->K (some ⟨A.a.x,0,none⟩) 0 (some ⟨A.s,0,none⟩) 0 w'):
  wG w λp0 p1 p2 p3 p4 p5 p6 p7 p8 p9 R U Y aa ab ac sw po n18 n19 n20 n21 n22 n23 n24 n25 n26 n27 n28 n29 n30 n31 n32 n33 n34 st w1=>D9 p0 p1 p2 p3 p4 p5 p6 p7 p8 p9 R U Y aa ab ac sw po n18 n19 n20 n21 n22 n23 n24 n25 n26 n27 n28 n29 n30 n31 n32 n33 n34 st w1 λae af w2=>vO ae 4 w2 λag ah w3=>K ae af ag ah w3:=by
 refine Wn (abZ w) ?_;rintro p0 p1 p2 p3 p4 p5 p6 p7 p8 p9 R U Y aa ab ac sw po n18 n19 n20 n21 n22 n23 n24 n25 n26 n27 n28 n29 n30 n31 n32 n33 n34 st w1 ⟨bs,bp,hB,rfl,rfl,rfl,rfl,rfl,rfl,rfl,rfl,rfl,rfl,rfl,rfl,rfl,rfl,rfl,rfl,rfl,rfl,rfl,rfl,rfl,rfl,rfl,rfl,rfl,rfl,rfl,rfl,rfl,rfl,rfl,rfl,rfl,rfl,rfl,rfl⟩;have hz:∀{W:World},mY 7 e7 W ⟨none,0,0⟩ ([]:List T7):=λ{W}=>mY.nil;refine acP hB.sl hB.pl hz (by simp) (by simp) (by simp) (λr w' _ hr hc=>absurd (Yb hc (.inr ⟨adt,.inr ⟨ads,rfl⟩⟩)) hr) λhOk hfine w2 ea e f2 hE hI hS hM N=> ?_;have he:e=e0 2 64 128:=by
  have hM:Maps _ (e0 2 64 128) [] e:=hM;generalize hq:([]:List Bnd)=q at hM
  cases hM with
  |nil=>rfl
  |no=>simp at hq
  |yes=>simp at hq
 subst he;obtain⟨c,u⟩:∃c:Cf,c=⟨jV 32 1 13 184 0 0 0 0 0 0 0 0 0 0 0 1 ⟨some ⟨bs,0,none⟩,2,2⟩ ⟨some ⟨bp,0,none⟩,1,1⟩ 1024 65535 16 64 128 8 1048576 1500 1500 64 0 2 300 7440 240 60 60 ⟨none,0,0⟩,⟨some ⟨bs,0,none⟩,2,2⟩,[3325256705],1024,65535,16,64,128⟩:=⟨_,rfl⟩;rw[<- u] at hE hI;refine Jp (PS.Q5 (Z:=λ_=>False) hE hI hS (by show 0<=2^40;omega) (n:=4) (by omega) (by omega) λj b hj=> ?_) ?_
 ·have hj:(List.replicate 64 (none:Option Bnd))[j]? =some (some b):=hj;rw[getElem?_replicate] at hj;split at hj<;>simp at hj
 rintro p r w3 ⟨rfl,f3,A,v,rfl,ai,aj,hG,hL,O,ak,I,al,am,J⟩;have:=h w3 c A v ((hB.ext.trans f2).trans f3) aj hG ⟨by rw[u],by rw[u],by rw[u],by rw[u],hL,O,ak,I,am,al⟩ λb hb=> ?_
 ·rw[ai] at this;exact this
 ·have z1:=hB.ext.size;rcases J b hb with ⟨k,h⟩|h
  ·have:=N k b h;omega
  ·have:=f2.size;omega
end Go.Proofs.PS
end
section
namespace Go.Proofs.PS
open Gp Go.Proofs Go.Proofs.EN Go.Proofs.CN Go.Proofs.PM
open Gp.V4 (fitsP sizeOk num)
open Gp.Bind (Bnd Slots live GoodB freeN getS In64)
variable {c:Cf} {v:SV} {w:World} {A:SA}
def qP (lf po ou:Int):PA:=⟨lf,17,po,ou,3325256705⟩
def qB (sw po ou:Int):Bnd:=⟨sw,17,167772161,po,17,3325256705,ou,true⟩
def zL:List UInt8:=List.replicate 12 0
def qL (lf po ou:Int):List UInt8:=V7 (mapped 167772161) zL (qP lf po ou)
theorem aiz {n k m:Int} (hk:sizeOk k) (hm:(256:Int)^k.toNat=m) (h0:0<=n) (h1:n<m):fitsP n k:=⟨hk,h0,by rw[hm];exact h1⟩
theorem aff {n:Int} (h0:0<=n) (h1:n<4294967296):fitsP n 4:=aiz ⟨by omega,by omega⟩ (by decide) h0 h1
theorem ahZ {n:Int} (h0:0<=n) (h1:n<65536):fitsP n 2:=aiz ⟨by omega,by omega⟩ (by decide) h0 h1
theorem ahY {n:Int} (h0:0<=n) (h1:n<256):fitsP n 1:=aiz ⟨by omega,by omega⟩ (by decide) h0 h1
theorem adZ {l:List UInt8} {k:Int} (h:jT l k=0):l.length=60:=by
 unfold jT at h;split at h
 ·omega
 split at h<;>omega
theorem af4 {lf po ou:Int} (h1:0<=lf/\lf<4294967296) (h2:0<=po/\po<65536) (h3:0<=ou/\ou<65536):(qP lf po ou).may:=
 ⟨aff h1.1 h1.2,ahY (n:=17) (by decide) (by decide),ahZ h2.1 h2.2,ahZ h3.1 h3.2,aff (n:=3325256705) (by decide) (by decide)⟩
theorem af2 {lf po ou:Int} (h:(qP lf po ou).may):jT (qL lf po ou) 1=0/\Bc (qL lf po ou)=qP lf po ou/\NH (qL lf po ou)=mapped 167772161/\Q7 (qL lf po ou)=zL:=
 abe (yR _) (by simp[zL]) h
theorem X0 {r ep lf po ou:Int} (hr:0<=r/\r<256) (he:0<=ep/\ep<4294967296) (h:(qP lf po ou).may):Dj r ep (qP lf po ou):=⟨h,ahY hr.1 hr.2,aff he.1 he.2⟩
theorem ah3:In64 167772161:=by unfold In64;omega
theorem ad8 (h:Srv w A c v) (g:Good c (λ_=>False) v []) (f:ahS c v 4) {sw lf po ou:Int} (O:sw=0\/sw=1) (h1:0<lf/\lf<=65535) (h2:0<=po/\po<65536) (h3:0<=ou/\ou<65536) {s:iq} (hs:qy w s (qL lf po ou)) {K:iq->Int->b_}
  (hK:∀s' w' A' v' n id,Out c (λ_=>False) w A v w' A' v'->v'.L=[⟨n,qB sw po ou,lf,id⟩]->Buf w' s' (bytesV (Hg 0 0 zL (qP lf po ou)))->(∀b,iq.at s' b->w.heap.size<=b/\¬jS A' v'.L b)->K s' 0 w'):
  ni (some ⟨A.s,0,none⟩) sw 167772161 s w K:=by
 have hm:=af4 (lf:=lf) (po:=po) (ou:=ou) (by omega) h2 h3;obtain⟨q1,q2,q3,q4⟩:=af2 hm;refine aaE h g (by rw[f.nx];omega) (by rw[f.tn];omega) (by rw[f.most];omega) ah3 hs (by rw[adZ q1];omega) λs' e bs w' A' v' ho hr hb hn=> ?_;have hL:=f.L;have R:(Bc (qL lf po ou)).lf=lf:=by rw[q2];rfl
 have hB:aeL (qL lf po ou) sw 167772161=qB sw po ou:=by unfold aeL;rw[q2];rfl
 have J:Cj c v.e (qB sw po ou)=0:=by
  have he:=f.e;have N:Gw c (qB sw po ou):=by
   refine⟨.inr (.inr rfl),(by decide:nY 167772161),?_,⟨h2.1,by show po<=65535;omega⟩,⟨h3.1,by show ou<=65535;omega⟩,rfl,?_⟩
   ·rw[f.pl];exact List.mem_singleton.2 rfl
   ·unfold WB;rw[f.sw];show 0<=sw/\sw<2;omega
  unfold Cj;rw[if_neg (not_not_intro N),he,if_neg (by simp[e0]),if_neg,if_neg]
  ·show ¬((live 0 (List.replicate 64 none)).length:Int)>=c.nb;rw[sN,f.nb];simp
  ·rw[f.q];have hc:QN.sJ (e0 2 64 128).Q (qB sw po ou).sw=0:=by
    rcases O with rfl|rfl
    ·exact(by decide:QN.sJ (List.replicate 2 0) 0=0)
    ·exact(by decide:QN.sJ (List.replicate 2 0) 1=0)
   rw[hc];decide
 generalize hl:qL lf po ou=l at *
 cases hr with
 |bad u=>exact absurd q1 u
 |far _ u=>exact absurd q3 u
 | @ans r e0' e31 e32 _ _ _ ha=>
  rw[R,hB] at ha
  cases ha with
  |none h0=>omega
  |drop h0=>omega
  |ext _ hx=>rw[hL] at hx;cases hx
  |renew _ hx=>rw[hL] at hx;cases hx
  |full _ _ hf=>rw[hL,f.most] at hf;simp at hf
  |map _ _ _ u=>exact absurd J u
  | @add n id i _ _ _ _ _ hL' hfree hS'=>
   have ht:mg l 0 (min lf 86400) (qB sw po ou).opo (qB sw po ou).oad=qP lf po ou:=by
    unfold mg;rw[q2,if_pos rfl];show (⟨min lf 86400,17,po,ou,3325256705⟩:PA)=⟨lf,17,po,ou,3325256705⟩;rw[Int.min_eq_left (by omega)]
   have I:((v.now % 4294967296:Nat):Int)=0:=by rw[f.now];rfl
   rw[ht,I,if_pos (X0 (by omega) (by omega) hm),q4] at hb;have:=hK s' w' A' v' n id ho (by rw[hL',f.L,f.now,Int.min_eq_left (by omega)];simp) hb hn;rw[ht,I,if_pos (X0 (by omega) (by omega) hm)];exact this
end Go.Proofs.PS
end
section
namespace Go.Proofs.PS
open Gp Go.Proofs Go.Proofs.EN Go.Proofs.CN Go.Proofs.PM
open Gp.V4 (fitsP sizeOk num)
open Gp.Bind (Bnd Slots live GoodB freeN getS In64)
variable {c:Cf} {v:SV} {w:World} {A:SA}
theorem ac4 (h:Srv w A c v) (g:Good c (λ_=>False) v []) {K:Int->iq->iq->Int->Int->Int->iq->b_} (hK:∀x0 bs ss x3 x4 x5 sl w',Ext w w'->bs.len=v.L.length->K x0 bs ss x3 x4 x5 sl w'):
  lH (some ⟨A.a.x,0,none⟩) w K:=by
 have hE:=h.en;have hb1:=hE.cf.b1;have hs1:=hE.cf.s1;have hl:=hE.db.len;refine ac3 hE ⟨by rw[hl];omega,by rw[hE.se.len];omega⟩ λbs ss w' f u _ _ _=>hK _ _ _ _ _ _ _ _ f ?_;rw[(u.sl Ei (by omega)).len,List.length_map,g.cnt h λ_ hz=>hz]
theorem agK (h:Srv w A c v) (g:Good c (λ_=>False) v []) {x:iR} (hL:v.L=[x]) (O:x.un<=1099511627776) {a:Int} (ha:(v.now:Int)<=a/\a<=1099511627776) {K:Int->b_}
  (hK:∀n w' A' v',iG w w' (jS A v.L)->Srv w' A' c v'->Good c (λ_=>False) v' []->A'.s=A.s->A'.a=A.a->(∀b,jS A' v'.L b->jS A v.L b\/w.heap.size<=b)->v'.now=a.toNat->v'.tn=v.tn->v'.most=v.most->v'.nx=v.nx->
   (x.un<=a->n=1/\v'.L=[])->(a<x.un->n=0/\v'.L=[x])->K n w'):jO (some ⟨A.s,0,none⟩) a w K:=by
 refine zO (aa_ h g (λy hy=>by rw[hL] at hy;rw[List.mem_singleton.1 hy];exact O) a (T:=a.toNat) (by omega)) ?_;rintro n w' ⟨f,A',v',hS,hG,hs,ha',I,hn,hm,ht,R,hx,hc⟩;have U:((a.toNat:Nat):Int)=a:=toNat_of_nonneg (by omega);rw[U] at hm;refine hK n w' A' v' f hS hG hs ha' I hn ht R hx (λhle=> ?_) λY=> ?_
 ·have:v'.L=[]:=List.eq_nil_iff_forall_not_mem.2 λy hy=>by
   have:=(hm y).1 hy;rw[hL,List.mem_singleton] at this;rw[this.1] at this;omega
  rw[hc,this,hL];exact⟨rfl,rfl⟩
 ·have u:∀y∈v'.L,y=x:=λy hy=>by
   have:=((hm y).1 hy).1;rw[hL] at this;exact List.mem_singleton.1 this
  have J:x∈v'.L:=(hm x).2 ⟨by rw[hL];exact List.mem_singleton.2 rfl,Y⟩;have:v'.L=[x]:=by
   cases hl:v'.L with
   |nil=>rw[hl] at J;cases J
   |cons y l=>
    have N:=hS.bn;rw[hl] at u N;obtain rfl:=u y List.mem_cons_self
    cases l with
    |nil=>rfl
    |cons z l=>
     obtain rfl:=u z (by simp);simp at N
  rw[hc,this,hL];exact⟨rfl,rfl⟩
theorem agk {w:World} {s:iq} {r ep:Int} {p:PA} (hs:qy w s (Hg r ep zL p)) (hp:Dj r ep p) {K:Int->Int->Int->Int->Int->Int->Int->Int->Int->Int->Int->Int->Int->Int->Int->Int->Int->Int->Int->Int->Int->Int->Int->Int->Int->Int->Int->Int->Int->Int->Int->Int->Int->Int->Int->Int->b_}
  (h:∀x0 x1 x2 x3 x4 x5 x6 x7 x8 x9 u I J N O R U Y aa ab ac ae af ag ah ai aj ak al am an ao aq ar au w',Ext w w'->x0=r->x1=ep->x2=p.lf->K x0 x1 x2 x3 x4 x5 x6 x7 x8 x9 u I J N O R U Y aa ab ac ae af ag ah ai aj ak al am an ao aq ar au 0 w'):Ho s w K:=by
 obtain⟨h1,h2,h3,h4,h5⟩:=adq (no:=zL) (by simp[zL]) hp;refine Zi hs h5 h1 λx0 x1 x2 x3 x4 x5 x6 x7 x8 x9 u I J N O R U Y aa ab ac ae af ag ah ai aj ak al am an ao aq ar au w' f e0 e1 e2=>h x0 x1 x2 x3 x4 x5 x6 x7 x8 x9 u I J N O R U Y aa ab ac ae af ag ah ai aj ak al am an ao aq ar au w' f ?_ ?_ ?_
 ·rw[e0,h3,toNat_of_nonneg hp.2.1.2.1]
 ·rw[e1,h4,toNat_of_nonneg hp.2.2.2.1]
 ·have:(Bc (Hg r ep zL p)).lf=p.lf:=by rw[h2]
  rw[e2];exact this
theorem aeM (w:World):mD w λr w'=>r=true/\Ext w w':=by
 apply Vl;refine agi λw1 c A v f1 hS hG hF u=> ?_;have N:∀{B:SA} {L:List iR},(∀b,jS B L b->w.heap.size<=b)->∀y,y<w.heap.size->¬jS B L y:=λhB y hy h=>by have:=hB y h;omega
 intro J;have hJ:J false:=by
  simp -zeta only[J,cond_false];have hp:=af4 (lf:=60) (po:=80) (ou:=8080) (by omega) (by omega) (by omega);refine Yg (aeK ah3 hp) ?_;rintro s w2 ⟨f2,b2,n2⟩;have hS2:=hS.ext f2;refine ad8 hS2 hG hF (sw:=1) (lf:=60) (po:=80) (ou:=8080) (.inr rfl) (by omega) (by omega) (by omega) (qy.zZ b2) λs' w3 A' v' n id ho hL' hb3 hn3=> ?_;have x3:Ext w w3:=(f1.trans f2).new ho.fr (N u);have hA':∀b,jS A' v'.L b->w.heap.size<=b:=λb hb=>by
   rcases ho.sub b hb with h|h
   ·exact u b h
   ·have:=(f1.trans f2).size;omega
  have O:=X0 (r:=0) (ep:=0) (by omega) (by omega) hp;refine agk (qy.zZ hb3) O λt0 t1 t2 t3 t4 t5 t6 t7 t8 t9 t10 t11 t12 t13 t14 t15 t16 t17 t18 t19 t20 t21 t22 t23 t24 t25 t26 t27 t28 t29 t30 t31 t32 t33 t34 w4 f4 e0 e1 e2=> ?_;subst e0 e1 e2;refine iI λa w5 r5 e5 z5 f5=> ?_;refine iJ r5 rfl rfl λw6 r6 f6' z6=> ?_;have x6:Ext w3 w6:=(f4.trans f5).new (f6' (·=a) rfl) λy hy e=>by have:=f4.size;omega
  intro J2;have hJ2:∀q W,q=true->Ext w W->J2 q W:=λq W hq hW=>⟨hq,hW⟩;clear_value J2;simp only[show ((0:Int)==0)=true from rfl,cond_true,sx,r6.cell];show cond ((60:Int)==60) _ _;rw[show ((60:Int)==60)=true from rfl,cond_true];have hS6:=ho.srv.ext x6;rw[<- ho.x];refine ac4 hS6 ho.good λy0 bs ss y3 y4 y5 sl w7 f7 I=> ?_;rw[I,hL'];show cond true _ _;rw[cond_true,<- ho.s];refine agK (hS6.ext f7) ho.good hL' (by show (60:Int)<=_;omega) (a:=60) (by rw[ho.now,hF.now];omega) λn8 w8 A8 v8 f8 hS8 hG8 hs8 ha8 hsub8 hn8 ht8 hm8 hx8 R _=> ?_;obtain⟨rfl,hL8⟩:=R (Int.le_refl _);rw[show ((1:Int)==1)=true from rfl,cond_true,<- ha8];have x8:Ext w w8:=((x3.trans x6).trans f7).new f8 (N hA');refine ac4 hS8 hG8 λy0 bs ss y3 y4 y5 sl w9 f9 I=> ?_;refine hJ2 _ _ ?_ (x8.trans f9);rw[I,hL8];rfl
 clear_value J;exact hJ
end Go.Proofs.PS
end
