import Derived.Test.YtfndjkoiappemaaGreatW14
import Derived.Test.YtfndjkoiappemaaGreatW12
open List (append_assoc append_inj' append_nil getElem?_eq_getElem length_append length_cons length_drop length_nil length_replicate length_singleton length_take mem_append mem_cons nil_append take_append_drop take_of_length_le)
open Int (toNat_natCast)
set_option maxRecDepth 100000
set_option maxHeartbeats 2000000
section
namespace Go.Proofs.XN
open Gp Go.Proofs Go.Proofs.EN
open Go.Proofs.CN (SlN_ix)
open Gp.Bind (Bnd Slots live GoodB freeN getS In64)
variable {w w':World} {a:XA} {c:Cf} {S:Slots} {SS:Gp.Ses.Slots} {now:Nat} {L:List PN.O3} {Q:List Int} {B:List (Int×Bnd)} {T:List (Int×Gp.Ses.Ses)}
theorem agB (h:XE w a c S SS now) (hs:NoX SS) {K:Int->iq->iq->Int->Int->Int->iq->b_}
  (hK:∀bs w',Ext w w'->iW 8 eB w' bs ((live 0 S).map (·.2))->K (now:Int) bs FM 0 0 0 FM w'):
  rJ (some ⟨a.x,0,none⟩) w K:=by
 obtain⟨L,Q,hx,_⟩:=h;apply Kw;refine iI λr w1 r1 e1 z1 f1=> ?_;have x1:=f1.trans (Ext.drew w1);have h1:=hx.ext x1;have hT:Gp.Ses.live 0 SS=[]:=hs;have R:(a.ts.len:Int)=0:=by have:=h1.se.buf.len;rw[hT] at this;rw[this];rfl
 simp only[sx,h1.c36,h1.c40,h1.t0];refine iI λv w2 r2 e2 z2 f2=> ?_;have h2:=h1.ext f2;refine⟨h2.t0,h2.c40,h2.c36,?_⟩;refine iJ r2 (by rfl) (by rfl) λw3 r3 f3 z3=> ?_;have zd:w1.drew.heap.size=w1.heap.size:=rfl;have x3:Ext w w3:=(x1.trans f2).new (f3 (·=v) rfl) λy hy he=>by have:=f1.size;omega
 have q3:=(r1.drew.ext f2).fr (f3 (·=v) rfl) (by omega);rw[R] at r3;have hll:=hx.db.len;refine iE (λst W=>∃(i:Nat) (bs:iq),i<=(live 0 S).length/\st.1=(i:Int)/\Ext w W/\Row W v (vwC now bs FM 0)/\Row W r [.int .i64 0,.slice none 0 0,.slice none 0 0,.int .i64 0,.int .i64 0,.int .i64 0,.slice none 0 0]/\
   iW 8 eB W bs (((live 0 S).map (·.2)).take i)/\(∀b,iq.at bs b->v<b)) (λst _=>(live 0 S).length - st.1.toNat) ⟨0,FM,by omega,rfl,x3,r3,q3,by simpa [FM] using iW.nil,λb ⟨o,hb⟩=>by cases hb⟩ ?_
 rintro⟨j,⟨⟩⟩ W ⟨i,bs,hi,hj,hW,rv,rr,hb,hn⟩ next I
 dsimp only at hj;subst hj;have J:=hx.ext hW;have hlen:=J.db.buf.len;simp only[sx,J.c39,J.b0];by_cases U:(i:Int)<(a.bs.len:Int)
 ·rw[decide_eq_true U,cond_true];have N:=hx.ext (hW.trans (Ext.drew W));have rvd:=rv.drew;simp only[sx,rvd.cell,vwC,N.c39,N.b0];have hg:=getElem?_eq_getElem (show i<(live 0 S).length by omega);generalize (live 0 S)[i]=y at hg;obtain⟨u,b⟩:=y;have Y:=N.db.buf.sl RB.jl (by omega);refine SlN_ix RB.jl (by omega) Y (by omega) (by rw[toNat_natCast];exact hg) λad hc=> ?_;have c1:=hc 1 _ rfl;have c2:=hc 2 _ rfl;have c3:=hc 3 _ rfl;have c4:=hc 4 _ rfl;have c5:=hc 5 _ rfl;have c6:=hc 6 _ rfl;have c7:=hc 7 _ rfl;have c8:=hc 8 _ rfl;simp only[sx,kW,Nat.reduceAdd,c1,c2,c3,c4,c5,c6,c7,c8];refine iI λy w5 r5 e5 z5 f5=> ?_;have v5:=rvd.ext f5;refine⟨by rw[v5.cell];rfl,?_⟩;have hbl:bs.len=i:=by rw[(hb.sl Ei (by omega)).len,length_take,List.length_map];omega
  have sl:mY 8 eB w5 ⟨some ⟨y,0,none⟩,1,1⟩ [b]:=(iW.row (xs:=[b]) r5).sl Ei (by omega);refine iV Ei ((hb.ext (Ext.drew W)).ext f5) sl rfl (by omega) ae6 (by simp;omega) (by simp;omega) λs' w6 b6 f6 n6=> ?_;have zW:W.drew.heap.size=W.heap.size:=rfl;have hvl:=rv.lt;have aa:¬iq.at bs v:=λhh=>by have:=hn v hh;omega
  have hrb:r<v:=by omega
  have O:¬iq.at bs r:=λhh=>by have:=hn r hh;omega
  have v6:=v5.fr f6 aa;have q6:=((rr.drew).ext f5).fr f6 O;have x6:Ext w w6:=((hW.trans (Ext.drew W)).trans f5).new f6 λz hz hh=>by have:=hn z hh;have:=f1.size;omega
  refine iK v6 rfl (by simp[vwC]) λw7 r7 f7' z7=> ?_;have f7:iG w6 w7 (·=v):=f7' _ rfl;have hs':∀b,iq.at s' b->v<b:=λz hz=>by
   rcases n6 z hz with hh|hh
   ·exact hn z hh
   ·omega
  rw[wrap_i64 (by omega) (by omega)];refine I _ _ ⟨i+1,s',by omega,by simp,x6.new f7 λz hz hh=>by have:=f1.size;omega,r7,q6.fr f7 (by omega),?_,hs'⟩ (by simp only;omega);have ab:((live 0 S).map (·.2)).take (i+1)=((live 0 S).map (·.2)).take i++[b]:=EN.take_succ (by rw[List.getElem?_map,hg];rfl);rw[ab];exact b6.fr f7 λz hz e=>by have:=hs' z hz;omega
 ·rw[decide_eq_false U,cond_false];rw[take_of_length_le (by simp;omega)] at hb;refine iE (λst X=>X=W/\st.1=0) (λ_ _=>0) ⟨rfl,rfl⟩ ?_;rintro⟨z,_⟩ W' ⟨rfl,hz⟩ _ _;dsimp only at hz;subst hz;simp only[sx,J.c40,J.t0,R,Int.lt_irrefl,decide_false,cond_false,rv.cell,vwC];refine iJ rr (by rfl) (by rfl) λw8 r8 f8 z8=> ?_;have x8:Ext w w8:=hW.new (f8 (·=r) rfl) λy hy he=>by omega
  simp only[sx,r8.cell];exact hK bs w8 x8 (hb.fr (f8 (·=r) rfl) λz hz he=>by have:=hn z hz;have:=r1.lt;omega)
theorem ahc (w:World):zF FM FM w λr w'=>r=true/\w'=w:=by
 apply W9;simp only[FM,bne_self_eq_false,cond_false];refine iE (λst X=>X=w/\st.1=0) (λ_ _=>0) ⟨rfl,rfl⟩ ?_;rintro⟨z,_⟩ W' ⟨rfl,hz⟩ _ _;dsimp only at hz;subst hz;exact⟨by trivial,by trivial⟩
theorem ahB {bs bs' ss:iq} (h0:ss.len=0) {l:List Bnd} (hb:iW 8 eB w bs l) (hb':iW 8 eB w bs' l) (hl:l.length<=5000) (n:Int):
  wH n bs ss 0 0 0 FM n bs' FM 0 0 0 FM w λr w'=>r=true/\Ext w w':=by
 apply WZ;refine iI λp w1 r1 e1 z1 f1=> ?_;refine iI λq w2 r2 e2 z2 f2=> ?_;have p2:=r1.ext f2;have x2:=f1.trans f2;have hs:=hb.sl Ei (by omega);have hs':=hb'.sl Ei (by omega);have O:=hs.len;have u:=hs'.len;intro J;have hJ:J false:=by
  simp only[J,cond_false];refine iE (λst W=>∃i:Nat,i<=l.length/\st.1=(i:Int)/\Ext w2 W) (λst _=>l.length - st.1.toNat) ⟨0,by omega,rfl,Ext.refl _⟩ ?_;rintro⟨j,⟨⟩⟩ W ⟨i,hi,hj,hW⟩ next h
  dsimp only at hj;subst hj;have pW:=p2.ext hW;have qW:=r2.ext hW;refine iC (k:= .slice) (i:=1) (x:=bs) pW rfl ?_;by_cases N:(i:Int)<(bs.len:Int)
  ·rw[decide_eq_true N,cond_true];have I:=hW.trans (Ext.drew W);have hg:=getElem?_eq_getElem (show i<l.length by omega);generalize l[i]=b at hg;refine iC (k:= .slice) (i:=1) (x:=bs) pW.drew rfl ?_;refine SlN_ix Ei (by omega) (hs.ext (x2.trans I)) (by omega) (by rw[toNat_natCast];exact hg) λad hc=> ?_;have c0:=hc 0 _ rfl;have c1:=hc 1 _ rfl;have c2:=hc 2 _ rfl;have c3:=hc 3 _ rfl;have c4:=hc 4 _ rfl;have c5:=hc 5 _ rfl;have c6:=hc 6 _ rfl;have c7:=hc 7 _ rfl;have qd:=qW.drew;simp only[sx,c0,c1,c2,c3,c4,c5,c6,c7,qd.cell];refine SlN_ix Ei (by omega) (hs'.ext (x2.trans I)) (by omega) (by rw[toNat_natCast];exact hg) λad' hc'=> ?_;have d0:=hc' 0 _ rfl;have d1:=hc' 1 _ rfl;have d2:=hc' 2 _ rfl;have d3:=hc' 3 _ rfl;have d4:=hc' 4 _ rfl;have d5:=hc' 5 _ rfl;have d6:=hc' 6 _ rfl;have d7:=hc' 7 _ rfl;simp only[sx,d0,d1,d2,d3,d4,d5,d6,d7,beq_self_eq_true,Bool.and_self,Bool.not_true,cond_false];rw[wrap_i64 (by omega) (by omega)];exact h _ _ ⟨i+1,by omega,by simp,I⟩ (by simp only;omega)
  ·rw[decide_eq_false N,cond_false];refine iE (λst X=>X=W/\st.1=0) (λ_ _=>0) ⟨rfl,rfl⟩ ?_;rintro⟨z,_⟩ W' ⟨rfl,hz⟩ _ _;dsimp only at hz;subst hz;refine iC (k:= .slice) (i:=2) (x:=ss) pW rfl ?_;simp only[h0,FM,Int.natCast_zero,Int.lt_irrefl,decide_false,cond_false];simp only[sx,pW.cell,qW.cell,beq_self_eq_true,cond_true];refine Ws (ahc W') ?_;rintro r w9 ⟨rfl,hw⟩;subst hw;exact⟨rfl,x2.trans hW⟩
 clear_value J;refine iC (k:= .slice) (i:=1) (x:=bs) p2 rfl (iC (k:= .slice) (i:=1) (x:=bs') r2 rfl ?_);have:((bs.len:Int) !=(bs'.len:Int))=false:=by rw[O,u];simp
 rw[this,cond_false];refine iC (k:= .slice) (i:=2) (x:=ss) p2 rfl (iC (k:= .slice) (i:=2) (x:=FM) r2 rfl ?_);rw[h0];exact hJ
end Go.Proofs.XN
end
section
namespace Go.Proofs.EN
open Gp Go.Proofs Go.Proofs.CN
open Go.Proofs.XN (mapX mapE_X)
open Gp.Bind (Bnd Slots live GoodB freeN getS In64)
inductive CY (c:Cf) (S0:Slots):List Bnd->Slots->Prop
 |nil:CY c S0 [] S0
 |no {l:List Bnd} {S:Slots} {b:Bnd}:CY c S0 l S->mapX c S b≠0->CY c S0 (l++[b]) S
 |yes {l:List Bnd} {S:Slots} {b:Bnd} {i:Nat}:CY c S0 l S->mapX c S b=0->freeN S=some i->CY c S0 (l++[b]) (S.set i (some b))
theorem CY.fn {c:Cf} {S0:Slots}:∀{l:List Bnd} {S S':Slots},CY c S0 l S->CY c S0 l S'->S=S':=by
 intro l S S' h
 induction h generalizing S' with
 |nil=>
  intro h';generalize hl:([]:List Bnd)=l at h'
  cases h' with
  |nil=>rfl
  |no _ _=>simp at hl
  |yes _ _ _=>simp at hl
 |no h1 h2 ih=>
  intro h';rename_i l0 S1 b0;generalize hl:l0++[b0]=l at h'
  cases h' with
  |nil=>simp at hl
  |no g1 g2=>
   obtain⟨rfl,hb⟩:=append_inj' hl rfl;exact ih g1
  |yes g1 g2 g3=>
   obtain⟨rfl,hb⟩:=append_inj' hl rfl;simp only[List.cons.injEq,and_true] at hb;subst hb;have:=ih g1;subst this;exact absurd g2 h2
 |yes h1 h2 h3 ih=>
  intro h';rename_i l0 S1 b0 i0;generalize hl:l0++[b0]=l at h'
  cases h' with
  |nil=>simp at hl
  |no g1 g2=>
   obtain⟨rfl,hb⟩:=append_inj' hl rfl;simp only[List.cons.injEq,and_true] at hb;subst hb;have:=ih g1;subst this;exact absurd h2 g2
  |yes g1 g2 g3=>
   obtain⟨rfl,hb⟩:=append_inj' hl rfl;simp only[List.cons.injEq,and_true] at hb;subst hb;have:=ih g1;subst this;rw[h3] at g3
   cases g3
   rfl
theorem Maps.toX {c:Cf} {e0:ES} {l:List Bnd} {e:ES} (h:Maps c e0 l e) (hc:adb c):CY c e0.S l e.S/\e.l=e0.l/\e.now=e0.now:=by
 induction h with
 |nil=>exact⟨.nil,rfl,rfl⟩
 |no _ hi hg u ih=>exact⟨.no ih.1 (by rw[<- mapE_X hi hc hg];exact u),ih.2⟩
 |yes _ hi hg he hf ih=>exact⟨.yes ih.1 (by rw[<- mapE_X hi hc hg];exact he) hf,ih.2⟩
end Go.Proofs.EN
end
section
namespace Go.Proofs.XN
open Gp Go.Proofs Go.Proofs.EN Go.Proofs.CN
open Gp.Bind (Bnd Slots live GoodB freeN getS In64)
theorem Zm {w:World} {p0 p1 p2 p3 p4 p5 p6 p7 p8 p9 u I J N O R:Int} {sw po:iq} {n18 n19 n20 n21 n22 n23 n24 n25 n26 n27 n28 n29 n30 n31 n32 n33 n34:Int} {st:iq} {sl:List sV} {pl:List Int} {tl:List T7} (aw:mY 16 e16 w sw sl) (ak:mY 1 eI w po pl) (al:mY 7 e7 w st tl) (lsw:sw.len<=2^40) (lpo:po.len<=2^40) (lst:st.len<=2^40)
  {K:g_->Int->b_}
  (am:∀r w',Ext w w'->r≠0->chk (p0,p1,p2,p3,p4,p5,p6,p7,p8,p9,u,I,J,N,O,R,()) sw.len po.len st.len n18 n19 n20 n21 n22 n23 n24 n25 n26 n27 n28 n29 n30 n31 n32 n33 n34 sw.len sl pl tl r->K none r w')
  (ax:OkP (p0,p1,p2,p3,p4,p5,p6,p7,p8,p9,u,I,J,N,O,R,()) sw.len po.len st.len n18 n19 n20 n21 n22 n23 n24 n25 n26 n27 n28 n29 n30 n31 n32 n33 n34 sw.len sl pl tl->Gu (p0,p1,p2,p3,p4,p5,p6,p7,p8,p9,u,I,J,N,O,R,()) sl pl tl sw.len n20->
   ∀w' a S,Ext w w'->XE w' a ⟨jV p0 p1 p2 p3 p4 p5 p6 p7 p8 p9 u I J N O R sw po n18 n19 n20 n21 n22 n23 n24 n25 n26 n27 n28 n29 n30 n31 n32 n33 n34 st,sw,pl,n18,n19,n20,n21,n22⟩ S (List.replicate n22.toNat none) 0->CY ⟨jV p0 p1 p2 p3 p4 p5 p6 p7 p8 p9 u I J N O R sw po n18 n19 n20 n21 n22 n23 n24 n25 n26 n27 n28 n29 n30 n31 n32 n33 n34 st,sw,pl,n18,n19,n20,n21,n22⟩ (List.replicate n21.toNat none) (tl.map toB) S->(∀b,Ak a b->w.heap.size<=b)->K (some ⟨a.x,0,none⟩) 0 w'):
  Jf p0 p1 p2 p3 p4 p5 p6 p7 p8 p9 u I J N O R sw po n18 n19 n20 n21 n22 n23 n24 n25 n26 n27 n28 n29 n30 n31 n32 n33 n34 st w K:=by
 apply Y6;refine iI λa w1 r1 e1 z1 f1=> ?_;have rd:∀W (Q:_),Row W a (jV p0 p1 p2 p3 p4 p5 p6 p7 p8 p9 u I J N O R sw po n18 n19 n20 n21 n22 n23 n24 n25 n26 n27 n28 n29 n30 n31 n32 n33 n34 st)->Q p0 p1 p2 p3 p4 p5 p6 p7 p8 p9 u I J N O R sw po n18 n19 n20 n21 n22 n23 n24 n25 n26 n27 n28 n29 n30 n31 n32 n33 n34 st->vH W ⟨a,0,none⟩ Q:=by
  intro W Q hr hq;simp only[sx,hr.cell];exact hq
 refine rd _ _ r1 ?_;refine Js (Sz (aw.ext f1) (ak.ext f1) (al.ext f1) lsw lpo lst) ?_;rintro r w2 ⟨hc,f2⟩;have x2:=f1.trans f2;by_cases hr:r=0;rotate_left
 ·have:(r !=0)=true:=by rw[bne_iff_ne];exact hr
  rw[this,cond_true];exact am r w2 x2 hr hc
 have:(r !=0)=false:=by rw[bne_eq_false_iff_eq];exact hr
 rw[this,cond_false];subst hr;rcases hc with ⟨_,h⟩|⟨ag,⟨_,h⟩|⟨U,_⟩⟩
 ·cases h
 ·cases h
 have hK:=ax ag U;have hn:=acR ag;obtain⟨b1,b2,b3,b4,b5,b6,b7,b8⟩:=hn;have r2:=r1.ext f2;refine rd _ _ r2 ?_;refine iI λx w3 r3 e3 z3 f3=> ?_;have x3:=x2.trans f3;have r2:=r2.ext f3;have r3:Row w3 x ((jV p0 p1 p2 p3 p4 p5 p6 p7 p8 p9 u I J N O R sw po n18 n19 n20 n21 n22 n23 n24 n25 n26 n27 n28 n29 n30 n31 n32 n33 n34 st)++[.int .i64 0,.pointer none,.pointer none,.pointer none,.pointer none]):=r3;refine iC (k:= .slice) (i:=17) (x:=po) r2 rfl (iC (k:= .int .i64) (i:=18) (x:=n18) r2 rfl (iC (k:= .int .i64) (i:=19) (x:=n19) r2 rfl ?_));have hpl:=(ak.ext x3).len;refine Yk (RP.agv (ak.ext x3) (by omega) (by omega) U.2.1 (Ih ag.parts) (by omega) (by omega) (by omega)) ?_;rintro _ _ w4 ⟨rfl,f4,p,ps,rfl,hP,nP⟩;have lP:∀b,RP.fp p ps ⟨none,0,0⟩ b->b<w4.heap.size:=λb hb=>hP.lt hb;have r2:=r2.ext f4;refine jc.2 (iK (i:=37) (r3.ext f4) rfl (by simp) λw5 r5 f5' z5=> ?_);have f5:iG w4 w5 (·=x):=f5' _ rfl;have zx:x<w3.heap.size/\a<x:=by have:=f2.size;omega
 have hP:=hP.fr f5 λb hb e=>by have:=nP b hb;omega
 have r2:=r2.fr f5 (by omega);refine iC (k:= .slice) (i:=16) (x:=sw) r2 rfl (iC (k:= .int .i64) (i:=20) (x:=n20) r2 rfl ?_);refine Yl (QN.Zm (sw.len:Int) n20 w5) ?_;rintro q _ w6 ⟨f6,hq⟩;have f6:Ext w5 w6:=f6;rcases hq with ⟨aa,rfl,qb,qs,rfl,nq1,nq2,hQ⟩|⟨ab,_,_⟩;rotate_left
 ·exact absurd ⟨by omega,by omega,by omega,by omega⟩ ab
 have lQ:qb<w6.heap.size/\qs<w6.heap.size:=⟨hQ.hd.lt,hQ.row.lt⟩;have hP:=hP.ext f6;have r2:=r2.ext f6;refine jc.2 (iK (i:=38) (r5.ext f6) rfl (by simp) λw7 r7 f7' z7=> ?_);have f7:iG w6 w7 (·=x):=f7' _ rfl;have s4:=f4.size;have s6:=f6.size;have hP:=hP.fr f7 λb hb e=>by have:=nP b hb;omega
 have hQ:=Qp hQ f7 (by omega) (by omega);have r2:=r2.fr f7 (by omega);refine iC (k:= .int .i64) (i:=21) (x:=n21) r2 rfl ?_;refine Ym (RB.VL n21 w7) ?_;rintro _ _ w8 ⟨f8,⟨ab,_,_⟩|⟨_,_,rfl,B,rfl,nB,lB,hB⟩⟩
 ·exact absurd ⟨by omega,by omega⟩ ab
 have hP:=hP.ext f8;have hQ:=Qp hQ (f8 λ_=>False) (by simp) (by simp);have r2:=r2.ext f8;refine jc.2 (iK (i:=39) (r7.ext f8) rfl (by simp) λw9 r9 f9' z9=> ?_);have f9:iG w8 w9 (·=x):=f9' _ rfl;have s8:=f8.size;have fB:∀b,RB.fpR B ⟨none,0,0⟩ b->b=B:=λb hb=>hb.elim id λ⟨o,ho⟩=>by cases ho
 have fS:∀T b,SN.fpR T ⟨none,0,0⟩ b->b=T:=λT b hb=>hb.elim id λ⟨o,ho⟩=>by cases ho
 have hP:=hP.fr f9 λb hb e=>by have:=nP b hb;omega
 have hQ:=Qp hQ f9 (by omega) (by omega);have hB:=hB.fr f9 λb hb e=>by have:=fB b hb;omega
 have r2:=r2.fr f9 (by omega);refine iC (k:= .int .i64) (i:=22) (x:=n22) r2 rfl ?_;refine Yn (SN.VL n22 w9) ?_;rintro _ _ ar ⟨f10,⟨ab,_,_⟩|⟨_,_,rfl,T,rfl,nT,lT,hT⟩⟩
 ·exact absurd ⟨by omega,by omega⟩ ab
 have hP:=hP.ext f10;have hQ:=Qp hQ (f10 λ_=>False) (by simp) (by simp);have hB:=hB.ext f10;have r2:=r2.ext f10;refine jc.2 (iK (i:=40) (r9.ext f10) rfl (by simp) λac an ao z11=> ?_);have f11:iG ar ac (·=x):=ao _ rfl;have s10:=f10.size;have hP:=hP.fr f11 λb hb e=>by have:=nP b hb;omega
 have hQ:=Qp hQ f11 (by omega) (by omega);have hB:=hB.fr f11 λb hb e=>by have:=fB b hb;omega
 have hT:=hT.fr f11 λb hb e=>by have:=fS T b hb;omega
 have r2:=r2.fr f11 (by omega);have an:Row ac x ((jV p0 p1 p2 p3 p4 p5 p6 p7 p8 p9 u I J N O R sw po n18 n19 n20 n21 n22 n23 n24 n25 n26 n27 n28 n29 n30 n31 n32 n33 n34 st)++[.int .i64 ((0:Nat):Int),.pointer (some ⟨p,0,none⟩),.pointer (some ⟨qb,0,none⟩),.pointer (some ⟨B,0,none⟩),.pointer (some ⟨T,0,none⟩)]):=an;have ay:Ext w ac:=by
  have q5:=(x3.trans f4).new f5 λb hb e=>by have:=x2.size;omega
  have q7:=(q5.trans f6).new f7 λb hb e=>by have:=x2.size;omega
  have q9:=(q7.trans f8).new f9 λb hb e=>by have:=x2.size;omega
  exact(q9.trans f10).new f11 λb hb e=>by have:=x2.size;omega
 have au:=QN.acN aa;rw[toNat_natCast] at au;have hQ':QN.QX ac qb qs (List.replicate sw.len 0) n20:=by simpa using hQ
 have key:∀k b,own ⟨x,p,ps,⟨none,0,0⟩,qb,qs,B,⟨none,0,0⟩,T,⟨none,0,0⟩⟩ k b->(k=0/\b=x)\/(k=1/\w3.heap.size<=b/\b<w4.heap.size)\/(k=2/\w5.heap.size<=b/\b<w6.heap.size)\/(k=3/\w7.heap.size<=b/\b<w8.heap.size)\/(k=4/\w9.heap.size<=b/\b<ar.heap.size):=by
  intro k b ho
  match k,ho with
  |0,ho=>exact .inl ⟨rfl,ho⟩
  |1,ho=>exact .inr (.inl ⟨rfl,nP b ho,lP b ho⟩)
  |2,ho=>
   refine .inr (.inr (.inl ⟨rfl,?_⟩));rcases ho with h|h<;>simp only at h<;>omega
  |3,ho=>exact .inr (.inr (.inr (.inl ⟨rfl,by have:=fB b ho;omega,by have:=fB b ho;omega⟩)))
  |4,ho=>exact .inr (.inr (.inr (.inr ⟨rfl,by have:=fS T b ho;omega,by have:=fS T b ho;omega⟩)))
  |(n+5),ho=>exact ho.elim
 have hE:XE ac ⟨x,p,ps,⟨none,0,0⟩,qb,qs,B,⟨none,0,0⟩,T,⟨none,0,0⟩⟩ ⟨jV p0 p1 p2 p3 p4 p5 p6 p7 p8 p9 u I J N O R sw po n18 n19 n20 n21 n22 n23 n24 n25 n26 n27 n28 n29 n30 n31 n32 n33 n34 st,sw,pl,n18,n19,n20,n21,n22⟩ (List.replicate n21.toNat none) (List.replicate n22.toNat none) 0:=by
  refine⟨[],List.replicate sw.len 0,⟨⟨rfl,rfl,rfl,rfl,rfl,by simp only;omega,by simp only;omega,by simp only;omega,by simp only;omega,Ih ag.parts⟩,an,hP,hQ',?_,?_,?_,?_⟩,⟨λo=> ?_,List.nodup_nil,au,by simp,λi hi=> ?_,by simp⟩⟩
  ·rw[sN];exact hB
  ·rw[Lr];exact hT
  ·intro k k' b h1 h2;have h1:=key k b h1;have h2:=key k' b h2;omega
  ·intro k b h1;have h1:=key k b h1;omega
  ·constructor
   ·intro h;simp at h
   ·rintro⟨j,b,hj,_⟩;rw[List.getElem?_replicate] at hj;split at hj<;>simp at hj
  ·have h1:II (List.replicate n21.toNat none) i=0:=by
    unfold II;rw[sN];rfl
   rw[h1];show (List.replicate sw.len (0:Int)).getD i.toNat 0=((0:Nat):Int);rw[List.getD_eq_getElem?_getD,List.getElem?_replicate];split<;>rfl
 have aa:∀b,Ak ⟨x,p,ps,⟨none,0,0⟩,qb,qs,B,⟨none,0,0⟩,T,⟨none,0,0⟩⟩ b->w.heap.size<=b:=λb ⟨k,h⟩=>by
  have h1:=key k b h;have:=x2.size;omega
 have hlt:=al.len;refine iE (λs W=>∃(j:Nat) (aj:XA) (S:Slots),j<=tl.length/\s.1=(j:Int)/\Ext w W/\Row W a (jV p0 p1 p2 p3 p4 p5 p6 p7 p8 p9 u I J N O R sw po n18 n19 n20 n21 n22 n23 n24 n25 n26 n27 n28 n29 n30 n31 n32 n33 n34 st)/\XE W aj ⟨jV p0 p1 p2 p3 p4 p5 p6 p7 p8 p9 u I J N O R sw po n18 n19 n20 n21 n22 n23 n24 n25 n26 n27 n28 n29 n30 n31 n32 n33 n34 st,sw,pl,n18,n19,n20,n21,n22⟩ S (List.replicate n22.toNat none) 0/\CY ⟨jV p0 p1 p2 p3 p4 p5 p6 p7 p8 p9 u I J N O R sw po n18 n19 n20 n21 n22 n23 n24 n25 n26 n27 n28 n29 n30 n31 n32 n33 n34 st,sw,pl,n18,n19,n20,n21,n22⟩ (List.replicate n21.toNat none) ((tl.take j).map toB) S/\(∀b,Ak aj b->w.heap.size<=b/\b≠a)/\aj.x=x)
  (λs _=>(st.len - s.1).toNat) ⟨0,_,_,by omega,rfl,ay,r2,hE,CY.nil,λb hb=>⟨aa b hb,λe=>by obtain⟨k,hk⟩:=hb;have:=key k b hk;omega⟩,rfl⟩ ?_
 rintro⟨i,⟨⟩⟩ W ⟨j,aj,S,hj,hi,hx,hr,aq,ah,ae,ai⟩ next Y
 simp only at hi;subst hi;refine iC (k:= .slice) (i:=35) (x:=st) hr rfl ?_;by_cases hl:(j:Int)<(st.len:Int)
 ·rw[decide_eq_true hl,cond_true];refine iC (k:= .slice) (i:=35) (x:=st) hr rfl ?_;have hg:=getElem?_eq_getElem (show j<tl.length by omega);generalize tl[j]=y at hg;obtain⟨y0,y1,y2,y3,y4,y5,y6,⟨⟩⟩:=y;refine SlN_ix yO (by omega) (al.ext hx) (by omega) (by rw[toNat_natCast];exact hg) λad hc=> ?_;have c0:=hc 0 _ rfl;have c1:=hc 1 _ rfl;have c2:=hc 2 _ rfl;have c3:=hc 3 _ rfl;have c4:=hc 4 _ rfl;have c5:=hc 5 _ rfl;have c6:=hc 6 _ rfl;simp only[Uc,c0,c1,c2,c3,c4,c5,c6,iy,PD];have av:(tl.take (j+1)).map toB=(tl.take j).map toB++[toB (y0,y1,y2,y3,y4,y5,y6,())]:=by rw[EN.take_succ hg,List.map_append];rfl
  rw[<- ai];refine xC (Zl aq (toB (y0,y1,y2,y3,y4,y5,y6,())) rfl) ?_;rintro r w16 ⟨rfl,⟨az,f16⟩|⟨he,f16,A,i,af,aA,aB,hE'⟩⟩
  ·rw[wrap_i64 (by omega) (by omega)];refine Y _ _ ⟨j+1,aj,S,by omega,by simp,hx.trans f16,hr.ext f16,aq.ext f16,?_,ae,ai⟩ (by simp only;omega);rw[av];exact CY.no ah az
  ·rw[wrap_i64 (by omega) (by omega)];refine Y _ _ ⟨j+1,A,_,by omega,by simp,hx.new f16 λb hb ho=>by have:=ae b ho;omega,hr.fr f16 (λho=>(ae a ho).2 rfl),hE',?_,?_,aA.trans ai⟩ (by simp only;omega)
   ·rw[av];exact CY.yes ah he af
   ·intro b hb;have hrl:=hr.lt;have:=hx.size;rcases aB b hb with h|h
    ·exact ae b h
    ·omega
 ·rw[decide_eq_false hl,cond_false];have:j=tl.length:=by omega
  subst this;rw[List.take_length] at ah;rw[<- ai];exact hK W aj S hx aq ah λb hb=>(ae b hb).1
end Go.Proofs.XN
end
section
namespace Go.Proofs.PM
open Gp Gp.V4 Go.Proofs
open Gp.Bind (In64)
theorem acY (k:Nat) (hk:k<=7) (w:World):yX (k:Int) w λr w'=>r=((256^k:Nat):Int)/\w'=w:=by
 apply Y1;refine iE (λst W=>W=w/\∃i:Nat,i<=k/\st.2.1=i/\st.1=((256^i:Nat):Int)) (λst _=>k - st.2.1.toNat) ⟨rfl,0,by omega,rfl,rfl⟩ ?_;rintro⟨n,j,⟨⟩⟩ W ⟨rfl,i,hi,rfl,rfl⟩ next u
 by_cases hlt:i<k
 ·have h:((i:Int)<(k:Int)):=by omega
  simp only[h,decide_true,cond_true];have hp:(256:Nat)^(i+1)<=256^7:=Nat.pow_le_pow_right (by omega) (by omega);have e:(256:Nat)^7=72057594037927936:=by decide
  have e2:((256^i:Nat):Int) * 256=((256^(i+1):Nat):Int):=by rw[Nat.pow_succ,Int.natCast_mul];rfl
  rw[e2];have I:=u (((256^(i+1):Nat):Int),((i+1:Nat):Int),()) W ⟨rfl,i+1,by omega,rfl,rfl⟩ (by simp only;omega);generalize 256^(i+1)=q at hp I ⊢;rw[wrap_i64 (by omega) (by omega),wrap_i64 (by omega) (by omega)];exact I
 ·have h:¬((i:Int)<(k:Int)):=by omega
  simp only[h,decide_false,cond_false];have:i=k:=by omega
  subst this;exact⟨by trivial,by trivial⟩
theorem CO (n k:Int) (w:World):lD n k w λr w'=>r=decide (fitsP n k)/\w'=w:=by
 apply WU;by_cases h1:k>=1
 ·by_cases h2:k<=4
  ·by_cases h3:n>=0
   ·simp only[h1,h2,h3,decide_true,cond_true];obtain⟨m,rfl⟩:∃m:Nat,k=(m:Int):=⟨k.toNat,by omega⟩;refine Pm (acY m (by omega) w) ?_;rintro r w' ⟨rfl,rfl⟩;have hs:sizeOk (m:Int):=⟨h1,h2⟩;refine⟨?_,by trivial⟩;have h3':0<=n:=h3;simp[fitsP,hs,h3']
   ·have:¬fitsP n k:=λh=>h3 h.2.1;simp[h1,h2,h3,this]
  ·have:¬fitsP n k:=λh=>h2 h.1.2;simp[h1,h2,this]
 ·have:¬fitsP n k:=λh=>h1 h.1.1;simp[h1,this]
theorem ahA {w:World} {s:iq} {l:List UInt8} (h:qy w s l) (hl:l.length<=2^62) (at_ k:Int):BO s at_ k w λn e w'=>w'=w/\Tj l at_ k n e:=by
 apply YZ;unfold Tj;have hlen:=h.1;by_cases h1:k<1
 ·have c:¬sizeOk k\/at_<0:= .inl λx=>by have:=x.1;omega
  simp only[h1,decide_true,cond_true];exact⟨by trivial,by rw[if_pos c];exact⟨by trivial,by trivial⟩⟩
 by_cases h2:k>4
 ·have c:¬sizeOk k\/at_<0:= .inl λx=>by have:=x.2;omega
  simp only[h1,h2,decide_true,decide_false,cond_true,cond_false];exact⟨by trivial,by rw[if_pos c];exact⟨by trivial,by trivial⟩⟩
 by_cases h3:at_<0
 ·have c:¬sizeOk k\/at_<0:= .inr h3;simp only[h1,h2,decide_false,cond_true,cond_false];rw[show decide (at_<0)=true by simp[h3]];simp only[cond_true];exact⟨by trivial,by rw[if_pos c];exact⟨by trivial,by trivial⟩⟩
 have hk:sizeOk k:=⟨by omega,by omega⟩;have c:¬(¬sizeOk k\/at_<0):=by rintro(h|h)<;>contradiction
 simp only[if_neg c];rw[show decide (k<1)=false by simp[h1],show decide (k>4)=false by simp[h2],show decide (at_<0)=false by simp[h3]];simp only[cond_false];rw[wrap_i64 (n:=(s.len:Int) - k) (by omega) (by omega)];by_cases h4:at_>(s.len:Int) - k
 ·rw[show decide (at_>(s.len:Int) - k)=true by simp[h4]];simp only[cond_true];exact⟨by trivial,by rw[if_pos (by omega)];exact⟨by trivial,by trivial⟩⟩
 rw[show decide (at_>(s.len:Int) - k)=false by simp[h4]];simp only[cond_false];obtain⟨m,rfl⟩:∃m:Nat,k=(m:Int):=⟨k.toNat,by omega⟩;obtain⟨o,rfl⟩:∃o:Nat,at_=(o:Int):=⟨at_.toNat,by omega⟩;simp only[toNat_natCast];refine iE (λst W=>W=w/\∃i:Nat,i<=m/\st.2.1=i/\st.1=(vY ((l.drop o).take i):Int)) (λst _=>m - st.2.1.toNat) ⟨rfl,0,by omega,rfl,rfl⟩ ?_;rintro⟨n,j,⟨⟩⟩ W ⟨rfl,i,hi,rfl,rfl⟩ next I
 by_cases hlt:i<m
 ·have u:((i:Int)<(m:Int)):=by omega
  simp only[u,decide_true,cond_true];rw[wrap_i64 (n:=(o:Int)+(i:Int)) (by omega) (by omega)];have J:o+i<l.length:=by omega
  obtain⟨a,ha,hc⟩:=h.at_ (getElem?_eq_getElem J);refine⟨a,ha,by omega,by omega,?_⟩;have eo:((o:Int)+(i:Int)).toNat * 1=o+i:=by omega
  rw[eo];simp only[Uc,iy,iF,hc];have hb:=l[o+i].toNat_lt;have N:i<(l.drop o).length:=by simp;omega
  have hn2:vY ((l.drop o).take i)<2^32:=Oh (by simp;omega);rw[wrap_i64 (n:=(vY ((l.drop o).take i):Int) * 256) (by omega) (by omega),wrap_i64 (n:=((l[o+i].toNat:Nat):Int)) (by omega) (by omega),wrap_i64 (by omega) (by omega),wrap_i64 (by omega) (by omega)];refine I _ _ ⟨rfl,i+1,by omega,by simp,?_⟩ (by simp only;omega);have e:=Va (l.drop o) N;rw[List.getElem_drop] at e;simp only[e];omega
 ·have u:¬((i:Int)<(m:Int)):=by omega
  simp only[u,decide_false,cond_false];have:i=m:=by omega
  subst this;exact⟨by trivial,by rw[if_neg (by omega)];exact⟨by trivial,by trivial⟩⟩
theorem aeN {k n i:Nat} (h:i<k):(beN k n).take (i+1)=(beN k n).take i++[UInt8.ofNat (n / 256^(k - 1 - i))]:=by
 have hl:i<(beN k n).length:=by rw[lZ];exact h
 rw[List.take_succ_eq_append_getElem hl];have:=X6 k n i h;rw[getElem?_eq_getElem hl] at this;simp at this;rw[this]
theorem T_ {w:World} {s:iq} {l:List UInt8} (hs:qy w s l) (hl:l.length+4<=2^46) (n k:Int) (hn:n<2^62):
  tq s n k w λr w'=>Buf w' r (bytesV (wo l n k))/\Ext w w'/\(∀b,iq.at r b->w.heap.size<=b):=by
 apply Y0;refine nC (l:=[]) Buf.nil hs (by simp;omega) λr w1 b1 f1 n1 _=> ?_;have x1:Ext w w1:=f1.new λb _ ⟨o,h⟩=>by cases h
 have y1:∀b,iq.at r b->w.heap.size<=b:=λb hb=>by
  rcases n1 b hb with ⟨o,h⟩|h
  ·cases h
  ·exact h
 rw[nil_append] at b1;refine oZ (CO n k w1) ?_;rintro _ _ ⟨rfl,rfl⟩;by_cases hf:fitsP n k
 ·simp only[hf,decide_true,Bool.not_true,cond_false];obtain⟨hk1,hk2⟩:=hf.1;have hn0:=hf.2.1;obtain⟨m,rfl⟩:∃m:Nat,k=(m:Int):=⟨k.toNat,by omega⟩;obtain⟨z,rfl⟩:∃z:Nat,n=(z:Int):=⟨n.toNat,by omega⟩;refine iE (λst W=>∃i:Nat,i<=m/\st.2.1=(m:Int) - 1 - i/\Buf W st.1 (bytesV (l++(beN m z).take i))/\Ext w W/\(∀b,iq.at st.1 b->w.heap.size<=b)) (λst _=>(st.2.1+1).toNat)
   ⟨0,by omega,by rw[wrap_i64 (by omega) (by omega)];simp,by simpa using b1,x1,y1⟩ ?_
  rintro⟨t,x,⟨⟩⟩ W ⟨i,hi,hx,h1,h2,h3⟩ next u
  simp only at hx h1 h3;by_cases I:i<m
  ·have hx0:x>=0:=by omega
   simp only[hx0,decide_true,cond_true];obtain⟨j,rfl⟩:∃j:Nat,x=(j:Int):=⟨x.toNat,by omega⟩;have hj:j=m - 1 - i:=by omega
   refine Pm (acY j (by omega) W) ?_;rintro _ _ ⟨rfl,rfl⟩;have hp:0<256^j:=Nat.pow_pos (by omega);refine⟨by omega,by omega,iI λc w3 r3 e3 z3 f3=> ?_⟩;have e:IntKind.u8.wrap (Int.tmod (IntKind.i64.wrap (Int.tdiv (z:Int) ((256^j:Nat):Int))) 256)=(((UInt8.ofNat (z / 256^j)).toNat:Nat):Int):=by
    rw[Int.tdiv_eq_ediv_of_nonneg (by omega),<- Int.natCast_ediv];have:z / 256^j<=z:=Nat.div_le_self _ _;generalize z / 256^j=q at this ⊢;rw[wrap_i64 (by omega) (by omega),Int.tmod_eq_emod_of_nonneg (by omega),IntKind.wrap_u8];simp
   rw[e] at r3;have hx3:qy w3 ⟨some ⟨c,0,none⟩,1,1⟩ [UInt8.ofNat (z / 256^j)]:= .zZ (qy.row (l:=[UInt8.ofNat (z / 256^j)]) (by simpa [bytesV] using r3));refine nC (h1.ext f3) hx3 (by simp;omega) λs' w4 b4 f4 p4 _=> ?_;rw[wrap_i64 (by omega) (by omega)];refine u _ _ ⟨i+1,by omega,by simp only;omega,?_,(h2.trans f3).new f4 λb hb h=>by have:=h3 b h;omega,λb hb=> ?_⟩ (by simp only;omega)
   ·rw[aeN I,<- hj,<- append_assoc];exact b4
   ·have:=h2.size;have:=f3.size;rcases p4 b hb with h|h
    ·exact h3 b h
    ·omega
  ·have hx0:¬x>=0:=by omega
   simp only[hx0,decide_false,cond_false];have:i=m:=by omega
   subst this;rw[take_of_length_le (by rw[lZ];omega)] at h1;exact⟨by simpa [wo,hf] using h1,h2,h3⟩
 ·simp only[hf,decide_false,Bool.not_false,cond_true];exact⟨by simpa [wo,hf] using b1,x1,y1⟩
def OT (n k:Nat):Int:=((n / 256^k % 256:Nat):Int)
theorem XC {a:Int} (h0:0<=a) (h1:a<4294967296):bi (mapped a)=[0,0,0,0,0,0,0,0,0,0,255,255,OT a.toNat 3,OT a.toNat 2,OT a.toNat 1,OT a.toNat 0]:=by
 have e:(a % 4294967296).toNat=a.toNat:=by omega
 unfold mapped;rw[e];simp[bi,beN,OT,List.replicate]
theorem VY {w:World} {a:Int} (h0:0<=a) (h1:a<4294967296) {K:Int->Int->Int->Int->Int->Int->Int->Int->Int->Int->Int->Int->Int->Int->Int->Int->b_} (h:∀x0 x1 x2 x3 x4 x5 x6 x7 x8 x9 I J N O R U w',[x0,x1,x2,x3,x4,x5,x6,x7,x8,x9,I,J,N,O,R,U]=bi (mapped a)->Ext w w'->K x0 x1 x2 x3 x4 x5 x6 x7 x8 x9 I J N O R U w'):sF a w K:=by
 apply Iw;refine iI λp w1 r1 e1 z1 f1=> ?_;refine iI λb w2 r2 e2 z2 f2=>⟨by omega,by omega,?_⟩;refine iK (i:=10) r2 rfl (by simp) λw3 r3 f3' z3=>⟨by omega,by omega,?_⟩;refine iK (i:=11) r3 rfl (by simp) λw4 r4 f4' z4=> ?_;have f3:iG w2 w3 (·=b):=f3' _ rfl;have f4:iG w3 w4 (·=b):=f4' _ rfl;simp only[List.set_cons_zero,List.set_cons_succ] at r4;have x4:Ext w1 w4:=f2.new (f3.trans f4 λy _ hy=>hy) λy hy e=>by omega
 obtain⟨n,rfl⟩:∃n:Nat,a=(n:Int):=⟨a.toNat,by omega⟩;have aa:∀i:Nat,i<=7->IntKind.u8.wrap (mW .i64 (n:Int) (IntKind.i64.wrap (8 * (i:Int))))=OT n i:=by
  intro i hi;rw[aiS hi (by omega),toNat_natCast,IntKind.wrap_u8];unfold OT;omega
 refine iE (λst W=>∃k:Nat,k<=4/\st.1=(k:Int)/\Ext w1 W/\Row W b ([.int .u8 0,.int .u8 0,.int .u8 0,.int .u8 0,.int .u8 0,.int .u8 0,.int .u8 0,.int .u8 0,.int .u8 0,.int .u8 0,.int .u8 255,.int .u8 255,.int .u8 (if 4<=k then OT n 3 else 0),.int .u8 (if 3<=k then OT n 2 else 0),.int .u8 (if 2<=k then OT n 1 else 0),.int .u8 (if 1<=k then OT n 0 else 0)]:List Value))
  (λst _=>4 - st.1.toNat) ⟨0,by omega,rfl,x4,r4⟩ ?_
 rintro⟨j,⟨⟩⟩ W ⟨k,hk,hj,hx,hr⟩ next u
 dsimp only at hj;subst hj;by_cases Y:(k:Int)<4
 ·rw[decide_eq_true Y,cond_true,aa k (by omega),wrap_i64 (n:=8 * (k:Int)) (by omega) (by omega),wrap_i64 (n:=15 - (k:Int)) (by omega) (by omega)];refine⟨by omega,by omega,by omega,?_⟩;have ei:((15 - (k:Int)).toNat * 1)=15 - k:=by omega
  rw[ei,kK];refine iK (i:=0+(15 - k)) hr rfl (by simp;omega) λw5 r5 f5' z5=> ?_;have f5:iG W w5 (·=b):=f5' _ rfl;rw[wrap_i64 (by omega) (by omega)];refine u _ _ ⟨k+1,by omega,by simp,hx.new f5 λy hy e=>by omega,?_⟩ (by simp only;omega);have:k=0\/k=1\/k=2\/k=3:=by omega
  rcases this with rfl|rfl|rfl|rfl<;>exact r5
 ·rw[decide_eq_false Y,cond_false];obtain rfl:k=4:=by omega
  simp only[Nat.le_refl,Nat.reduceLeDiff,if_true] at hr;simp only[sx,hr.cell];refine iJ (r1.ext hx) rfl rfl λw7 r7 f7 z7=> ?_;simp only[sx,r7.cell];refine h _ _ _ _ _ _ _ _ _ _ _ _ _ _ _ _ _ ?_ ((f1.trans hx).new (f7 (·=p) rfl) λy hy e=>by omega);rw[XC h0 h1,toNat_natCast]
theorem ai0 {w:World} {s:iq} {l:List UInt8} (hs:qy w s l) (hl:l.length<=2^62) {at_ k:Nat} (hk:1<=k/\k<=4) (h:at_+k<=l.length):vU s (at_:Int) (k:Int) w λr w'=>r=(num l at_ k:Int)/\w'=w:=by
 apply Y7;refine Yj (ahA hs hl _ _) ?_;rintro n e w' ⟨rfl,hg⟩;exact⟨TV hk h hg,rfl⟩
theorem akq (u:UInt8):((0:Int)==(u.toNat:Int))=decide (u=0):=by
 rw[Bool.eq_iff_iff,beq_iff_eq,decide_eq_true_iff,<- UInt8.toNat_inj];show (0:Int)=_↔_=0;omega
theorem akg (u:UInt8):((255:Int)==(u.toNat:Int))=decide (u=255):=by
 rw[Bool.eq_iff_iff,beq_iff_eq,decide_eq_true_iff,<- UInt8.toNat_inj];show (255:Int)=_↔_=255;omega
theorem aen {w:World} {m:List UInt8} {a0 a1 a2 a3 a4 a5 a6 a7 a8 a9 ae af a12 ag ah ai:Int} (hm:m.length=16) (ha:[a0,a1,a2,a3,a4,a5,a6,a7,a8,a9,ae,af,a12,ag,ah,ai]=bi m) {K:Int->Bool->b_}
  (h:∀n w',Ext w w'->(m.take 12=pre->n=(num m 12 4:Int))->K n (decide (m.take 12=pre)) w'):FC a0 a1 a2 a3 a4 a5 a6 a7 a8 a9 ae af a12 ag ah ai w K:=by
 obtain⟨u0,u1,u2,u3,u4,u5,u6,u7,u8,u9,U,Y,I,J,N,O,rfl⟩:∃u0 u1 u2 u3 u4 u5 u6 u7 u8 u9 U Y I J N O:UInt8,m=[u0,u1,u2,u3,u4,u5,u6,u7,u8,u9,U,Y,I,J,N,O]:=by
  match m,hm with
  |[u0,u1,u2,u3,u4,u5,u6,u7,u8,u9,U,Y,I,J,N,O],_=>exact⟨u0,u1,u2,u3,u4,u5,u6,u7,u8,u9,U,Y,I,J,N,O,rfl⟩
 simp only[bi,List.map_cons,List.map_nil,List.cons.injEq,and_true] at ha;obtain⟨rfl,rfl,rfl,rfl,rfl,rfl,rfl,rfl,rfl,rfl,rfl,rfl,rfl,rfl,rfl,rfl⟩:=ha;have bU:∀u:UInt8,u.toNat<256:=λu=>u.toNat_lt;have b12:=bU I;have b13:=bU J;have b14:=bU N;have b15:=bU O;have R:num [u0,u1,u2,u3,u4,u5,u6,u7,u8,u9,U,Y,I,J,N,O] 12 4=((I.toNat * 256+J.toNat) * 256+N.toNat) * 256+O.toNat:=by
  simp[num,vY]
 apply Vx;refine iI λb w1 r1 e1 z1 f1=> ?_;refine⟨by omega,by omega,?_⟩;refine iC (k:= .int .u8) (i:=12) (x:=(I.toNat:Int)) r1 rfl ⟨by omega,by omega,?_⟩;refine iC (k:= .int .u8) (i:=13) (x:=(J.toNat:Int)) r1 rfl ⟨by omega,by omega,?_⟩;refine iC (k:= .int .u8) (i:=14) (x:=(N.toNat:Int)) r1 rfl ⟨by omega,by omega,?_⟩;refine iC (k:= .int .u8) (i:=15) (x:=(O.toNat:Int)) r1 rfl ?_;have hn:IntKind.i64.wrap ((IntKind.i64.wrap ((IntKind.i64.wrap ((IntKind.i64.wrap ((IntKind.i64.wrap (I.toNat:Int)) * 16777216))+(IntKind.i64.wrap ((IntKind.i64.wrap (J.toNat:Int)) * 65536))))+(IntKind.i64.wrap ((IntKind.i64.wrap (N.toNat:Int)) * 256))))+(IntKind.i64.wrap (O.toNat:Int)))=(num [u0,u1,u2,u3,u4,u5,u6,u7,u8,u9,U,Y,I,J,N,O] 12 4:Int):=by
  rw[R];generalize I.toNat=aa at *;generalize J.toNat=ab at *;generalize N.toNat=ac at *;generalize O.toNat=aj at *;rw[wrap_i64 (n:=(aa:Int)) (by omega) (by omega),wrap_i64 (n:=(ab:Int)) (by omega) (by omega),wrap_i64 (n:=(ac:Int)) (by omega) (by omega),wrap_i64 (n:=(aj:Int)) (by omega) (by omega)];rw[wrap_i64 (n:=(aa:Int) * 16777216) (by omega) (by omega),wrap_i64 (n:=(ab:Int) * 65536) (by omega) (by omega),wrap_i64 (n:=(ac:Int) * 256) (by omega) (by omega)];rw[wrap_i64 (n:=(aa:Int) * 16777216+(ab:Int) * 65536) (by omega) (by omega),wrap_i64 (n:=(aa:Int) * 16777216+(ab:Int) * 65536+(ac:Int) * 256) (by omega) (by omega),wrap_i64 (by omega) (by omega)];omega
 rw[hn];have rd:=r1.drew;simp only[sx,rd.cell];refine VY (by omega) (by rw[R];omega) λx0 x1 x2 x3 x4 x5 x6 x7 x8 x9 x10 x11 x12 x13 x14 x15 w2 hx f2=> ?_;rw[XC (by omega) (by rw[R];omega),toNat_natCast] at hx;have e3:OT (num [u0,u1,u2,u3,u4,u5,u6,u7,u8,u9,U,Y,I,J,N,O] 12 4) 3=(I.toNat:Int):=by unfold OT;rw[R];omega
 have e2:OT (num [u0,u1,u2,u3,u4,u5,u6,u7,u8,u9,U,Y,I,J,N,O] 12 4) 2=(J.toNat:Int):=by unfold OT;rw[R];omega
 have e1:OT (num [u0,u1,u2,u3,u4,u5,u6,u7,u8,u9,U,Y,I,J,N,O] 12 4) 1=(N.toNat:Int):=by unfold OT;rw[R];omega
 have e0:OT (num [u0,u1,u2,u3,u4,u5,u6,u7,u8,u9,U,Y,I,J,N,O] 12 4) 0=(O.toNat:Int):=by unfold OT;rw[R];omega
 rw[e3,e2,e1,e0] at hx;simp only[List.cons.injEq,and_true] at hx;obtain⟨rfl,rfl,rfl,rfl,rfl,rfl,rfl,rfl,rfl,rfl,rfl,rfl,rfl,rfl,rfl,rfl⟩:=hx;have r2:=rd.ext f2;simp only[zo,Di,sx,r2.cell,true_and];have x2:=(f1.trans (Ext.drew w1)).trans f2;simp only[akq,akg,beq_self_eq_true,Bool.and_true];have ak:((decide (u0=0) && (decide (u1=0) && (decide (u2=0) && (decide (u3=0) && (decide (u4=0) && (decide (u5=0) && (decide (u6=0) && (decide (u7=0) && (decide (u8=0) && (decide (u9=0) && (decide (U=255) && decide (Y=255)))))))))))))=decide (([u0,u1,u2,u3,u4,u5,u6,u7,u8,u9,U,Y,I,J,N,O]:List UInt8).take 12=pre):=by
  simp only[List.take_succ_cons,List.take_zero,pre,List.cons.injEq,and_true,Bool.decide_and]
 rw[ak];by_cases hp:([u0,u1,u2,u3,u4,u5,u6,u7,u8,u9,U,Y,I,J,N,O]:List UInt8).take 12=pre
 ·have:=h _ w2 x2 λ_=>rfl;rw[decide_eq_true hp] at this;rw[decide_eq_true hp,Bool.not_true,cond_false];exact this
 ·have:=h 0 w2 x2 λhe=>absurd he hp;rw[decide_eq_false hp] at this;rw[decide_eq_false hp,Bool.not_false,cond_true];exact this
theorem VO {A C:List Value} {P:List UInt8} {k o:Nat} (x:UInt8) (ho:o=A.length+P.length):
  (A++(bytesV (P++List.replicate (k+1) 0)++C)).set o (.int .u8 (x.toNat:Int))=A++(bytesV ((P++[x])++List.replicate k 0)++C):=by
 subst ho;rw[List.set_append_right _ _ (by omega),List.append_cancel_left_eq];rw[show A.length+P.length - A.length=P.length by omega,List.set_append_left _ _ (by rw[jg];simp)];rw[List.append_cancel_right_eq,append_assoc,DZ,DZ,List.set_append_right _ _ (by rw[jg];omega),jg,Nat.sub_self];rfl
theorem agw {w:World} {s:iq} {l:List UInt8} {k:Int} (hs:qy w s l) (hl:l.length<=2^40) {K:Int->Int->Int->Int->Int->Int->Int->Int->Int->Int->Int->Int->Int->Int->Int->Int->Int->Int->Int->Int->Int->Int->Int->Int->Int->Int->Int->Int->Int->Int->Int->Int->Int->Int->b_}
  (h:∀d0 d1 d2 d3 d4 d5 d6 d7 d8 d9 d10 d11 d12 d13 d14 d15 d16 d17 d18 d19 d20 d21 d22 d23 d24 d25 d26 d27 d28 d29 d30 d31 d32 w',Ext w w'->(jT l k=0->agI l d0 [d1,d2,d3,d4,d5,d6,d7,d8,d9,d10,d11,d12,d13,d14,d15,d16] [d17,d18,d19,d20,d21,d22,d23,d24,d25,d26,d27,d28] d29 d30 d31 d32)->K d0 d1 d2 d3 d4 d5 d6 d7 d8 d9 d10 d11 d12 d13 d14 d15 d16 d17 d18 d19 d20 d21 d22 d23 d24 d25 d26 d27 d28 d29 d30 d31 d32 (jT l k) w'):Hu s k w K:=by
 apply W_;have hlen:=hs.1;refine iI λb w2 r2 e2 z2 x2=> ?_;have fail:∀W,Ext w2 W->∀(e:Int),e=jT l k->e≠0->lM (iU 0 0 0 0 0 0 0 0 0 0 0 0 0 0 0 0 0 0 0 0 0 0 0 0 0 0 0 0 0 0 0 0 0) W ⟨b,0,none⟩ 0 λw8=>jD w8 ⟨b,0,none⟩ λy0 y1 y2 y3 y4 y5 y6 y7 y8 y9 ao aq ar au av aw ax ay az aA aB aC aD aE aF aG aH aI aJ aK aL aM aN=>K y0 y1 y2 y3 y4 y5 y6 y7 y8 y9 ao aq ar au av aw ax ay az aA aB aC aD aE aF aG aH aI aJ aK aL aM aN e w8:=by
  intro W hx e he aO;refine iJ (r2.ext hx) rfl rfl λw3 r3 f3 z3=> ?_;simp only[sx,r3.cell];subst he;exact h 0 0 0 0 0 0 0 0 0 0 0 0 0 0 0 0 0 0 0 0 0 0 0 0 0 0 0 0 0 0 0 0 0 w3 ((x2.trans hx).new (f3 (·=b) rfl) λy hy e=>by omega) λh0=>absurd h0 aO
 by_cases O:l.length<60
 ·have e:jT l k=3:=by unfold jT;rw[if_pos O]
  have:((s.len:Int)<60):=by omega
  rw[decide_eq_true this,cond_true];exact fail w2 (Ext.refl _) 3 e.symm (by decide)
 have:¬((s.len:Int)<60):=by omega
 rw[decide_eq_false this,cond_false];by_cases ab:60<l.length
 ·have e:jT l k=6:=by unfold jT;rw[if_neg O,if_pos ab]
  have:((s.len:Int)>60):=by omega
  rw[decide_eq_true this,cond_true];exact fail w2 (Ext.refl _) 6 e.symm (by decide)
 have:¬((s.len:Int)>60):=by omega
 rw[decide_eq_false this,cond_false];have hl60:l.length=60:=by omega
 refine iI λc w3 r3 e3 z3 f3=> ?_;refine iI λd w4 r4 e4 z4 f4=> ?_;have x4:=f3.trans f4;have r3:=r3.ext f4;have aP:((l.drop 8).take 16).length=16:=by rw[length_take,length_drop];omega
 have am:((l.drop 44).take 16).length=16:=by rw[length_take,length_drop];omega
 have n12:((l.drop 24).take 12).length=12:=by rw[length_take,length_drop];omega
 have snoc:∀(o n i:Nat),(hi:i<n)->(ho:o+i<l.length)->((l.drop o).take n).take (i+1)=((l.drop o).take n).take i++[l[o+i]]:=by
  intro o n i hi ho;rw[EN.take_succ];rw[List.getElem?_take,if_pos hi,List.getElem?_drop,getElem?_eq_getElem ho]
 refine iE (λst W=>∃i:Nat,i<=16/\st.1=(i:Int)/\Ext w2 W/\Row W c ([.int .i64 0]++(bytesV (((l.drop 8).take 16).take i++List.replicate (16 - i) 0)++(bytesV (List.replicate 12 0)++[.int .i64 0,.int .i64 0,.int .i64 0,.int .i64 0])))/\
   Row W d ([]++(bytesV (((l.drop 44).take 16).take i++List.replicate (16 - i) 0)++[]))) (λst _=>16 - st.1.toNat) ⟨0,by omega,rfl,x4,r3,r4⟩ ?_
 rintro⟨j,⟨⟩⟩ W ⟨i,hi,hj,hx,hc,hd⟩ next I
 dsimp only at hj;subst hj;by_cases N:(i:Int)<16
 ·rw[decide_eq_true N,cond_true,wrap_i64 (n:=8+(i:Int)) (by omega) (by omega),wrap_i64 (n:=44+(i:Int)) (by omega) (by omega)];have xd:=(x2.trans hx).trans (Ext.drew W);have e1:(8+(i:Int))=((8+i:Nat):Int):=by push_cast;rfl
  have e2:(44+(i:Int))=((44+i:Nat):Int):=by push_cast;rfl
  rw[e1,e2];refine byte_at hs (i:=8+i) (by omega) λp1 c1 l1=> ?_;have c1:=zJ c1 xd;simp only[sx,c1];refine byte_at hs (i:=44+i) (by omega) λp2 c2 l2=> ?_;have c2:=zJ c2 xd;simp only[sx,c2];refine⟨by omega,by omega,?_⟩;have hA:(l.drop 8).take 16=(l.drop 8).take 16:=rfl;obtain⟨q,hq⟩:∃q,16 - i=q+1:=⟨15 - i,by omega⟩;rw[hq] at hc hd;have hc':=hc.drew;have hd':=hd.drew;rw[toNat_natCast,Nat.mul_one];refine iK (i:=1+i) hc' rfl (by simp only[length_append,jg,length_take,length_drop,length_replicate,length_cons,length_nil];omega) λw5 r5 f5' z5=> ?_;have f5:iG W.drew w5 (·=c):=f5' _ rfl;refine⟨zK c2 f5 (λe=>by omega),by omega,by omega,?_⟩;have hcl:=hc'.lt;have hdl:=hd'.lt;refine iK (i:=i) (hd'.fr f5 (by omega)) rfl (by simp only[length_append,jg,length_take,length_drop,length_replicate,length_cons,length_nil];omega) λw6 r6 f6' z6=> ?_;have f6:iG w5 w6 (·=d):=f6' _ rfl;have r5:=r5.fr f6 (by omega);rw[VO l[8+i] (by simp only[length_take,length_drop,length_cons,length_nil];omega),<- snoc 8 16 i (by omega) (by omega)] at r5;rw[VO l[44+i] (by simp only[length_take,length_drop,length_nil];omega),<- snoc 44 16 i (by omega) (by omega)] at r6;rw[wrap_i64 (by omega) (by omega)];have Yw:16 - (i+1)=q:=by omega
  have x6:Ext w2 w6:=((hx.trans (Ext.drew W)).new f5 λy hy e=>by omega).new f6 λy hy e=>by omega
  refine I _ _ ⟨i+1,by omega,by simp,x6,?_,?_⟩ (by simp only;omega)
  ·rw[Yw];exact r5
  ·rw[Yw];exact r6
 rw[decide_eq_false N,cond_false];obtain rfl:i=16:=by omega
 rw[Nat.sub_self,List.replicate_zero,append_nil,take_of_length_le (by omega)] at hc;rw[Nat.sub_self,List.replicate_zero,append_nil,append_nil,nil_append,take_of_length_le (by omega)] at hd;refine iE (λst W=>∃i:Nat,i<=12/\st.1=(i:Int)/\Ext w2 W/\Row W c (([.int .i64 0]++bytesV ((l.drop 8).take 16))++(bytesV (((l.drop 24).take 12).take i++List.replicate (12 - i) 0)++[.int .i64 0,.int .i64 0,.int .i64 0,.int .i64 0]))/\
   Row W d (bytesV ((l.drop 44).take 16))) (λst _=>12 - st.1.toNat) ⟨0,by omega,rfl,hx,by rw[append_assoc];exact hc,hd⟩ ?_
 rintro⟨j,⟨⟩⟩ W ⟨i,hi,hj,hx,hc,hd⟩ next I
 dsimp only at hj;subst hj;by_cases N:(i:Int)<12
 ·rw[decide_eq_true N,cond_true,wrap_i64 (n:=24+(i:Int)) (by omega) (by omega)];have e1:(24+(i:Int))=((24+i:Nat):Int):=by push_cast;rfl
  rw[e1];refine byte_at (hs.ext (x2.trans hx)) (i:=24+i) (by omega) λp1 c1 l1=> ?_;simp only[sx,c1];refine⟨by omega,by omega,?_⟩;obtain⟨q,hq⟩:∃q,12 - i=q+1:=⟨11 - i,by omega⟩;rw[hq] at hc;rw[toNat_natCast,Nat.mul_one];refine iK (i:=17+i) hc rfl (by simp only[length_append,jg,length_take,length_drop,length_replicate,length_cons,length_nil];omega) λw5 r5 f5' z5=> ?_;have f5:iG W w5 (·=c):=f5' _ rfl;rw[VO l[24+i] (by simp only[length_take,length_drop,length_append,jg,length_cons,length_nil];omega),<- snoc 24 12 i (by omega) (by omega)] at r5;rw[wrap_i64 (by omega) (by omega)];have eq12:12 - (i+1)=q:=by omega
  refine I _ _ ⟨i+1,by omega,by simp,hx.new f5 λy hy e=>by omega,?_,hd.fr f5 (by omega)⟩ (by simp only;omega);rw[eq12];exact r5
 rw[decide_eq_false N,cond_false];obtain rfl:i=12:=by omega
 rw[Nat.sub_self,List.replicate_zero,append_nil,take_of_length_le (l:=(l.drop 24).take 12) (by omega)] at hc;refine BD (A:=[]) (C:=[]) (m:=(l.drop 44).take 16) hd (by rw[nil_append,append_nil]) rfl am λp0 p1 p2 p3 p4 p5 p6 p7 p8 p9 p10 p11 p12 p13 p14 p15 hp=> ?_;refine aen am hp λn w5 f5 hn=> ?_;have x5:=hx.trans f5;have ht:((l.drop 44).take 16).take 12=(l.drop 44).take 12:=by rw[List.take_take];rfl
 have ac:num ((l.drop 44).take 16) 12 4=num l 56 4:=by
  unfold num;rw[List.drop_take,List.drop_drop,List.take_take];rfl
 rw[ht,ac] at hn;rw[ht];intro J;have ae:¬((num l 0 1:Int)=2/\(num l 1 1:Int)=k/\(l.drop 44).take 12=pre)->J true:=by
  intro hc;simp only[J,cond_true];exact fail w5 x5 4 (by unfold jT;rw[if_neg O,if_neg ab,if_pos hc]) (by decide)
 have aQ:(num l 0 1:Int)=2->(num l 1 1:Int)=k->(l.drop 44).take 12=pre->J false:=by
  intro hv hk u;simp only[J,cond_false];obtain rfl:=hn u;have r5:=hc.ext f5;have hs5:=(hs.ext x2).ext x5;have hs6:=hs5.ext (Ext.drew w5);refine byte_at hs (i:=36) (by omega) λa6 c6 l6=> ?_;have c6:=zJ c6 ((x2.trans x5).trans (Ext.drew w5));have n36:=Lp (l:=l) (i:=36) (by omega);simp only[sx,c6];refine H6 (ai0 (at_:=4) (k:=4) hs6 (by omega) (by omega) (by omega)) ?_;rintro _ w6 ⟨rfl,hw⟩;subst hw;refine⟨c6,?_⟩;refine H6 (ai0 (at_:=40) (k:=2) hs6 (by omega) (by omega) (by omega)) ?_;rintro _ w6 ⟨rfl,hw⟩;subst hw;refine⟨c6,?_⟩;refine H6 (ai0 (at_:=42) (k:=2) hs6 (by omega) (by omega) (by omega)) ?_;rintro _ w6 ⟨rfl,hw⟩;subst hw;refine⟨c6,?_⟩;obtain⟨u0,u1,u2,u3,u4,u5,u6,u7,u8,u9,af,ag,ah,ai,aj,ak,hu,aR⟩:=ag1 aP;obtain⟨q0,q1,q2,q3,q4,q5,q6,q7,q8,q9,R,U,hq⟩:=aju n12;have aS:bytesV ((l.drop 24).take 12)=(([q0,q1,q2,q3,q4,q5,q6,q7,q8,q9,R,U]:List Int).map λn=>Value.int .u8 n):=by rw[uH,hq]
  rw[aR,aS] at r5;have r5:Row w5 c (iU 0 u0 u1 u2 u3 u4 u5 u6 u7 u8 u9 af ag ah ai aj ak q0 q1 q2 q3 q4 q5 q6 q7 q8 q9 R U 0 0 0 0):=r5;have aT:l[36].toNat<256:=l[36].toNat_lt;rw[<- n36] at aT;refine iK (i:=0) r5.drew rfl (by simp) λw6 r6 f6' z6=> ?_;have f6:iG w5.drew w6 (·=c):=f6' _ rfl;refine⟨zK c6 f6 (by omega),?_⟩;refine iK (i:=29) r6 rfl (by simp) λw7 r7 f7' z7=> ?_;have f7:iG w6 w7 (·=c):=f7' _ rfl;refine iK (i:=30) r7 rfl (by simp) λw8 r8 f8' z8=> ?_;have f8:iG w7 w8 (·=c):=f8' _ rfl;refine iK (i:=31) r8 rfl (by simp) λw9 r9 f9' z9=> ?_;have f9:iG w8 w9 (·=c):=f9' _ rfl;refine iK (i:=32) r9 rfl (by simp) λY aa al z10=> ?_;have f10:iG w9 Y (·=c):=al _ rfl;rw[<- n36,wrap_i64 (by omega) (by omega)] at aa;have aa:Row Y c (iU (num l 4 4:Int) u0 u1 u2 u3 u4 u5 u6 u7 u8 u9 af ag ah ai aj ak q0 q1 q2 q3 q4 q5 q6 q7 q8 q9 R U (num l 36 1:Int) (num l 40 2:Int) (num l 42 2:Int) (num l 56 4:Int)):=aa;have fa:iG w5.drew Y (·=c):=(((f6.trans f7 λy _ hy=>hy).trans f8 λy _ hy=>hy).trans f9 λy _ hy=>hy).trans f10 λy _ hy=>hy;have an:Ext w2 Y:=(x5.trans (Ext.drew w5)).new fa λy hy e=>by omega
  simp only[sx,aa.cell];refine iJ (r2.ext an) rfl rfl λaU aV f11 z11=> ?_;simp only[sx,aV.cell];have e:jT l k=0:=by unfold jT;rw[if_neg O,if_neg ab,if_neg λhn=>hn ⟨hv,hk,u⟩]
  rw[<- e];exact h _ u0 u1 u2 u3 u4 u5 u6 u7 u8 u9 af ag ah ai aj ak q0 q1 q2 q3 q4 q5 q6 q7 q8 q9 R U _ _ _ _ aU ((x2.trans an).new (f11 (·=b) rfl) λy hy e=>by omega) λ_=>⟨rfl,hu.symm,hq.symm,rfl,rfl,rfl,rfl⟩
 clear_value J;refine byte_at ((hs.ext x2).ext x5) (i:=0) (by omega) λa0 c0 _=> ?_;simp only[sx,c0];have n0:=Lp (l:=l) (i:=0) (by omega);have n1:=Lp (l:=l) (i:=1) (by omega);rw[<- n0];by_cases h2:(num l 0 1:Int)=2;rotate_left
 ·have:((num l 0 1:Int) !=2)=true:=by rw[bne_iff_ne];exact h2
  rw[this,cond_true];exact ae λhc=>h2 hc.1
 have:((num l 0 1:Int) !=2)=false:=by rw[bne_eq_false_iff_eq];exact h2
 rw[this,cond_false];refine byte_at ((hs.ext x2).ext x5) (i:=1) (by omega) λa1 c1 _=> ?_;simp only[sx,c1];rw[<- n1];by_cases hk:(num l 1 1:Int)=k;rotate_left
 ·have:((num l 1 1:Int) !=k)=true:=by rw[bne_iff_ne];exact hk
  rw[this,cond_true];exact ae λhc=>hk hc.2.1
 have:((num l 1 1:Int) !=k)=false:=by rw[bne_eq_false_iff_eq];exact hk
 rw[this,cond_false];by_cases u:(l.drop 44).take 12=pre
 ·rw[decide_eq_true u];exact aQ h2 hk u
 ·rw[decide_eq_false u];exact ae λhc=>u hc.2.2
theorem aem {w:World} {s:iq} {l:List UInt8} (hs:qy w s l) (hl:l.length<=2^40) {K:Int->Int->Int->Int->Int->Int->Int->Int->Int->Int->Int->Int->Int->Int->Int->Int->Int->Int->Int->Int->Int->Int->Int->Int->Int->Int->Int->Int->Int->Int->Int->Int->Int->Int->b_}
  (h:∀d0 d1 d2 d3 d4 d5 d6 d7 d8 d9 d10 d11 d12 d13 d14 d15 d16 d17 d18 d19 d20 d21 d22 d23 d24 d25 d26 d27 d28 d29 d30 d31 d32 w',Ext w w'->(jT l 1=0->agI l d0 [d1,d2,d3,d4,d5,d6,d7,d8,d9,d10,d11,d12,d13,d14,d15,d16] [d17,d18,d19,d20,d21,d22,d23,d24,d25,d26,d27,d28] d29 d30 d31 d32)->K d0 d1 d2 d3 d4 d5 d6 d7 d8 d9 d10 d11 d12 d13 d14 d15 d16 d17 d18 d19 d20 d21 d22 d23 d24 d25 d26 d27 d28 d29 d30 d31 d32 (jT l 1) w'):FB s w K:=by
 apply Vw;refine iI λa w1 r1 e1 z1 f1=> ?_;refine agw (hs.ext f1) hl λd0 d1 d2 d3 d4 d5 d6 d7 d8 d9 d10 d11 d12 d13 d14 d15 d16 d17 d18 d19 d20 d21 d22 d23 d24 d25 d26 d27 d28 d29 d30 d31 d32 w2 f2 hp=> ?_;refine iJ (r1.ext f2) rfl rfl λw3 r3 f3 z3=> ?_;simp only[sx,r3.cell];exact h d0 d1 d2 d3 d4 d5 d6 d7 d8 d9 d10 d11 d12 d13 d14 d15 d16 d17 d18 d19 d20 d21 d22 d23 d24 d25 d26 d27 d28 d29 d30 d31 d32 w3 ((f1.trans f2).new (f3 (·=a) rfl) λy hy e=>by omega) hp
theorem aeh {w:World} {d0 d1 d2 d3 d4 d5 d6 d7 d8 d9 d10 d11 d12 d13 d14 d15 d16 d17 d18 d19 d20 d21 d22 d23 d24 d25 d26 d27 d28 d29 d30 d31 d32:Int}:xZ d0 d1 d2 d3 d4 d5 d6 d7 d8 d9 d10 d11 d12 d13 d14 d15 d16 d17 d18 d19 d20 d21 d22 d23 d24 d25 d26 d27 d28 d29 d30 d31 d32 w λr w'=>r=(if PA.may ⟨d0,d29,d30,d31,d32⟩ then 0 else 1)/\Ext w w':=by
 apply Vy;refine iI λa w1 r1 e1 z1 f1=> ?_;intro J;have h:¬PA.may ⟨d0,d29,d30,d31,d32⟩->J true w1:=by
  intro hn;simp only[J,cond_true];exact⟨(if_neg hn).symm,f1⟩
 have u:PA.may ⟨d0,d29,d30,d31,d32⟩->J false w1:=by
  intro hn;simp only[J,cond_false];exact⟨(if_pos hn).symm,f1⟩
 clear_value J;have st:∀(i:Nat) (n k:Int) (R:Int->b_),True:=λ_ _ _ _=>trivial;refine iC (k:= .int .i64) (i:=0) (x:=d0) r1 rfl ?_;refine oZ (CO _ _ _) ?_;rintro _ w2 ⟨rfl,hw⟩;subst hw;by_cases h1:fitsP d0 4;rotate_left
 ·rw[decide_eq_false h1];exact h λhp=>h1 hp.1
 rw[decide_eq_true h1,Bool.not_true,cond_false];refine iC (k:= .int .i64) (i:=29) (x:=d29) r1 rfl ?_;refine oZ (CO _ _ _) ?_;rintro _ w2 ⟨rfl,hw⟩;subst hw;by_cases h2:fitsP d29 1;rotate_left
 ·rw[decide_eq_false h2];exact h λhp=>h2 hp.2.1
 rw[decide_eq_true h2,Bool.not_true,cond_false];refine iC (k:= .int .i64) (i:=30) (x:=d30) r1 rfl ?_;refine oZ (CO _ _ _) ?_;rintro _ w2 ⟨rfl,hw⟩;subst hw;by_cases h3:fitsP d30 2;rotate_left
 ·rw[decide_eq_false h3];exact h λhp=>h3 hp.2.2.1
 rw[decide_eq_true h3,Bool.not_true,cond_false];refine iC (k:= .int .i64) (i:=31) (x:=d31) r1 rfl ?_;refine oZ (CO _ _ _) ?_;rintro _ w2 ⟨rfl,hw⟩;subst hw;by_cases h4:fitsP d31 2;rotate_left
 ·rw[decide_eq_false h4];exact h λhp=>h4 hp.2.2.2.1
 rw[decide_eq_true h4,Bool.not_true,cond_false];refine iC (k:= .int .i64) (i:=32) (x:=d32) r1 rfl ?_;refine oZ (CO _ _ _) ?_;rintro _ w2 ⟨rfl,hw⟩;subst hw;by_cases h5:fitsP d32 4
 ·rw[decide_eq_true h5];exact u ⟨h1,h2,h3,h4,h5⟩
 ·rw[decide_eq_false h5];exact h λhp=>h5 hp.2.2.2.2
theorem b1 {n:Int} (h:fitsP n 1):(UInt8.ofNat n.toNat).toNat=n.toNat/\wo [] n 1=[UInt8.ofNat n.toNat]/\IntKind.u8.wrap n=((UInt8.ofNat n.toNat).toNat:Int):=by
 obtain⟨_,h1,h2⟩:=id h;have h2:n<256:=h2;have e:(UInt8.ofNat n.toNat).toNat=n.toNat:=by rw[UInt8.toNat_ofNat'];omega
 refine⟨e,?_,?_⟩
 ·unfold wo;rw[if_pos h,nil_append];simp[beN]
 ·rw[e,IntKind.wrap_u8];omega
theorem GV (l:List UInt8) (n k:Int):wo l n k=l++wo [] n k:=by
 unfold wo;split<;>simp
theorem ajc {w:World} {b:Nat} {l:List UInt8} {V:List Value} (hr:Row w b V) (hV:V=bytesV l):qy w ⟨some ⟨b,0,none⟩,l.length,l.length⟩ l:=EP (o:=0) hr (A:=[]) (C:=[]) (by rw[hV];simp) rfl rfl
theorem agz {w w0:World} {s:iq} {l no:List UInt8} {d0 d1 d2 d3 d4 d5 d6 d7 d8 d9 d10 d11 d12 d13 d14 d15 d16 d17 d18 d19 d20 d21 d22 d23 d24 d25 d26 d27 d28 d29 d30 d31 d32:Int} (hs:Buf w s (bytesV l)) (hw:Ext w0 w) (hl:l.length<=1000) (J:no.length=12) (hd:[d17,d18,d19,d20,d21,d22,d23,d24,d25,d26,d27,d28]=bi no) (hp:PA.may ⟨d0,d29,d30,d31,d32⟩):
  zG s d0 d1 d2 d3 d4 d5 d6 d7 d8 d9 d10 d11 d12 d13 d14 d15 d16 d17 d18 d19 d20 d21 d22 d23 d24 d25 d26 d27 d28 d29 d30 d31 d32 w λr w'=>Buf w' r (bytesV (Fj l no ⟨d0,d29,d30,d31,d32⟩))/\Ext w0 w'/\∀b,iq.at r b->w0.heap.size<=b:=by
 obtain⟨_,p1,p2,p3,p4⟩:=hp;simp only at p1 p2 p3 p4;have q4:0<=d32/\d32<4294967296:=p4.2;have q2:0<=d30/\d30<65536:=p2.2;have q3:0<=d31/\d31<65536:=p3.2;apply Xa;refine iI λa w1 r1 e1 z1 f1=> ?_;refine Nw (n:=12) (by decide) ?_;have hL:bytesV no=[.int .u8 d17,.int .u8 d18,.int .u8 d19,.int .u8 d20,.int .u8 d21,.int .u8 d22,.int .u8 d23,.int .u8 d24,.int .u8 d25,.int .u8 d26,.int .u8 d27,.int .u8 d28]:=by
  rw[uH,<- hd];rfl
 have r1d:=r1.drew;have x1:Ext w w1.drew:=f1.trans (Ext.drew w1);have u:qy w1.drew ⟨some ⟨a,17,none⟩,12,12⟩ no:=EP (o:=17) r1d (A:= .int .i64 d0::[.int .u8 d1,.int .u8 d2,.int .u8 d3,.int .u8 d4,.int .u8 d5,.int .u8 d6,.int .u8 d7,.int .u8 d8,.int .u8 d9,.int .u8 d10,.int .u8 d11,.int .u8 d12,.int .u8 d13,.int .u8 d14,.int .u8 d15,.int .u8 d16]) (C:=[.int .i64 d29,.int .i64 d30,.int .i64 d31,.int .i64 d32]) (by rw[hL];rfl) rfl J.symm;refine nC (l:=[]) Buf.nil ((qy.zZ hs).ext x1) (by simp;omega) λs2 w2 b2 f2 n2 _=> ?_;have x2:Ext w1.drew w2:=(Ext.refl _).new f2 λy _ ⟨o,hy⟩=>by cases hy
 have n2:∀b,iq.at s2 b->w1.heap.size<=b:=λb hb=>by
  rcases n2 b hb with ⟨o,hy⟩|hy
  ·cases hy
  ·exact hy
 rw[nil_append] at b2;refine nC b2 (u.ext x2) (by omega) λs3 w3 b3 f3 n3 _=> ?_;have x3:Ext w1.drew w3:=x2.new f3 λy hy hh=>by have:=n2 y hh;exact absurd hy (by simp only[World.drew];omega)
 have n3:∀b,iq.at s3 b->w1.heap.size<=b:=λb hb=>by
  rcases n3 b hb with hy|hy
  ·exact n2 b hy
  ·have:=x2.size;simp only[World.drew] at this;omega
 have r3:=r1d.ext x3;refine iC (k:= .int .i64) (i:=29) (x:=d29) r3 rfl ?_;refine iI λt w4 r4 e4 z4 f4=> ?_;obtain⟨_,pb1,wb1⟩:=b1 p1;rw[wb1] at r4;have s4:qy w4 ⟨some ⟨t,0,none⟩,4,4⟩ [UInt8.ofNat d29.toNat,0,0,0]:=ajc (l:=[UInt8.ofNat d29.toNat,0,0,0]) r4 rfl;refine nC (b3.ext f4) s4 (by simp;omega) λs5 w5 b5 f5 n5 _=> ?_;have x5:Ext w1.drew w5:=(x3.trans f4).new f5 λy hy hh=>by have:=n3 y hh;exact absurd hy (by simp only[World.drew];omega)
 have r5:=(r1d.ext x5).drew;simp only[sx,r5.cell];have m5:(l++no++[UInt8.ofNat d29.toNat,0,0,0]).length=l.length+16:=by simp[J]
 refine Dn (T_ ((qy.zZ b5).ext (Ext.drew w5)) (by omega) _ _ (by omega)) ?_;rintro s6 w6 ⟨b6,f6,n6⟩;have r6:=r5.ext f6;refine⟨by rw[r6.cell];rfl,?_⟩;have m6:=KH (l++no++[UInt8.ofNat d29.toNat,0,0,0]) d30 2;refine Dn (T_ (qy.zZ b6) (by omega) _ _ (by omega)) ?_;rintro s7 w7 ⟨b7,f7,n7⟩;have m7:=KH (wo (l++no++[UInt8.ofNat d29.toNat,0,0,0]) d30 2) d31 2;have r7:=r6.ext f7;have x7:Ext w w7:=((x1.trans x5).trans (Ext.drew w5)).trans (f6.trans f7);simp only[r7.cell,d_,iy,iF];refine VY q4.1 q4.2 λu0 u1 u2 u3 u4 u5 u6 u7 u8 u9 u10 u11 u12 u13 u14 u15 w8 hx f8=> ?_;refine iI λb w9 r9 e9 z9 f9=> ?_;refine iJ r9 rfl rfl λN O f10 z10=> ?_;have f10:=f10 (·=b) rfl;have I:Ext w7 N:=(f8.trans f9).new f10 λy hy e=>by have:=f8.size;omega
 refine F9 ?_;have hm:qy N ⟨some ⟨b,0,none⟩,16,16⟩ (mapped d32):=EP (o:=0) O (A:=[]) (C:=[]) (by rw[uH,<- hx];rfl) rfl (yR _).symm;refine nC (b7.ext I) hm (by have:=yR d32;omega) λs11 R U f11 n11 _=> ?_;have s6':w0.heap.size<=w6.heap.size:=by
  have h1:=hw.size;have h2:=((x1.trans x5).trans ((Ext.drew w5).trans f6)).size;omega
 have Y:Ext w R:=by
  have h2:=((x1.trans x5).trans ((Ext.drew w5).trans f6)).size;exact(x7.trans I).new f11 λy hy hh=>by have:=n7 y hh;omega
 refine⟨?_,hw.trans Y,λc hc=> ?_⟩
 ·have:Fj l no ⟨d0,d29,d30,d31,d32⟩=wo (wo (l++no++[UInt8.ofNat d29.toNat,0,0,0]) d30 2) d31 2++mapped d32:=by
   unfold Fj sU;simp only[List.foldl_cons,List.foldl_nil];have e3:wo [] 0 3=[0,0,0]:=rfl;rw[GV (l++no) d29 1,pb1,GV _ 0 3,e3,append_assoc (l++no)];rfl
  rw[this];exact U
 ·rcases n11 c hc with h|h
  ·have:=n7 c h;omega
  ·have:=(hw.trans (x7.trans I)).size;omega
theorem acf {w:World} {no:List UInt8} {r ep d0 d1 d2 d3 d4 d5 d6 d7 d8 d9 d10 d11 d12 d13 d14 d15 d16 d17 d18 d19 d20 d21 d22 d23 d24 d25 d26 d27 d28 d29 d30 d31 d32:Int} (u:no.length=12) (hd:[d17,d18,d19,d20,d21,d22,d23,d24,d25,d26,d27,d28]=bi no):
  sD r ep d0 d1 d2 d3 d4 d5 d6 d7 d8 d9 d10 d11 d12 d13 d14 d15 d16 d17 d18 d19 d20 d21 d22 d23 d24 d25 d26 d27 d28 d29 d30 d31 d32 w λs e w'=>Ext w w'/\e=(if Dj r ep ⟨d0,d29,d30,d31,d32⟩ then 0 else 1)/\Buf w' s (bytesV (if Dj r ep ⟨d0,d29,d30,d31,d32⟩ then Hg r ep no ⟨d0,d29,d30,d31,d32⟩ else []))/\∀b,iq.at s b->w.heap.size<=b:=by
 apply TM;refine iI λa w1 r1 e1 z1 f1=> ?_;intro J;have h:∀W,Ext w1 W->¬Dj r ep ⟨d0,d29,d30,d31,d32⟩->J true W:=by
  intro W hx hn;simp only[J,cond_true];rw[if_neg hn,if_neg hn];exact⟨f1.trans hx,rfl,Buf.nil,λb ⟨o,hb⟩=>by cases hb⟩
 have I:∀W,Ext w1 W->Dj r ep ⟨d0,d29,d30,d31,d32⟩->J false W:=by
  intro W hx hp;simp only[J,cond_false];rw[if_pos hp,if_pos hp];obtain⟨hm,hr1,he4⟩:=id hp;obtain⟨q0,_⟩:=id hm;simp only at q0;have q0':0<=d0/\d0<4294967296:=q0.2;have he4':0<=ep/\ep<4294967296:=he4.2;have rW:=r1.ext hx;refine iC (k:= .int .i64) (i:=0) (x:=r) rW rfl ?_;refine iI λb w2 r2 e2 z2 f2=> ?_;obtain⟨_,pb1,wb1⟩:=b1 hr1;rw[wb1] at r2;have s2:qy w2 ⟨some ⟨b,0,none⟩,4,4⟩ [2,129,0,UInt8.ofNat r.toNat]:=ajc (l:=[2,129,0,UInt8.ofNat r.toNat]) r2 rfl;refine iC (k:= .int .i64) (i:=2) (x:=d0) (rW.ext f2) rfl ?_;refine Dn (T_ s2 (by simp) _ _ (by omega)) ?_;rintro s3 w3 ⟨b3,f3,n3⟩;have m3:=KH [2,129,0,UInt8.ofNat r.toNat] d0 4;simp only[length_cons,length_nil] at m3;refine iC (k:= .int .i64) (i:=1) (x:=ep) ((rW.ext f2).ext f3) rfl ?_;refine Dn (T_ (qy.zZ b3) (by omega) _ _ (by omega)) ?_;rintro s4 w4 ⟨b4,f4,n4⟩;have m4:=KH (wo [2,129,0,UInt8.ofNat r.toNat] d0 4) ep 4;have x2:=((hx.trans f2).trans f3).trans f4;have r4:=(r1.ext x2).drew;have x4:=x2.trans (Ext.drew w4);simp only[sx,r4.cell];refine⟨by omega,by decide,by decide,?_⟩;have zs:iM [Value.int .u8 0] (12:Int).toNat=bytesV (List.replicate 12 0):=rfl;rw[zs];refine Xg (xs:=bytesV (List.replicate 12 0)) (b4.ext (Ext.drew w4)) (Aw _) (by simp only[jg,length_replicate];omega) λs5 w5 b5 f5 n5 _=> ?_;rw[<- DZ] at b5;have z3:w1.heap.size<=w3.heap.size:=((hx.trans f2).trans f3).size;have x5:Ext w1 w5:=x4.new f5 λy hy hh=>by have:=n4 y hh;omega
  have r5:=r1.ext x5;simp only[zo,Di,sx,r5.cell,true_and];refine Wu (agz b5 (f1.trans x5) (by simp;omega) u hd hm) ?_;rintro s6 w6 ⟨b6,f6,n6⟩;refine⟨f6,?_,n6⟩;have:Hg r ep no ⟨d0,d29,d30,d31,d32⟩=Fj (wo (wo [2,129,0,UInt8.ofNat r.toNat] d0 4) ep 4++List.replicate 12 0) no ⟨d0,d29,d30,d31,d32⟩:=by
   unfold Hg;congr 1;unfold sU;simp only[List.foldl_cons,List.foldl_nil];have e2:wo [] 2 1=[2]:=rfl;have e129:∀l,wo l 129 1=l++[129]:=λl=>by rw[GV];rfl
   have e0:∀l,wo l 0 1=l++[0]:=λl=>by rw[GV];rfl
   have e4:∀l,wo l 0 4=l++[0,0,0,0]:=λl=>by rw[GV];rfl
   rw[e2,e129,e0,GV _ r 1,pb1,e4,e4,e4];simp[List.replicate]
  rw[this];exact b6
 clear_value J;have rd:∀W (Q:_),Row W a (Nc r ep d0 d1 d2 d3 d4 d5 d6 d7 d8 d9 d10 d11 d12 d13 d14 d15 d16 d17 d18 d19 d20 d21 d22 d23 d24 d25 d26 d27 d28 d29 d30 d31 d32)->Q d0 d1 d2 d3 d4 d5 d6 d7 d8 d9 d10 d11 d12 d13 d14 d15 d16 d17 d18 d19 d20 d21 d22 d23 d24 d25 d26 d27 d28 d29 d30 d31 d32->jD W ⟨a,2,none⟩ Q:=by
  intro W Q hr hq;simp only[sx,hr.cell];exact hq
 refine rd _ _ r1 ?_;refine UE aeh ?_;rintro _ w2 ⟨rfl,f2⟩;by_cases hm:PA.may ⟨d0,d29,d30,d31,d32⟩;rotate_left
 ·rw[if_neg hm];exact h _ f2 λhp=>hm hp.1
 rw[if_pos hm];have r2:=r1.ext f2;refine iC (k:= .int .i64) (i:=0) (x:=r) r2 rfl ?_;refine oZ (CO _ _ _) ?_;rintro _ w3 ⟨rfl,hw⟩;subst hw;by_cases h2:fitsP r 1;rotate_left
 ·rw[decide_eq_false h2];exact h _ f2 λhp=>h2 hp.2.1
 rw[decide_eq_true h2,Bool.not_true,cond_false];refine iC (k:= .int .i64) (i:=1) (x:=ep) r2 rfl ?_;refine oZ (CO _ _ _) ?_;rintro _ w3 ⟨rfl,hw⟩;subst hw;by_cases h3:fitsP ep 4
 ·rw[decide_eq_true h3];exact I _ f2 ⟨hm,h2,h3⟩
 ·rw[decide_eq_false h3];exact h _ f2 λhp=>h3 hp.2.2
end Go.Proofs.PM
end
section
namespace Go.Proofs.XS
open Gp Go.Proofs Go.Proofs.EN Go.Proofs.XN
open Go.Proofs.CN (SlN_ix)
open Gp.Bind (Bnd Slots live GoodB freeN getS In64)
structure I7 where
 b:Bnd
 un:Int
def eL (x:I7):List Value:=[.int .i64 x.b.sw,.int .i64 x.b.pr,.int .i64 x.b.ad,.int .i64 x.b.po,.int .i64 x.b.opr,.int .i64 x.b.oad,.int .i64 x.b.opo,.int .i64 x.un]
theorem nS (x:I7):(eL x).length=8:=rfl
theorem Jy (x:I7):∀v∈eL x,jr v=true:=by
 intro v hv;simp only[eL,mem_cons,List.not_mem_nil,or_false] at hv;rcases hv with rfl|rfl|rfl|rfl|rfl|rfl|rfl|rfl<;>rfl
def kLt (a b:Int×Int×Int×Int):Prop:=a.1<b.1\/(a.1=b.1/\(a.2.1<b.2.1\/(a.2.1=b.2.1/\(a.2.2.1<b.2.2.1\/(a.2.2.1=b.2.2.1/\a.2.2.2<b.2.2.2)))))
instance (a b:Int×Int×Int×Int):Decidable (kLt a b):=inferInstanceAs (Decidable (_\/_))
structure V6 where
 s:Nat
 sl:iq
 x:XA
def IZ (a:V6):Nat->Nat->Prop
 |0,z=>z=a.s
 |1,z=>iq.at a.sl z
 |2,z=>Ak a.x z
 |_,_=>False
def qA (a:V6) (z:Nat):Prop:=∃k,IZ a k z
structure XV where
 M:List I7
 S:Slots
 en:Nat
 now:Nat
 most:Int
structure uh (w:World) (a:V6) (c:Cf) (SS:Gp.Ses.Slots) (v:XV):Prop where
 hd:Row w a.s [.pointer (some ⟨a.x.x,0,none⟩),.slice a.sl.a a.sl.len a.sl.cap,.int .i64 (v.now:Int),.int .i64 v.most]
 ls:iW 8 eL w a.sl v.M
 en:XE w a.x c v.S SS v.en
 ll:v.M.length<=5000
 ap:∀k k' z,IZ a k z->IZ a k' z->k=k'
 lt:∀k z,IZ a k z->z<w.heap.size
variable {w w':World} {a:V6} {c:Cf} {SS:Gp.Ses.Slots} {v:XV}
theorem uh.off (h:uh w a c SS v) {j k z:Nat} (hk:IZ a k z) (hn:k≠j):¬IZ a j z:=λhj=>hn (h.ap k j z hk hj)
theorem uh.fr {F:Nat->Prop} (h:uh w a c SS v) (hf:iG w w' F) (hs:∀k z,IZ a k z->¬F z):uh w' a c SS v:=
 ⟨h.hd.fr hf (hs 0 _ rfl),h.ls.fr hf (hs 1),h.en.fr hf (λk z hz=>hs 2 z ⟨k,hz⟩),h.ll,h.ap,λk z hz=>Nat.lt_of_lt_of_le (h.lt k z hz) hf.size⟩
theorem uh.ext (h:uh w a c SS v) (hf:Ext w w'):uh w' a c SS v:=h.fr (hf λ_=>False) (λ_ _ _=>by simp)
theorem uh.sl (h:uh w a c SS v):mY 8 eL w a.sl v.M:=h.ls.sl nS (by omega)
theorem ajk (a b c d a' b' c' d':Int):((a==a') && ((b==b') && ((c==c') && ((d==d') && true))))=decide ((a,b,c,d)=(a',b',c',d')):=by
 rw[Bool.eq_iff_iff,decide_eq_true_iff];simp only[Bool.and_eq_true,beq_iff_eq,and_true,Prod.mk.injEq]
theorem ahj (a b c d a' b' c' d':Int) (w:World):zI a b c d a' b' c' d' w λr w'=>r=decide (kLt (a,b,c,d) (a',b',c',d'))/\Ext w w':=by
 apply Xc;refine iI λp w1 r1 e1 z1 f1=> ?_;refine iI λq w2 r2 e2 z2 f2=> ?_;have r1:=r1.ext f2;have x2:=f1.trans f2;simp only[sx,r1.cell,r2.cell];unfold kLt;by_cases h1:a=a';rotate_left
 ·have:(a !=a')=true:=by rw[bne_iff_ne];exact h1
  rw[this,cond_true];exact⟨decide_eq_decide.2 ⟨λh=> .inl h,λh=>h.elim id λh=>absurd h.1 h1⟩,x2⟩
 subst h1;rw[bne_self_eq_false,cond_false];by_cases h2:b=b';rotate_left
 ·have:(b !=b')=true:=by rw[bne_iff_ne];exact h2
  rw[this,cond_true];exact⟨decide_eq_decide.2 ⟨λh=> .inr ⟨rfl,.inl h⟩,λh=>h.elim (λh=>absurd h (Int.lt_irrefl _)) λh=>h.2.elim id λh=>absurd h.1 h2⟩,x2⟩
 subst h2;rw[bne_self_eq_false,cond_false];by_cases h3:c=c';rotate_left
 ·have:(c !=c')=true:=by rw[bne_iff_ne];exact h3
  rw[this,cond_true];exact⟨decide_eq_decide.2 ⟨λh=> .inr ⟨rfl,.inr ⟨rfl,.inl h⟩⟩,λh=>h.elim (λh=>absurd h (Int.lt_irrefl _)) λh=>h.2.elim (λh=>absurd h (Int.lt_irrefl _)) λh=>h.2.elim id λh=>absurd h.1 h3⟩,x2⟩
 subst h3;rw[bne_self_eq_false,cond_false];exact⟨decide_eq_decide.2 ⟨λh=> .inr ⟨rfl,.inr ⟨rfl,.inr ⟨rfl,h⟩⟩⟩,λh=>h.elim (λh=>absurd h (Int.lt_irrefl _)) λh=>h.2.elim (λh=>absurd h (Int.lt_irrefl _)) λh=>h.2.elim (λh=>absurd h (Int.lt_irrefl _)) λh=>h.2⟩,x2⟩
theorem find_ok (h:uh w a c SS v) (k0 k1 k2 k3:Int):oP (some ⟨a.s,0,none⟩) k0 k1 k2 k3 w λr w'=>Ext w w'/\
  ((r= -1/\∀x∈v.M,PS.kB x.b≠(k0,k1,k2,k3))\/∃(i:Nat) (x:I7),r=(i:Int)/\v.M[i]? =some x/\PS.kB x.b=(k0,k1,k2,k3)):=by
 apply KA;refine iI λp w1 r1 e1 z1 f1=> ?_;have hl:=h.sl.len;have hll:=h.ll;refine iE (λst W=>∃i:Nat,i<=v.M.length/\st.1=(i:Int)/\Ext w1 W/\∀x∈v.M.take i,PS.kB x.b≠(k0,k1,k2,k3)) (λst _=>v.M.length - st.1.toNat) ⟨0,by omega,rfl,Ext.refl _,by simp⟩ ?_;rintro⟨j,⟨⟩⟩ W ⟨i,hi,hj,hx,I⟩ next u
 dsimp only at hj;subst hj;have hW:=h.ext (f1.trans hx);simp only[sx,hW.hd.cell];by_cases J:(i:Int)<(a.sl.len:Int);rotate_left
 ·rw[decide_eq_false J,cond_false];rw[take_of_length_le (by omega)] at I;exact⟨f1.trans hx,.inl ⟨by trivial,I⟩⟩
 rw[decide_eq_true J,cond_true];have xd:=hx.trans (Ext.drew W);have N:=h.ext (f1.trans xd);have pd:=r1.ext xd;have hg:=getElem?_eq_getElem (show i<v.M.length by omega);generalize v.M[i]=y at hg;simp only[sx,N.hd.cell];refine SlN_ix nS (by omega) N.sl (by omega) (by rw[toNat_natCast];exact hg) λad hc=> ?_;have c0:=hc 0 _ rfl;have c1:=hc 1 _ rfl;have c2:=hc 2 _ rfl;have c3:=hc 3 _ rfl;simp only[sx,c0,c1,c2,c3,pd.cell,ajk];by_cases hk:(y.b.sw,y.b.pr,y.b.ad,y.b.po)=(k0,k1,k2,k3)
 ·rw[decide_eq_true hk,cond_true];exact⟨f1.trans xd,.inr ⟨i,y,by trivial,hg,hk⟩⟩
 ·rw[decide_eq_false hk,cond_false,wrap_i64 (by omega) (by omega)];refine u _ _ ⟨i+1,by omega,by simp,xd,?_⟩ (by simp only;omega);rw[EN.take_succ hg];intro x hx';rw[mem_append,List.mem_singleton] at hx';rcases hx' with hx'|rfl
  ·exact I x hx'
  ·exact hk
end Go.Proofs.XS
end
section
namespace Go.Proofs.XS
open Gp Go.Proofs Go.Proofs.EN Go.Proofs.XN
open Go.Proofs.CN (SlN_ix)
open Gp.Bind (Bnd Slots live GoodB freeN getS In64)
variable {w w':World} {a:V6} {c:Cf} {SS:Gp.Ses.Slots} {v:XV}
theorem uh.ajJ (h:uh w a c SS v) {W:World} {t:iq} {M':List I7} (hx:Ext w W) (hb:iW 8 eL W t M') (hn:∀z,iq.at t z->w.heap.size<=z) (hl:M'.length<=5000) (hf:iG W w' (·=a.s)) (hr:Row w' a.s [.pointer (some ⟨a.x.x,0,none⟩),.slice t.a t.len t.cap,.int .i64 (v.now:Int),.int .i64 v.most]):
  uh w' {a with sl:=t} c SS {v with M:=M'}:=by
 have o:∀k z,IZ a k z->k≠0->¬z=a.s:=λk z hk u he=>h.off hk u he;have hsz:=hx.size;have hs:=h.lt 0 a.s rfl;refine⟨hr,hb.fr hf λz hz e=>by have:=hn z hz;omega,(h.en.ext hx).fr hf λk z hz=>o 2 z ⟨k,hz⟩ (by decide),hl,?_,?_⟩
 ·intro k k' z hk hk'
  match k,k',hk,hk' with
  |0,0,_,_=>rfl
  |1,1,_,_=>rfl
  |2,2,_,_=>rfl
  |0,1,hk,hk'=>exact absurd (hn z hk') (by have e:z=a.s:=hk;omega)
  |1,0,hk,hk'=>exact absurd (hn z hk) (by have e:z=a.s:=hk';omega)
  |0,2,hk,hk'=>exact h.ap 0 2 z hk hk'
  |2,0,hk,hk'=>exact h.ap 2 0 z hk hk'
  |1,2,hk,hk'=>exact absurd (hn z hk) (by have:=h.lt 2 z hk';omega)
  |2,1,hk,hk'=>exact absurd (hn z hk') (by have:=h.lt 2 z hk;omega)
  |(n+3),_,hk,_=>exact hk.elim
  |0,(n+3),_,hk'=>exact hk'.elim
  |1,(n+3),_,hk'=>exact hk'.elim
  |2,(n+3),_,hk'=>exact hk'.elim
 ·intro k z hk;have hz2:=hf.size
  match k,hk with
  |0,hk=>have e:z=a.s:=hk;omega
  |1,hk=>exact Nat.lt_of_lt_of_le (hb.lt hk) hz2
  |2,hk=>have:=h.lt 2 z hk;omega
  |(n+3),hk=>exact hk.elim
theorem Rw (h:uh w a c SS v) (hl:v.M.length<=4500) (b:Bnd) (un:Int):pY (some ⟨a.s,0,none⟩) b.sw b.pr b.ad b.po b.opr b.oad b.opo un w λw'=>iG w w' (qA a)/\
  ∃t i,i<=v.M.length/\(∀x∈v.M.take i,kLt (PS.kB x.b) (PS.kB b))/\(∀x,v.M[i]? =some x->¬kLt (PS.kB x.b) (PS.kB b))/\(∀z,iq.at t z->w.heap.size<=z)/\uh w' {a with sl:=t} c SS {v with M:=v.M.take i++⟨b,un⟩::v.M.drop i}:=by
 apply MW;refine iI λp w1 r1 e1 z1 f1=> ?_;have hlen:=h.sl.len;refine iE (λst W=>∃i:Nat,i<=v.M.length/\st.1=(i:Int)/\Ext w1 W/\∀x∈v.M.take i,kLt (PS.kB x.b) (PS.kB b)) (λst _=>v.M.length - st.1.toNat) ⟨0,by omega,rfl,Ext.refl _,by simp⟩ ?_;rintro⟨j,⟨⟩⟩ W ⟨j,hj,hj',hx,u⟩ next I
 dsimp only at hj';subst hj';intro J;have ae:∀W',Ext w1 W'->j<v.M.length->(∀x∈v.M.take (j+1),kLt (PS.kB x.b) (PS.kB b))->J true W':=by
  intro W' hx' N ha';simp only[J,cond_true];rw[wrap_i64 (by have:=h.ll;omega) (by have:=h.ll;omega)];exact I _ _ ⟨j+1,by omega,by simp,hx',ha'⟩ (by simp only;omega)
 have U:∀W',Ext w1 W'->(∀x,v.M[j]? =some x->¬kLt (PS.kB x.b) (PS.kB b))->J false W':=by
  intro w3 hx3 af;simp only[J,cond_false];have x3:Ext w w3:=f1.trans hx3;have h3:=h.ext x3;have h3d:=h3.ext (Ext.drew w3);have rpd:=(r1.ext hx3).drew;simp only[sx,h3d.hd.cell,rpd.cell];have Y:=h3d.sl;refine Hf nS Y (by omega) (by omega) (by omega) λsa O=> ?_;refine Hf nS Y (by omega) (by omega) (by omega) λsb R=> ?_;rw[show Int.toNat 0=0 from rfl,List.drop_zero,toNat_natCast] at O;rw[toNat_natCast,toNat_natCast,hlen,take_of_length_le (Nat.le_refl _)] at R;have tk:(v.M.take j).length=j:=by rw[length_take];omega
  have dk:(v.M.drop j).length=v.M.length - j:=length_drop;have w3d:w3.drew.heap.size=w3.heap.size:=rfl;have z3:=x3.size;have xdd:Ext w w3.drew:=x3.trans (Ext.drew _);have fin:∀W (t:iq),Ext w3.drew W->iW 8 eL W t (v.M.take j++⟨b,un⟩::v.M.drop j)->(∀z,iq.at t z->w3.drew.heap.size<=z)->St W ⟨a.s,1,none⟩ (.slice t.a t.len t.cap) λaa=>iG w aa (qA a)/\
    ∃t i,i<=v.M.length/\(∀x∈v.M.take i,kLt (PS.kB x.b) (PS.kB b))/\(∀x,v.M[i]? =some x->¬kLt (PS.kB x.b) (PS.kB b))/\(∀z,iq.at t z->w.heap.size<=z)/\uh aa {a with sl:=t} c SS {v with M:=v.M.take i++⟨b,un⟩::v.M.drop i}:=by
   intro W t hx hb hn;have hW:=h3d.ext hx;refine iK (i:=1) hW.hd rfl (by simp) λw5 r5 f5 z5=> ?_;simp only[List.set_cons_zero,List.set_cons_succ] at r5;have f5x:=f5 (·=a.s) rfl;have xW:=xdd.trans hx;refine⟨(xW.fr f5x).mono λy hy=>⟨0,hy⟩,t,j,hj,u,af,λz hz=>by have:=hn z hz;omega,h.ajJ xW hb (λz hz=>by have:=hn z hz;omega) ?_ f5x r5⟩;simp only[length_append,length_cons,tk,dk];omega
  have elem:∀{W:World} {q:Nat},Row W q (eL ⟨b,un⟩)->mY 8 eL W ⟨some ⟨q,0,none⟩,1,1⟩ [⟨b,un⟩]:=by
   intro W q hq;exact(iW.row (xs:=[(⟨b,un⟩:I7)]) (by simpa [eL] using hq)).sl nS (by omega)
  refine⟨?_,?_⟩
  ·refine iV nS iW.nil O rfl (by omega) Jy (by simp only[length_nil,tk];omega) (by simp only[length_nil,tk];omega) λt4 w4 b4 f4 n4=> ?_;have y4:Ext w3.drew w4:=f4.new λz _ ⟨o,hz⟩=>by cases hz
   have n4':∀z,iq.at t4 z->w3.drew.heap.size<=z:=λz hz=>by
    rcases n4 z hz with ⟨o,h4⟩|h4
    ·cases h4
    ·exact h4
   rw[nil_append] at b4;simp only[true_and,d_,(rpd.ext y4).cell,(h3d.ext y4).hd.cell];refine iI λq w5 r5 e5 z5 f5=> ?_;have y5:=y4.trans f5;simp only[true_and,d_,(h3d.ext y5).hd.cell];refine iV nS (b4.ext f5) (elem r5) rfl (by omega) Jy (by simp only[length_singleton,tk];omega) (by simp only[length_singleton,tk];omega) λt6 w6 b6 f6 n6=> ?_;have z4:=y4.size;have z5':=y5.size;have y6:Ext w3.drew w6:=y5.new f6 λz hz h=>by have:=n4' z h;omega
   have n6':∀z,iq.at t6 z->w3.drew.heap.size<=z:=λz hz=>by
    rcases n6 z hz with h6|h6
    ·exact n4' z h6
    ·omega
   simp only[true_and,d_,(h3d.ext y6).hd.cell];refine iV nS b6 (R.ext y6) rfl (by omega) Jy (by simp only[length_append,length_singleton,tk,dk];omega) (by simp only[length_append,length_singleton,tk,dk];omega) λt8 w8 b8 f8 n8=> ?_;have z6:=y6.size;have y8:Ext w3.drew w8:=y6.new f8 λz hz h=>by have:=n6' z h;omega
   refine fin w8 t8 y8 (by simpa using b8) λz hz=> ?_;rcases n8 z hz with h8|h8
   ·exact n6' z h8
   ·omega
  ·refine iI λq w5 r5 e5 z5 f5=> ?_;simp only[true_and,d_,(h3d.ext f5).hd.cell];refine iV nS iW.nil (O.ext f5) rfl (by omega) Jy (by simp only[length_nil,tk];omega) (by simp only[length_nil,tk];omega) λt4 w4 b4 f4 n4=> ?_;have y4:Ext w3.drew w4:=f5.new f4 λz _ ⟨o,hz⟩=>by cases hz
   have ab:Ext w5 w4:=f4.new λz _ ⟨o,hz⟩=>by cases hz
   have z5':=f5.size;have n4':∀z,iq.at t4 z->w5.heap.size<=z:=λz hz=>by
    rcases n4 z hz with ⟨o,h4⟩|h4
    ·cases h4
    ·exact h4
   rw[nil_append] at b4;simp only[true_and,d_,(rpd.ext y4).cell,(h3d.ext y4).hd.cell];refine iV nS b4 (elem (r5.ext ab)) rfl (by omega) Jy (by simp only[length_singleton,tk];omega) (by simp only[length_singleton,tk];omega) λt6 w6 b6 f6 n6=> ?_;have z4:=y4.size;have z54:=ab.size;have y6:Ext w3.drew w6:=y4.new f6 λz hz h=>by have:=n4' z h;omega
   have n6':∀z,iq.at t6 z->w3.drew.heap.size<=z:=λz hz=>by
    rcases n6 z hz with h6|h6
    ·have:=n4' z h6;omega
    ·omega
   simp only[true_and,d_,(h3d.ext y6).hd.cell];refine iV nS b6 (R.ext y6) rfl (by omega) Jy (by simp only[length_append,length_singleton,tk,dk];omega) (by simp only[length_append,length_singleton,tk,dk];omega) λt8 w8 b8 f8 n8=> ?_;have z6:=y6.size;have y8:Ext w3.drew w8:=y6.new f8 λz hz h=>by have:=n6' z h;omega
   refine fin w8 t8 y8 (by simpa using b8) λz hz=> ?_;rcases n8 z hz with h8|h8
   ·exact n6' z h8
   ·omega
 clear_value J;have xd:=hx.trans (Ext.drew W);have ac:=h.ext (f1.trans xd);have pd:=r1.ext xd;simp only[sx,ac.hd.cell];by_cases N:(j:Int)<(a.sl.len:Int);rotate_left
 ·rw[decide_eq_false N,cond_false];exact U _ xd λx hx=>by rw[List.getElem?_eq_none (by omega)] at hx;cases hx
 rw[decide_eq_true N,cond_true];have hg:=getElem?_eq_getElem (show j<v.M.length by omega);generalize v.M[j]=y at hg;refine SlN_ix nS (by omega) ac.sl (by omega) (by rw[toNat_natCast];exact hg) λad hc=> ?_;have c0:=hc 0 _ rfl;have c1:=hc 1 _ rfl;have c2:=hc 2 _ rfl;have c3:=hc 3 _ rfl;simp only[sx,c0,c1,c2,c3,pd.cell];refine Wv (ahj _ _ _ _ _ _ _ _ _) ?_;rintro _ w5 ⟨rfl,f5⟩;by_cases hk:kLt (y.b.sw,y.b.pr,y.b.ad,y.b.po) (b.sw,b.pr,b.ad,b.po)
 ·rw[decide_eq_true hk];refine ae _ (xd.trans f5) (by omega) ?_;rw[EN.take_succ hg];intro x hx';rw[mem_append,List.mem_singleton] at hx';rcases hx' with hx'|rfl
  ·exact u x hx'
  ·exact hk
 ·rw[decide_eq_false hk];refine U _ (xd.trans f5) λx hx'=> ?_;rw[hg] at hx';cases hx';exact hk
end Go.Proofs.XS
end
section
namespace Go.Proofs.XS
open Gp Go.Proofs Go.Proofs.EN Go.Proofs.XN
open Go.Proofs.CN (SlN_ix)
open Gp.Bind (Bnd Slots live GoodB freeN getS In64)
variable {w w':World} {a:V6} {c:Cf} {SS:Gp.Ses.Slots} {v:XV}
theorem uh.ab5 (h:uh w a c SS v) {A:XA} {S':Slots} {n:Nat} (hf:iG w w' (Ak a.x)) (hA:A.x=a.x.x) (I:∀z,Ak A z->Ak a.x z\/w.heap.size<=z) (he:XE w' A c S' SS n):
  uh w' {a with x:=A} c SS {v with S:=S',en:=n}:=by
 have o:∀k z,IZ a k z->k≠2->¬Ak a.x z:=λk z hk u he=>h.off hk u he;have hd:=h.hd.fr hf (o 0 _ rfl (by decide));rw[<- hA] at hd;refine⟨hd,h.ls.fr hf λz hz=>o 1 z hz (by decide),he,h.ll,?_,?_⟩
 ·have key:∀k z,IZ a k z->k≠2->Ak A z->False:=by
   intro k z hk u hj;rcases I z hj with h2|h2
   ·exact o k z hk u h2
   ·have:=h.lt k z hk;omega
  intro k k' z hk hk'
  match k,k',hk,hk' with
  |0,0,_,_=>rfl
  |1,1,_,_=>rfl
  |2,2,_,_=>rfl
  |0,1,hk,hk'=>exact h.ap 0 1 z hk hk'
  |1,0,hk,hk'=>exact h.ap 1 0 z hk hk'
  |0,2,hk,hk'=>exact(key 0 z hk (by decide) hk').elim
  |2,0,hk,hk'=>exact(key 0 z hk' (by decide) hk).elim
  |1,2,hk,hk'=>exact(key 1 z hk (by decide) hk').elim
  |2,1,hk,hk'=>exact(key 1 z hk' (by decide) hk).elim
  |(n+3),_,hk,_=>exact hk.elim
  |0,(n+3),_,hk'=>exact hk'.elim
  |1,(n+3),_,hk'=>exact hk'.elim
  |2,(n+3),_,hk'=>exact hk'.elim
 ·intro k z hk;have hz2:=hf.size
  match k,hk with
  |0,hk=>exact Nat.lt_of_lt_of_le (h.lt 0 z hk) hz2
  |1,hk=>exact Nat.lt_of_lt_of_le (h.lt 1 z hk) hz2
  |2,hk=>
   obtain⟨j,hj⟩:=hk;obtain⟨L,Q,hm,_⟩:=he;exact hm.lt j z hj
  |(n+3),hk=>exact hk.elim
theorem La (h:uh w a c SS v) (hs:NoX SS) {i j:Nat} {x:I7} (hi:v.M[i]? =some x) (hS:v.S[j]? =some (some x.b)) (O:x.b.st=true) (hm:Gw c x.b)
  (inn:∀(k:Nat) (y:Bnd),v.S[k]? =some (some y)->y.i=x.b.i->k=j)
  (one:∀(k:Nat) (y:Bnd),v.S[k]? =some (some y)->(y.opr,y.oad,y.opo)=(x.b.opr,x.b.oad,x.b.opo)->k=j):
  ny (some ⟨a.s,0,none⟩) (i:Int) w λw'=>iG w w' (qA a)/\∃t A,A.x=a.x.x/\(∀z,iq.at t z->w.heap.size<=z)/\(∀z,Ak A z->Ak a.x z\/w.heap.size<=z)/\
   uh w' {a with sl:=t,x:=A} c SS {v with M:=v.M.take i++v.M.drop (i+1),S:=v.S.set j none}:=by
 apply Kz;have hil:i<v.M.length:=(List.getElem?_eq_some_iff.1 hi).1;have hll:=h.ll;have hd:=h.ext (Ext.drew w);simp only[sx,hd.hd.cell];refine SlN_ix nS (by omega) hd.sl (by omega) (by rw[toNat_natCast];exact hi) λad hc=> ?_;have c0:=hc 0 _ rfl;have c1:=hc 1 _ rfl;have c2:=hc 2 _ rfl;have c3:=hc 3 _ rfl;simp only[sx,c0,c1,c2,c3];refine IG (aep hd.en hs hS O hm inn one) ?_;rintro r w3 ⟨rfl,f3,A,hA,I,h3⟩;have hS3:=hd.ab5 f3 hA I h3;have hz3:=f3.size;have h3d:=hS3.ext (Ext.drew w3);have w3d:w3.drew.heap.size=w3.heap.size:=rfl;have wd:w.drew.heap.size=w.heap.size:=rfl;simp only[sx,h3d.hd.cell];have u:=h3d.sl;have hlen:=u.len;simp only at hlen;rw[wrap_i64 (n:=(i:Int)+1) (by omega) (by omega)];refine Hf nS u (by omega) (by omega) (by simp only;omega) λsa J=> ?_;refine Hf (lo:=(i:Int)+1) nS u (by omega) (by omega) (by simp only;omega) λsb N=> ?_;rw[show Int.toNat 0=0 from rfl,List.drop_zero,toNat_natCast] at J;have ei:((i:Int)+1).toNat=i+1:=by omega
 rw[ei,toNat_natCast,hlen,take_of_length_le (Nat.le_refl _)] at N;have tk:(v.M.take i).length=i:=by rw[length_take];omega
 have dk:(v.M.drop (i+1)).length=v.M.length - (i+1):=length_drop;refine iV nS iW.nil J rfl (by omega) Jy (by simp only[length_nil,tk];omega) (by simp only[length_nil,tk];omega) λt4 w4 b4 f4 n4=> ?_;have y4:Ext w3.drew w4:=f4.new λz _ ⟨o,hz⟩=>by cases hz
 have n4':∀z,iq.at t4 z->w3.drew.heap.size<=z:=λz hz=>by
  rcases n4 z hz with ⟨o,h4⟩|h4
  ·cases h4
  ·exact h4
 rw[nil_append] at b4;refine⟨by rw[(h3d.ext y4).hd.cell];rfl,?_⟩;refine iV nS b4 (N.ext y4) rfl (by omega) Jy (by simp only[tk,dk];omega) (by simp only[tk,dk];omega) λt6 w6 b6 f6 n6=> ?_;have y6:Ext w3.drew w6:=y4.new f6 λz hz h=>by have:=n4' z h;omega
 have z4:=y4.size;have n6':∀z,iq.at t6 z->w3.drew.heap.size<=z:=λz hz=>by
  rcases n6 z hz with h6|h6
  ·exact n4' z h6
  ·omega
 refine iK (i:=1) (h3d.ext y6).hd rfl (by simp) λw7 r7 f7' z7=> ?_;have f7:iG w6 w7 (·=a.s):=f7' _ rfl;simp only[List.set_cons_zero,List.set_cons_succ] at r7;refine⟨?_,t6,A,hA,λz hz=>by have:=n6' z hz;omega,λz hz=>I z hz,h3d.ajJ y6 b6 n6' (by simp only[length_append,tk,dk];omega) f7 r7⟩;have g3:iG w w3 (qA a):=((Ext.drew w).fr f3).mono λy hy=>⟨2,hy⟩;exact(g3.ext ((Ext.drew w3).trans y6)).trans f7 λy _ hy=>⟨0,hy⟩
end Go.Proofs.XS
end
section
namespace Go.Proofs.XS
open Gp Go.Proofs Go.Proofs.EN Go.Proofs.XN Go.Proofs.PS
open Gp.Bind (Bnd Slots live GoodB freeN getS In64)
theorem kLt_irr (a:I4):¬kLt a a:=by unfold kLt;omega
theorem kLt_tr {a b c:I4} (h:kLt a b) (h':kLt b c):kLt a c:=by unfold kLt at *;omega
theorem kLt_tot {a b:I4} (h:¬kLt a b) (hn:a≠b):kLt b a:=by
 obtain⟨a0,a1,a2,a3⟩:=a;obtain⟨b0,b1,b2,b3⟩:=b;unfold kLt at *;simp only[ne_eq,Prod.mk.injEq] at hn;simp only at h ⊢;omega
def Srt (M:List I7):Prop:=M.Pairwise λp q=>kLt (kB p.b) (kB q.b)
theorem Srt.ins {M:List I7} (h:Srt M) {i:Nat} {p:I7} (h1:∀x∈M.take i,kLt (kB x.b) (kB p.b)) (h2:∀x,M[i]? =some x->¬kLt (kB x.b) (kB p.b)) (hn:∀x∈M,kB x.b≠kB p.b):Srt (M.take i++p::M.drop i):=by
 have hs:Srt (M.take i++M.drop i):=by rw[take_append_drop];exact h
 unfold Srt at *;rw[List.pairwise_append] at hs ⊢;obtain⟨s1,s2,s3⟩:=hs;have hd:∀x∈M.drop i,kLt (kB p.b) (kB x.b):=by
  intro x hx
  cases hg:M[i]? with
  |none=>
   rw[List.getElem?_eq_none_iff] at hg;rw[List.drop_eq_nil_of_le hg] at hx;cases hx
  |some y=>
   have u:i<M.length:=(List.getElem?_eq_some_iff.1 hg).1;have hy:kLt (kB p.b) (kB y.b):=kLt_tot (h2 y hg) (hn y (List.mem_of_getElem? hg));have I:M.drop i=y::M.drop (i+1):=by
    rw[List.drop_eq_getElem_cons u];have:=(List.getElem?_eq_some_iff.1 hg).2;rw[this]
   rw[I] at hx s2;rw[List.pairwise_cons] at s2;rcases List.mem_cons.1 hx with rfl|hx
   ·exact hy
   ·exact kLt_tr hy (s2.1 x hx)
 refine⟨s1,List.pairwise_cons.2 ⟨hd,s2⟩,λx hx y hy=> ?_⟩;rcases List.mem_cons.1 hy with rfl|hy
 ·exact h1 x hx
 ·exact s3 x hx y hy
theorem ahn {M:List I7} {i:Nat} {p q:I7}:q∈M.take i++p::M.drop i↔q∈M\/q=p:=by
 have:q∈M↔q∈M.take i\/q∈M.drop i:=by rw[<- mem_append,take_append_drop]
 rw[this,mem_append,mem_cons];constructor
 ·rintro(h|h|h)
  ·exact .inl (.inl h)
  ·exact .inr h
  ·exact .inl (.inr h)
 ·rintro((h|h)|h)
  ·exact .inl h
  ·exact .inr (.inr h)
  ·exact .inr (.inl h)
theorem Srt.one {M:List I7} (h:Srt M) {p q:I7} (hp:p∈M) (hq:q∈M) (he:kB p.b=kB q.b):p=q:=by
 obtain⟨i,hi⟩:=List.getElem?_of_mem hp;obtain⟨j,hj⟩:=List.getElem?_of_mem hq;obtain⟨I,rfl⟩:=List.getElem?_eq_some_iff.1 hi;obtain⟨J,rfl⟩:=List.getElem?_eq_some_iff.1 hj;unfold Srt at h;rw[List.pairwise_iff_getElem] at h;rcases Nat.lt_trichotomy i j with u|rfl|u
 ·have:=h i j I J u;rw[he] at this;exact absurd this (kLt_irr _)
 ·rfl
 ·have:=h j i J I u;rw[he] at this;exact absurd this (kLt_irr _)
theorem Srt.nd {M:List I7} (h:Srt M):(M.map λp=>kB p.b).Nodup:=by
 unfold List.Nodup;rw[List.pairwise_map];exact List.Pairwise.imp (λhl he=>by rw[he] at hl;exact kLt_irr _ hl) h
theorem Srt.rem {M:List I7} (h:Srt M) (i:Nat):Srt (M.take i++M.drop (i+1)):=by
 refine List.Pairwise.sublist ?_ h;have:M=M.take i++M.drop i:=(take_append_drop i M).symm
 conv=>rhs;rw[this]
 exact List.Sublist.append (List.Sublist.refl _) (by rw[<- List.drop_drop];exact List.drop_sublist 1 _)
theorem YL {M:List I7} (h:Srt M) {i:Nat} {p q:I7} (hi:M[i]? =some p):q∈M.take i++M.drop (i+1)↔q∈M/\q≠p:=by
 obtain⟨hil,rfl⟩:=List.getElem?_eq_some_iff.1 hi;have e:M=M.take i++M[i]::M.drop (i+1):=by rw[<- List.drop_eq_getElem_cons,take_append_drop]
 have hn:M[i]∉M.take i++M.drop (i+1):=by
  have h2:Srt (M.take i++M[i]::M.drop (i+1)):=by rw[<- e];exact h
  unfold Srt at h2;rw[List.pairwise_append,List.pairwise_cons] at h2;obtain⟨_,⟨s2,_⟩,s3⟩:=h2;rw[mem_append];rintro(hm|hm)
  ·exact kLt_irr _ (s3 _ hm _ List.mem_cons_self)
  ·exact kLt_irr _ (s2 _ hm)
 constructor
 ·intro hq;refine⟨?_,λhe=>hn (he ▸ hq)⟩;rw[mem_append] at hq;rcases hq with hq|hq
  ·exact List.mem_of_mem_take hq
  ·exact List.mem_of_mem_drop hq
 ·rintro⟨hq,u⟩;rw[e,mem_append,mem_cons] at hq;rw[mem_append];rcases hq with hq|hq|hq
  ·exact .inl hq
  ·exact absurd hq u
  ·exact .inr hq
structure Lnk (v:SV) (x:XV):Prop where
 so:Srt x.M
 mem:∀p,p∈x.M↔∃y∈v.L,y.b=p.b/\y.un=p.un
 S:x.S=v.e.S
 en:x.en=v.e.now
 now:x.now=v.now
 most:x.most=v.most
variable {w:World} {A:SA} {c:Cf} {Z:Bnd->Prop} {v:SV} {x:XV}
theorem ahh (h:Srv w A c v) (g:PS.Good c Z v []):(v.L.map iR.k).Nodup:=by
 have hb:=h.bn;unfold List.Nodup at hb ⊢;rw[List.pairwise_map] at hb ⊢;refine List.Pairwise.imp_of_mem (λhx hy u he=> ?_) hb;rw[g.kk _ hx _ hy he] at u;exact u rfl
theorem Lnk.len (l:Lnk v x) (h:Srv w A c v) (g:PS.Good c Z v []):x.M.length=v.L.length:=by
 have h1:(x.M.map λp=>kB p.b).length<=(v.L.map iR.k).length:=PY l.so.nd λk hk=>by
  obtain⟨p,hp,rfl⟩:=List.mem_map.1 hk;obtain⟨y,hy,hb,_⟩:=(l.mem p).1 hp;exact List.mem_map.2 ⟨y,hy,by unfold iR.k kB;rw[hb]⟩
 have h2:(v.L.map iR.k).length<=(x.M.map λp=>kB p.b).length:=PY (ahh h g) λk hk=>by
  obtain⟨y,hy,rfl⟩:=List.mem_map.1 hk;exact List.mem_map.2 ⟨⟨y.b,y.un⟩,(l.mem _).2 ⟨y,hy,rfl,rfl⟩,rfl⟩
 simp only[List.length_map] at h1 h2;omega
end Go.Proofs.XS
end
