import Derived.Test.YtdmbjlliegbpcaaGreatDoorW15
import Derived.Test.YtdmbjlliegbpcaaGreatDoorRows
import GoSem.ClaimGoes
import Derived.KernelRfl
set_option maxRecDepth 100000
set_option maxHeartbeats 4000000
section
namespace Go.Proofs.AN
open Gp Gp.V4 Go.Proofs Go.Proofs.EN Go.Proofs.VN
open Gp.Bind (Bnd Slots live GoodB freeN getS In64)
open Gp.Ses (Ses)
open Go.Proofs.CN (SlN_ix T16 T7 e16 e16_len ownT refbase_ok base_good base_fine)
variable {w0 w w':θ} {A:AA} {bs bp:Nat} {e:ES}
structure Lo (w0 W:θ) (x k:Nat) (A:AA) (bs bp:Nat) (e:ES):Prop where
 ab:Ab w0 W A bs bp e
 x:A.x=x
 gd:Gd (jW bs bp) e
 few:Few k e
 sw:∀(j:Nat) (b:Bnd),e.S[j]? =some (some b)->b.sw=(j:Int)
theorem ahZ {w:θ} (hH:Hdl w) {m n:Nat} (hm:m<65536) (hn:n<65536) {d:fU} {l:List UInt8} (hd:iq w d l):E_ (m:Int) (n:Int) d w λr w'=>r=true/\Ext w w':=by
 have aw:∀W,Ext w W->tH W λr w'=>r=true/\Ext w w':=λW hW=>cmS0 (adK (hH.ext hW)) λr w' ⟨h,hx⟩=>⟨h,hW.trans hx⟩;apply OJ;have hdl:=hd.1;by_cases hl:l.length<=500;rotate_left
 ·rw[decide_eq_true (by omega),cond_true];exact aw w (Ext.refl _)
 rw[decide_eq_false (by omega),cond_false];refine cmS13 (refbase_ok w) ?_;rintro p0 p1 p2 p3 p4 p5 p6 p7 p8 p9 p10 p11 p12 p13 p14 p15 sw po n18 n19 n20 n21 n22 n23 n24 n25 n26 n27 n28 n29 n30 n31 n32 n33 n34 st w1 ⟨bs,bp,hB,rfl,rfl,rfl,rfl,rfl,rfl,rfl,rfl,rfl,rfl,rfl,rfl,rfl,rfl,rfl,rfl,rfl,rfl,rfl,rfl,rfl,rfl,rfl,rfl,rfl,rfl,rfl,rfl,rfl,rfl,rfl,rfl,rfl,rfl,rfl,rfl⟩;refine gq λa w2 r2 e2 z2 f2=> ?_;refine StN_f r2 λw3 r3 f3 z3=> ?_;have Z:Ext w1 w3:=f2.nw f3;have x3:=hB.ext.trans Z;refine VP (λj _=>by rw[gy,Nat.zero_add,r3.cell]) ?_;refine aaY (hB.sl.ext Z) (hB.pl.ext Z) mQ.nil (by simp) (by simp) rfl (.inr ⟨base_good,.inr ⟨base_fine,rfl⟩⟩) (by omega) (by omega) (by omega) λA w4 av N f4 hA hI ax=> ?_;obtain⟨ac,_,_⟩:=cfm (p0:=32) (p1:=1) (p2:=13) (p3:=184) (p4:=0) (p5:=0) (p6:=0) (p7:=0) (p8:=0) (p9:=0) (p10:=0) (p11:=0) (p12:=0) (p13:=0) (p14:=0) (p15:=1) (st:=⟨none,0,0⟩) rfl av N;have ac:Yq (jW bs bp):=ac;have am:=hB.sl.ext Z;have an:Ab w3 w4 A bs bp (e0 2 64 128):=⟨hA,f4,ax,am⟩;have hG:Gd (jW bs bp) (e0 2 64 128):=gd0 .nil hI;have hH3:=hH.ext x3;intro J;have hJ:J false->(bif Option.isNone (some (⟨A.x,0,none⟩:Addr)) then J true else J ((0:Int) !=0)):=λh=>h;refine hJ ?_;simp -zeta only[J];rw[cond_false,Α (n:=(m:Int)) (by omega) (by omega),Α (n:=(n:Int)) (by omega) (by omega)];have x4:=x3.trans f4;obtain⟨q1,q2,q3,q4,q5⟩:=Du (l:=l) (a:=167772161) (b:=134744072) (src:=m) (dst:=n) (ttl:=9) (by omega) (by omega) hm hn (by omega) (by omega);refine cmS2 (Rj (l:=l) (a:=167772161) (b:=134744072) (src:=m) (dst:=n) (ttl:=9) (hd.ext x4) (by omega) (by omega) (by omega) hm hn (by omega)) ?_;rintro rr w5 ⟨I,f5,nrr⟩;have Y1:Lo w3 w5 A.x 0 A bs bp (e0 2 64 128):=⟨an.ext f5,rfl,hG,AN.Y1,λj b hj=>absurd (AN.Y1.lt hj) (by omega)⟩;have O:∀ad,rr.a=some ad->0<(kS 167772161 134744072 m n 9 l).bytes.length->¬jK A.e ad.block:=λad ha _ ⟨k,hk⟩=>by have:=nrr ad ha;have:=an.ae.en.lt k _ hk;omega
 have r5:=r3.ext (f4.trans f5);generalize A.x=x at Y1 ⊢;refine gX (λst W=>∃(k:Nat) (A:AA) (e:ES),k<=2/\st.1=(k:Int)/\Lo w3 W x k A bs bp e/\iq W rr (kS 167772161 134744072 m n 9 l).bytes/\∀ad,rr.a=some ad->0<(kS 167772161 134744072 m n 9 l).bytes.length->¬jK A.e ad.block) (λst _=>2 - st.1.toNat) ⟨0,A,_,by omega,rfl,Y1,I,O⟩ ?_;clear O Y1 I;rintro⟨ki,⟨⟩⟩ W ⟨k,A,e,hk,ao,hL,I,O⟩ next R
 simp only at ao;subst ao;have xW:=hL.ab.x0;have rW:=r3.ext xW;obtain rfl:=hL.x;by_cases hk2:k<2;rotate_left
 ·obtain rfl:k=2:=by omega
  rw[decide_eq_false (by omega),cond_false];refine Ym hL.ab λx0 bl x2 x3' x4' x5 x6 W2 g2 af=> ?_;obtain⟨b,b',hS⟩:∃b b':Bnd,e.S=some b::some b'::List.replicate 62 none:=by
   rcases hL.few.S with ⟨h,_⟩|⟨h,_⟩|⟨_,b,b',h⟩
   ·omega
   ·omega
   ·exact⟨b,b',h⟩
  have ay:(live 0 e.S).map (·.2)=[b,b']:=by rw[hS];rfl
  rw[ay] at af;refine gq λc W3 r3' e3' z3' f3''=> ?_;refine gY r3' rfl rfl λW4 r4 f4'' z4=> ?_;have f4':gW W3 W4 (·=c):=f4'' _ rfl;have y4:Ext W2 W4:=f3''.new f4' λy hy e=>by omega
  have y4d:=y4.trans (Ext.drew W4);have r4:=r4.drew;intro J183;refine Ld_s 1 bl r4 ?_;rw[af.len];show cond true _ _;rw[cond_true];have U:=(af.ext y4d).sl Oh (by omega);have aa:∀(a:Addr) (j:Nat),(a.add 4).add j=a.add (4+j):=λa j=>by cases j<;>simp[Addr.add,Nat.add_assoc]
  refine Ld_s 1 bl r4 (SlN_ix Oh (by omega) U (Int.le_refl 0) (x:=b) rfl λa0 c0=> ?_);refine iH (k:= .int .i64) (y:=b.opr) (by rw[aa];exact c0 4 _ rfl) (iH (k:= .int .i64) (y:=b.oad) (by rw[aa];exact c0 5 _ rfl) (iH (k:= .int .i64) (y:=b.opo) (by rw[aa];exact c0 6 _ rfl) ?_));refine Ld_s 1 bl r4 (SlN_ix Oh (by omega) U (by omega) (x:=b') rfl λa1 c1=> ?_);refine iH (k:= .int .i64) (y:=b'.opr) (by rw[aa];exact c1 4 _ rfl) (iH (k:= .int .i64) (y:=b'.oad) (by rw[aa];exact c1 5 _ rfl) (iH (k:= .int .i64) (y:=b'.opo) (by rw[aa];exact c1 6 _ rfl) ?_));have ag:(!(b.opr==b'.opr && (b.oad==b'.oad && (b.opo==b'.opo && true))))=true:=by
   cases hq:(b.opr==b'.opr && (b.oad==b'.oad && (b.opo==b'.opo && true)))
   ·rfl
   exfalso;simp only[Bool.and_true,Bool.and_eq_true,beq_iff_eq] at hq;obtain⟨h1,h2,h3⟩:=hq;have hg:=hL.ab.ae.en.db.good;have g0:=(hg.o (Bind.keyS b.o) 0).2 ⟨0,b,by rw[hS];rfl,rfl,rfl⟩;have g1:=(hg.o (Bind.keyS b.o) 1).2 ⟨1,b',by rw[hS];rfl,by unfold Bnd.o;rw[h1,h2,h3],rfl⟩;rw[g0] at g1
   cases g1
  rw[ag,cond_true];exact aw _ (x3.trans (xW.trans (g2.trans y4d)))
 have zW:=xW.size;rw[decide_eq_true (by omega),cond_true];refine VP (λj _=>by rw[gy,Nat.zero_add,rW.cell]) ?_;refine QA (am.ext xW) hk2 (kS 167772161 134744072 m n 9 l) I (by rw[WU];omega) λu W1 g1 hu=> ?_;refine V8 (n0:=W.heap.size) (hL.ab.ext g1) hL.gd ac (by have:=hL.few.tn;omega) hH3 g1.size hk2 _ q1 ⟨by omega,by omega⟩ rfl (by simp[kS]) (λwhy=>hL.few.full (by omega) hL.gd.inv hk2 _ why) hu λs r W2 A' e' q hf hW hb hr=> ?_;obtain⟨ah,b,ms,s1,c1,c2,c3,c4,c5,c6,c7,c8,c9,rfl,_,cU⟩:=hL.few.next (by omega) hW λj b hj=>by have:=hL.few.lt hj;have:=hL.sw j b hj;omega
 obtain⟨aq,_,ar,au⟩:=hW.bnd q1.2.1 rfl ⟨by omega,by omega⟩;rw[q3] at c9;have hW2:gW W W2 (jK A.e):=(g1 _).trans hf λ_ _ h=>h;have ai:iq W2 rr (kS 167772161 134744072 m n 9 l).bytes:=I.fr hW2 λad ha h0=>O ad ha h0;have aj:∀ad,rr.a=some ad->0<(kS 167772161 134744072 m n 9 l).bytes.length->¬jK A'.e ad.block:=λad ha h0 h=>(hW.gr _ h).elim (O ad ha h0) λh=>by have:=aaL I ha h0;omega
 intro J133;rw[show ((0:Int) !=0)=false from rfl,cond_false,hb.len];show J133 false;simp -zeta only[J133];rw[cond_false];refine WO hb λa1 _ d1=>iH (k:= .slice) (y:=r) d1 ?_;have hwa:=hL.few.tn;have hst:=hW.st.tn;obtain⟨X,Y,zX,zY,zXY,_⟩:=Χ (sa:=b.oad) (da:=(kS 167772161 134744072 m n 9 l).dst) (p:=b.opo) (q:=(wordAt (kS 167772161 134744072 m n 9 l).data 2:Int)) (L:=(kS 167772161 134744072 m n 9 l).data.drop 8) c5 (IW _ _) (by rw[q4];omega);have hX8:=X.toNat_lt;have hY8:=Y.toNat_lt;generalize ak:({(kS 167772161 134744072 m n 9 l) with src:=b.oad,data:=Ih b.oad (kS 167772161 134744072 m n 9 l).dst b.opo (wordAt (kS 167772161 134744072 m n 9 l).data 2:Int) false ((kS 167772161 134744072 m n 9 l).data.drop 8)}:jG)=q at hW hr aq ar au;have zX:q.data[0]? =some X:=by rw[<- ak];exact zX
 have zY:q.data[1]? =some Y:=by rw[<- ak];exact zY
 have az:q.src=3325256705:=by rw[<- ak];exact c4
 have lq:q.bytes.length<=2000:=by
  unfold jG.bytes;rw[List.length_append,vX,ar,au,q5];show 20+0+_<=_;omega
 refine O9 aq hr (by omega) λo dd W3 g3 ⟨bo,bd,no,nd⟩=> ?_;refine gq λc W4 r4 e4 z4 g4=> ?_;refine StN_f r4 λW5 r5 g5 z5=> ?_;have y5:Ext W3 W5:=g4.nw g5;have bd5:=bd.ext y5;intro J153;rw[show ((0:Int) !=0)=false from rfl,cond_false];refine Ld_s 10 dd r5 ?_;rw[decide_eq_false (by have:=bd.1;omega)];simp -zeta only[J153];rw[cond_false];have r5:=r5.drew;have bd5:=bd5.ext (Ext.drew W5);refine Ld_i 5 q.src r5 (Ld_s 10 dd r5 ?_);refine six (i:=0) bd5 zX λa3 h3=>iH (k:= .int .u8) (y:=(X.toNat:Int)) h3 (Ld_s 10 dd r5 ?_);refine six (i:=1) bd5 zY λa4 h4=>iH (k:= .int .u8) (y:=(Y.toNat:Int)) h4 ?_;obtain⟨op,hop⟩:∃op:Nat,b.opo=(op:Int):=⟨b.opo.toNat,by omega⟩;rw[Α (n:=(X.toNat:Int)) (by omega) (by omega),Α (n:=(Y.toNat:Int)) (by omega) (by omega),Α (n:=(X.toNat:Int) * 256) (by omega) (by omega),Α,az,show (X.toNat:Int) * 256+(Y.toNat:Int)=(op:Int) by omega];have y6:=g3.trans (y5.trans (Ext.drew W5));have hA5:=hW.ab.ext y6;refine cmS2 (Rj (l:=l) (a:=134744072) (b:=3325256705) (src:=n) (dst:=op) (ttl:=9) (hd.ext (x3.trans hA5.x0)) (by omega) (by omega) (by omega) hn (by omega) (by omega)) ?_;rintro rn W6 ⟨aA,g6,_⟩;obtain⟨_,u2,u3,_,_⟩:=Du (l:=l) (a:=134744072) (b:=3325256705) (src:=n) (dst:=op) (ttl:=8) (by omega) (by omega) hn (by omega) (by omega) (by omega);have fst:∀{i' x2 x6 why:Int} {x8:Bool},ϒ (jW bs bp) e' (kS 134744072 3325256705 n op 8 l) i' x2 x6 x8 why->why=0/\i'=b.sw:=λhI=>
  MF hW.ab hW.gd c1 c3 c6 c7 (by rw[c8];rfl) (by rw[c4];rfl) (by rw[u2,c9]) (by rw[u3,hop]) hI
 rw[<- hW.x.1];refine aap (hA5.ext g6) hW.gd ac (by omega) (by omega) hn (by omega) (by omega) aA (λwhy w' i' x2 x6 x8 ag hI _=>absurd (fst hI).1 ag) λi' x2 x6 x8 u9 r9 W7 hI g7 hb9=> ?_;obtain⟨_,rfl⟩:=fst hI;rw[c2] at hb9;intro J167;rw[show ((0:Int) !=0)=false from rfl,cond_false,hb9.len];show cond false _ _;rw[cond_false];refine WO hb9 λa5 d5 _=>iH (k:= .int .i64) (y:=(k:Int)) d5 ?_;rw[show ((k:Int) !=(k:Int))=false by simp];simp -zeta only[J167];rw[cond_false,Α];have y7:=y6.trans (g6.trans g7);refine R _ _ ⟨k+1,A',e',by omega,rfl,⟨hW.ab.ext y7,hW.x.1,hW.gd,ah,λj b2 hj=> ?_⟩,ai.ext y7,aj⟩ (by simp only;omega);rcases cU j b2 hj with h|⟨rfl,rfl⟩
 ·exact hL.sw j b2 h
 ·exact c2
end Go.Proofs.AN
end
section
namespace Go.Proofs.YtdmbjlliegbpcaaGreatDoor
theorem aco {P:Program} {c:OpenClaim} (hs:c.start= .entering) (h:P.funcs.any Func.goes=false):false=c.goesBy P:=by
 unfold OpenClaim.goesBy Program.goesAt Program.goesFrom;rw[hs];have hg:∀f,P.goes f=false:=by
  intro f;unfold Program.goes;rw[h,Bool.and_false,Bool.or_false,List.any_eq_false];intro g _
  cases e:P.funcs[g]? with
  |none=>simp
  |some fn=>
   have:=Array.any_eq_false'.1 h fn (Array.mem_of_getElem? e);simpa using this
 cases P.funcNamed c.func with
 |none=>rfl
 |some f=>simp[hg]
theorem aev:υ.funcs.any Func.goes=false:=by kernel_rfl
end Go.Proofs.YtdmbjlliegbpcaaGreatDoor
end
