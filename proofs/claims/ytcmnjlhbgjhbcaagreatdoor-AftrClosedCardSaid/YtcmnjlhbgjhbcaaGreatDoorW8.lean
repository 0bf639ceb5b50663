import Derived.Test.YtcmnjlhbgjhbcaaGreatDoorW7
import Derived.Test.YtcmnjlhbgjhbcaaGreatDoorW5
import Derived.Test.YtcmnjlhbgjhbcaaGreatDoorW3
import Derived.Test.YtcmnjlhbgjhbcaaGreatDoorW2
open List (foldl_cons getElem?_map length_take mem_cons take_length take_of_length_le take_succ_eq_append_getElem)
open Nat (add_mul)
set_option maxRecDepth 100000
set_option maxHeartbeats 2000000
section
namespace Go.Proofs.EN
open Gp Go.Proofs
open Gp.Bind (Bnd Slots live GoodB In64)
variable {w w':World} {a:EA} {c:Cf} {e:ES}
def eB (b:Bnd):List Value:=[.int .i64 b.sw,.int .i64 b.pr,.int .i64 b.ad,.int .i64 b.po,.int .i64 b.opr,.int .i64 b.oad,.int .i64 b.opo,.bool b.st]
theorem aat (b:Bnd):(eB b).length=8:=rfl
theorem akQ (b:Bnd):∀v∈eB b,iC v=true:=by
 intro v hv;simp only[eB,mem_cons,List.not_mem_nil,or_false] at hv;rcases hv with rfl|rfl|rfl|rfl|rfl|rfl|rfl|rfl<;>rfl
def eS (b:Gp.Ses.Ses):List Value:=[.int .i64 b.bd,.int .i64 b.st,.int .i64 b.un,.int .i64 b.ra,.int .i64 b.rp]
theorem aau (b:Gp.Ses.Ses):(eS b).length=5:=rfl
theorem akS (b:Gp.Ses.Ses):∀v∈eS b,iC v=true:=by
 intro v hv;simp only[eS,mem_cons,List.not_mem_nil,or_false] at hv;rcases hv with rfl|rfl|rfl|rfl|rfl<;>rfl
def OZ (x:Int):Value:= .int .i64 x
theorem eqN (a b:Int):DJ Tryz.prog 16 3 (OZ a) (OZ b)=some (decide (a=b)):=WN.eqW a b
theorem amX (a:Int):nS Tryz.prog 3 (OZ a)=true:=WN.aor a
def plk (l:List (Int×Bnd)) (k:Int):Option Int:=(l.zipIdx.reverse.find? λx=>x.1.1==k).map λx=>(x.2:Int)
theorem af2 (l:List (Int×Bnd)) (x:Int×Bnd) (k:Int):plk (l++[x]) k=if k=x.1 then some (l.length:Int) else plk l k:=by
 unfold plk;rw[List.zipIdx_append,List.reverse_append];simp only[List.zipIdx_cons,List.zipIdx_nil,List.reverse_cons,List.reverse_nil,List.nil_append,List.singleton_append,List.find?_cons];by_cases h:k=x.1
 ·subst h;simp
 ·have:(x.1==k)=false:=by simpa using λe=>h e.symm
  simp[this,h]
def SL (e:ES):List Gp.Ses.Ses:=(Gp.Ses.live 0 e.SS).map λx=>{x.2 with bd:=(plk (live 0 e.S) x.2.bd).getD 0}
theorem aha (d:Nat) (w:World) {K:Value->b_} (h:∀f w',Row w' f [.pointer (some ⟨d,0,none⟩)]->f=w.heap.size->w'.heap.size=f+1->Ext w w'->K (Value.func (.func Eu) #[] #[(Value.pointer (some ⟨f,0,none⟩))]) w'):Cc (some ⟨d,0,none⟩) w K:=by
 apply Rx;exact⟨rfl,fP λf w1 r1 e1 z1 f1=>h f w1 r1 e1 z1 f1⟩
theorem aix (d:Nat) (w:World) {K:Value->b_} (h:∀f w',Row w' f [.pointer (some ⟨d,0,none⟩)]->f=w.heap.size->w'.heap.size=f+1->Ext w w'->K (Value.func (.func wE) #[] #[(Value.pointer (some ⟨f,0,none⟩))]) w'):rM (some ⟨d,0,none⟩) w K:=by
 apply F9;exact⟨rfl,fP λf w1 r1 e1 z1 f1=>h f w1 r1 e1 z1 f1⟩
theorem ZN (h:P5 w a c e):jP (some ⟨a.d,0,none⟩) w λn w'=>n=(e.l.length:Int)/\w'=w:=WN.aiG h.wh.wm
def vwC (now:Nat) (bs ss:eY) (t:Nat):List Value:=[.int .i64 (now:Int),.slice bs.a bs.len bs.cap,.slice ss.a ss.len ss.cap,.int .i64 0,.int .i64 0,.int .i64 (t:Int),.slice none 0 0]
def Y7:eY:=⟨none,0,0⟩
theorem take_succ {α:Type} {l:List α} {i:Nat} {x:α} (h:l[i]? =some x):l.take (i+1)=l.take i++[x]:=by
 obtain⟨hi,hx⟩:=List.getElem?_eq_some_iff.1 h;rw[take_succ_eq_append_getElem hi,hx]
theorem aiE (h:P5 w a c e) (hsz:e.S.length<=4096/\e.SS.length<=4096) {K:Int->eY->eY->Int->Int->Int->eY->b_}
  (hK:∀bs ss w',Ext w w'->jB 8 eB w' bs ((live 0 e.S).map (·.2))->jB 5 eS w' ss (SL e)->(∀b,eY.at bs b->w.heap.size<=b)->(∀b,eY.at ss b->w.heap.size<=b)->K (e.now:Int) bs ss 0 0 (e.l.length:Int) Y7 w'):
  uh (some ⟨a.x,0,none⟩) w K:=by
 apply Ij;refine fP λr w1 r1 e1 z1 f1=> ?_;have h1:=h.ext f1;refine qE (MX h1) ?_;rintro _ w1 ⟨rfl,hw⟩;subst hw;rw[Bool.not_true,cond_false];intro J;have hJ:∀vb W,Ext w1 W->Row W vb (vwC e.now Y7 Y7 e.l.length)->w1.heap.size<=vb->J ⟨vb,0,none⟩ W:=by
  intro vb W hW hv hvb;simp only[J];refine SN.J5 (enc:=OZ) (ev:=OZ) λw2 m2 z2 f2=> ?_;refine fP λq w3 r3 e3 z3 f3=> ?_;refine gB r3 rfl (by simp) λw4 r4 f4' z4=> ?_;have f4:fV w3 w4 (·=q):=f4' _ rfl;simp only[List.set_cons_zero] at r4;have hvl:=hv.lt;have x4:Ext W w4:=(f2.trans f3).new f4 λy hy e=>by omega
  have m4:=(m2.ext f3).fr f4 (by omega);have h4:=h1.ext (hW.trans x4);have v4:=hv.ext x4;refine jc.2 (fJ (k:= .ptr) (i:=2) (x:=some ⟨a.B.d,0,none⟩) h4.hd rfl ?_);refine aha a.B.d w4 λf w5 r5 e5 z5 f5=> ?_;have h5:=h4.ext f5;have m5:=m4.ext f5;have v5:=v4.ext f5;have q5:=r4.ext f5;have zW:w1.heap.size<=W.heap.size:=hW.size;have z14:W.heap.size+2<=w4.heap.size/\q<w4.heap.size/\W.heap.size<q:=by omega
  have j:∀k b,own a k b->b<w1.heap.size:=λk b hb=>Nat.lt_of_lt_of_le (h.lt k b hb) f1.size;have hla:jU none w5=w5.heap.size+1:=rfl;have hmp:W.heap.size≠q/\W.heap.size≠vb/\q≠vb:=by omega
  refine tN (Go.Proofs.P9 c.nb.toNat e.S e.Mi e.Mo a.B f) (λi X=>∃bs M,Row X vb (vwC e.now bs Y7 e.l.length)/\jB 8 eB X bs (((live 0 e.S).map (·.2)).take i)/\nU OZ OZ X W.heap.size M/\(∀k,yE M k=plk ((live 0 e.S).take i) k)/\
    fV w5 X (λb=>b=vb\/b=W.heap.size)/\(∀b,eY.at bs b->jU none w5<b)/\w5.heap.size+2<=X.heap.size)
   (λ_ _=>False) (by simp) ?_ ?_ ?_ (by intro e W W' h;exact h.elim) (by intro e W h;exact h.elim) ?_ ?_ (by intro W h;exact h.elim) (by intro id W h;exact h.elim)
  ·intro X hX hz;refine⟨Y7,[],v5.ext hX,by simpa [Y7] using jB.nil,m5.ext hX,λk=>rfl,hX _,(λb ⟨o,hb⟩=>by cases hb),by omega⟩
  ·rintro i X ⟨bs,M,h1,h2,h3,h4',h5',h6,h7⟩;have hn:∀b,b<w1.heap.size->¬(b=vb\/b=W.heap.size):=λb hb e=>by omega
   exact⟨r5.fr h5' (by omega),(h5.db).fr h5' λb hb=>hn b (j 3 b hb)⟩
  ·rintro i X X' ⟨bs,M,h1,h2,h3,h4',h5',h6,h7⟩ hf;exact⟨bs,M,h1.fr hf (by omega),h2.fr hf λb hb e=>by have:=h6 b hb;omega,h3.fr hf (by omega),h4',h5'.trans hf λb hb e=>by omega,h6,by have:=hf.size;omega⟩
  ·rintro i x X Kb hx ⟨bs,M,h1,h2,h3,h4',h5',h6,h7⟩ aa hk _;rw[show yD (live 0 e.S)=(live 0 e.S).map _ from rfl,getElem?_map] at hx
   cases hb:(live 0 e.S)[i]? with
   |none=>rw[hb] at hx;simp at hx
   |some p=>
   rw[hb] at hx;simp only[Option.map_some,Option.some.injEq] at hx;subst hx;have am:i<(live 0 e.S).length:=(List.getElem?_eq_some_iff.1 hb).1;have an:=Gp.Bind.qH e.S 0;have ak:bs.len=i:=by rw[(h2.sl aat (by omega)).len,length_take,List.length_map];omega
   refine fP λu w6 r6 e6 z6 f6=> ?_;refine fK r6 rfl rfl λw7 r7 f7' z7=> ?_;have x7:Ext X w7:=f6.new (f7' (·=u) rfl) λy hy e=>by omega
   refine⟨(x7 λ_=>False).same _ aa (by simp),?_⟩;have fb:=fV.fF w7 (jU none w5);have zb:(fF w7 (jU none w5)).heap.size=w7.heap.size:=by simp[fF]
   have hX7:=x7.size;have v8:=(h1.ext x7).fr fb (by omega);have b8:=(h2.ext x7).fr fb λb hb e=>by have:=h6 b hb;omega
   have m8:=(h3.ext x7).fr fb (by omega);have q8:=((q5.fr h5' (by omega)).ext x7).fr fb (by omega);have u8:=r7.fr fb (by omega);refine fJ (k:= .map) (i:=0) (x:=some W.heap.size) q8 rfl (fJ (k:= .slice) (i:=1) (x:=bs) v8 rfl ?_);refine XZ (enc:=OZ) (ev:=OZ) m8 eqN p.1 (bs.len:Int) (amX _) λw9 m9 f9 z9=> ?_;have v9:=v8.fr f9 (by omega);have b9:=b8.fr f9 λb hb e=>by have:=h6 b hb;omega
   have u9:=u8.fr f9 (by omega);refine fJ (k:= .slice) (i:=1) (x:=bs) v9 rfl ?_;simp only[sx,u9.cell];refine fP λy U Z e10 ao f10=> ?_;have sl:lV 8 eB U ⟨some ⟨y,0,none⟩,1,1⟩ [p.2]:=(jB.row (xs:=[p.2]) (by simpa [eB] using Z)).sl aat (by omega);refine tX aat (b9.ext f10) sl rfl (by omega) akQ (by simp;omega) (by simp;omega) λs' ab aq f11 ar=> ?_;have ac:¬eY.at bs vb:=λhb=>by have:=h6 vb hb;omega
   have au:¬eY.at bs W.heap.size:=λhb=>by have:=h6 _ hb;omega
   have av:=(v9.ext f10).fr f11 ac;have m11:=(m9.ext f10).fr f11 au;refine gB av rfl (by simp[vwC]) λI aw ae z12=> ?_;have f12:fV ab I (·=vb):=ae _ rfl;have hs':∀b,eY.at s' b->jU none w5<b:=λb hb=>by
    rcases ar b hb with h|h
    ·exact h6 b h
    ·omega
   have fr:fV (fF X (jU none w5)) I (λb=>b=vb\/b=W.heap.size\/eY.at bs b):=by
    have g1:fV (fF X (jU none w5)) w9 (λb=>b=vb\/b=W.heap.size\/eY.at bs b):=(CN.BA (x7 _) _).trans f9 λb _ hb=> .inr (.inl hb);exact((g1.ext f10).trans f11 λb _ hb=> .inr (.inr hb)).trans f12 λb _ hb=> .inl hb
   refine hk I _ fr ?_ ⟨s',_,?_,?_,m11.fr f12 (by omega),?_,?_,hs',?_⟩
   ·rintro b hb1 hb2 (h|h|h)
    ·omega
    ·omega
    ·have:=h6 b h;omega
   ·exact aw
   ·have af:((live 0 e.S).map (·.2)).take (i+1)=((live 0 e.S).map (·.2)).take i++[p.2]:=take_succ (by rw[getElem?_map,hb];rfl);rw[af];exact aq.fr f12 λb hb e=>by have:=hs' b hb;omega
   ·intro k;rw[amY,take_succ hb,af2,h4',length_take,ak,Nat.min_eq_left (by omega)]
   ·refine(h5'.trans (fV.fF X _) λb hb e=>by omega).trans fr ?_;rintro b hb (h|h|h)
    ·exact .inl h
    ·exact .inr h
    ·have:=h6 b h;omega
   ·have:=fr.size;have ax:(fF X (jU none w5)).heap.size=X.heap.size:=by simp[fF]
    omega
  ·rintro X ⟨bs,M,b1,b2,b3,b4,b5,b6,b7⟩ hm;have ag:(yD (live 0 e.S)).length=(live 0 e.S).length:=by simp[yD]
   rw[ag] at b2 b4;rw[take_of_length_le (by simp)] at b2;rw[take_length] at b4;have hn:∀b,b<w1.heap.size->¬(b=vb\/b=W.heap.size):=λb hb e=>by omega
   have hX:=h5.fr b5 λk b hb=>hn b (j k b hb);refine jc.2 (fJ (k:= .ptr) (i:=3) (x:=some ⟨a.T.d,0,none⟩) hX.hd rfl ?_);refine aix a.T.d X λf' w6 r6 e6 z6 f6=> ?_;have hla':jU none w6=w6.heap.size+1:=rfl;have h6:=hX.ext f6;have m6:=b3.ext f6;have v6:=b1.ext f6;have q6:=(q5.fr b5 (by omega)).ext f6;have hm6:w6.heap[w5.heap.size]? =some (.deferred (some [])):=by
    rw[(f6 λ_=>False).same _ (by omega) (by simp)];exact hm rfl
   have hviewl:(SL e).length=(Gp.Ses.live 0 e.SS).length:=by simp[SL]
   have hlen6:X.heap.size<=w6.heap.size:=f6.size;refine tN (SN.P9 c.ns.toNat e.SS e.M a.T f') (λi Y=>∃ss,Row Y vb (vwC e.now bs ss e.l.length)/\jB 5 eS Y ss ((SL e).take i)/\fV w6 Y (λb=>b=vb)/\(∀b,eY.at ss b->jU none w6<b)/\w6.heap.size+2<=Y.heap.size)
    (λ_ _=>False) (by simp) ?_ ?_ ?_ (by intro e W W' h;exact h.elim) (by intro e W h;exact h.elim) ?_ ?_ (by intro W h;exact h.elim) (by intro id W h;exact h.elim)
   ·intro Y hY hz;exact⟨Y7,v6.ext hY,by simpa [Y7] using jB.nil,hY _,(λb ⟨o,hb⟩=>by cases hb),by omega⟩
   ·rintro i Y ⟨ss,g1,g2,g3,g4,g5⟩;exact⟨r6.fr g3 (by omega),(h6.se).fr g3 λb hb e=>by have:=j 4 b hb;omega⟩
   ·rintro i Y Y' ⟨ss,g1,g2,g3,g4,g5⟩ hf;exact⟨ss,g1.fr hf (by omega),g2.fr hf λb hb e=>by have:=g4 b hb;omega,g3.trans hf λb hb e=>by omega,g4,by have:=hf.size;omega⟩
   ·rintro i x Y Kb hx ⟨ss,g1,g2,g3,g4,g5⟩ aa hk _;rw[show SN.yS (Gp.Ses.live 0 e.SS)=(Gp.Ses.live 0 e.SS).map _ from rfl,getElem?_map] at hx
    cases hb:(Gp.Ses.live 0 e.SS)[i]? with
    |none=>rw[hb] at hx;simp at hx
    |some p=>
    rw[hb] at hx;simp only[Option.map_some,Option.some.injEq] at hx;subst hx;have am:i<(Gp.Ses.live 0 e.SS).length:=(List.getElem?_eq_some_iff.1 hb).1;have an:=Gp.Ses.qH e.SS 0;have ak:ss.len=i:=by rw[(g2.sl aau (by omega)).len,length_take];omega
    refine fP λu w7 r7 e7 z7 f7=> ?_;refine fK r7 rfl rfl λw8 r8 f8' z8=> ?_;have x8:Ext Y w8:=f7.new (f8' (·=u) rfl) λy hy e=>by omega
    refine⟨(x8 λ_=>False).same _ aa (by simp),?_⟩;have fb:=fV.fF w8 (jU none w6);have zb:(fF w8 (jU none w6)).heap.size=w8.heap.size:=by simp[fF]
    have hY8:=x8.size;have v9:=(g1.ext x8).fr fb (by omega);have b9:=(g2.ext x8).fr fb λb hb e=>by have:=g4 b hb;omega
    have m9:=((m6.fr g3 (by omega)).ext x8).fr fb (by omega);have q9:=((q6.fr g3 (by omega)).ext x8).fr fb (by omega);have u9:=r8.fr fb (by omega);refine fJ (k:= .map) (i:=0) (x:=some W.heap.size) q9 rfl (fJ (k:= .int .i64) (i:=0) (x:=p.2.bd) u9 rfl ?_);have z:∀Q:Int->Prop,Q ((plk (live 0 e.S) p.2.bd).getD 0)->zQ Tryz.prog 3 (.int .i64) (some W.heap.size) (Value.int .i64 p.2.bd) (Value.int .i64 0) (fF w8 (jU none w6)) Q:=by
     intro Q hQ;refine aee (k:= .int .i64) (enc:=OZ) (ev:=OZ) m9 eqN p.2.bd (amX _) (λhn=> ?_) (λb hb=> ?_)
     ·rw[b4] at hn;rw[hn] at hQ;simp only[fD];exact hQ
     ·rw[b4] at hb;rw[hb] at hQ;simp only[OZ,fD];exact hQ
    refine z _ ?_;refine gB u9 rfl (by simp) λU Z ah ao=> ?_;have f10:fV (fF w8 (jU none w6)) U (·=u):=ah _ rfl;simp only[List.set_cons_zero] at Z;have al:=v9.fr f10 (by omega);have ay:=b9.fr f10 λb hb e=>by have:=g2.lt hb;omega
    refine fJ (k:= .slice) (i:=2) (x:=ss) al rfl ?_;simp only[sx,Z.cell];refine fP λy ab az e11 z11 f11=> ?_;have sl:lV 5 eS ab ⟨some ⟨y,0,none⟩,1,1⟩ [({p.2 with bd:=(plk (live 0 e.S) p.2.bd).getD 0}:Gp.Ses.Ses)]:=(jB.row (xs:=[({p.2 with bd:=(plk (live 0 e.S) p.2.bd).getD 0}:Gp.Ses.Ses)]) (by simpa [eS] using az)).sl aau (by omega);refine tX aau (ay.ext f11) sl rfl (by omega) akS (by simp;omega) (by simp;omega) λs' I aA f12 aB=> ?_;have ac:¬eY.at ss vb:=λhb=>by have:=g4 vb hb;omega
    have v12:=(al.ext f11).fr f12 ac;refine gB v12 rfl (by simp[vwC]) λai aC aj z13=> ?_;have f13:fV I ai (·=vb):=aj _ rfl;have hs':∀b,eY.at s' b->jU none w6<b:=λb hb=>by
     rcases aB b hb with h|h
     ·exact g4 b h
     ·omega
    have fr:fV (fF Y (jU none w6)) ai (λb=>b=vb\/eY.at ss b):=by
     have g1:fV (fF Y (jU none w6)) U (λb=>b=vb\/eY.at ss b):=(CN.BA (x8 _) _).trans f10 λb hb e=>by(have:(fF Y (jU none w6)).heap.size=Y.heap.size:=by simp[fF]);omega
     exact((g1.ext f11).trans f12 λb _ hb=> .inr hb).trans f13 λb _ hb=> .inl hb
    refine hk ai _ fr ?_ ⟨s',aC,?_,?_,hs',?_⟩
    ·rintro b hb1 hb2 (h|h)
     ·omega
     ·have:=g4 b h;omega
    ·have af:(SL e).take (i+1)=(SL e).take i++[({p.2 with bd:=(plk (live 0 e.S) p.2.bd).getD 0}:Gp.Ses.Ses)]:=take_succ (by unfold SL;rw[getElem?_map,hb];rfl);rw[af];exact aA.fr f13 λb hb e=>by have:=hs' b hb;omega
    ·refine(g3.trans (fV.fF Y _) λb hb e=>by omega).trans fr ?_;rintro b hb (h|h)
     ·exact h
     ·have:=g4 b h;omega
    ·have:=fr.size;have ax:(fF Y (jU none w6)).heap.size=Y.heap.size:=by simp[fF]
     omega
   ·rintro Y ⟨ss,g1,g2,g3,g4,g5⟩ hm';have ag:(SN.yS (Gp.Ses.live 0 e.SS)).length=(Gp.Ses.live 0 e.SS).length:=by simp[SN.yS]
    rw[ag,take_of_length_le (by omega)] at g2;simp only[sx,g1.cell,vwC];have zz:=x4.size;have rr:Row Y r _:=((((r1.ext hW).ext (x4.trans f5)).fr b5 (by omega)).ext f6).fr g3 (by omega);refine fK rr rfl rfl λw7 r7 f7' z7=> ?_;have f7:fV Y w7 (·=r):=f7' _ rfl;have hm7:w7.heap[w6.heap.size]? =some (.deferred (some [])):=by
     rw[f7.same _ (by omega) (by omega)];exact hm' rfl
    have fp1:=fV.jh w7 w6.heap.size (.deferred none);have fp2:=fV.jh (w7.putObj w6.heap.size (.deferred none)) w5.heap.size (.deferred none);refine⟨hm7,?_,?_⟩
    ·have e1:(w7.putObj w6.heap.size (.deferred none)).heap[w5.heap.size]? =w7.heap[w5.heap.size]? :=fp1.same _ (by omega) (by omega);rw[e1,f7.same _ (by omega) (by omega),g3.same _ (by omega) (by omega)];exact hm6
    have r9:=(r7.fr fp1 (by omega)).fr fp2 (by omega);simp only[sx,r9.cell];refine hK bs ss _ ?_ ?_ ?_ ?_ ?_
    ·have q1:Ext w w5:=(f1.trans hW).trans (x4.trans f5);have q2:Ext w X:=q1.new b5 λb hb e=>by have:=f1.size;omega
     have q3:Ext w Y:=(q2.trans f6).new g3 λb hb e=>by have:=f1.size;omega
     have q4:Ext w w7:=q3.new f7 λb hb e=>by omega
     exact(q4.new fp1 λb hb e=>by have:=q2.size;omega).new fp2 λb hb e=>by have:=q1.size;omega
    ·have t1:=(b2.ext f6).fr g3 λb hb e=>by have:=b6 b hb;omega
     exact((t1.fr f7 λb hb e=>by have:=b6 b hb;omega).fr fp1 λb hb e=>by have:=b2.lt hb;omega).fr fp2 λb hb e=>by have:=b6 b hb;omega
    ·exact((g2.fr f7 λb hb e=>by have:=g4 b hb;omega).fr fp1 λb hb e=>by have:=g4 b hb;omega).fr fp2 λb hb e=>by have:=g4 b hb;omega
    ·intro b hb;have:=b6 b hb;have:=f1.size;omega
    ·intro b hb;have:=g4 b hb;have:=f1.size;omega
 clear_value J;have hd:=h1.ext (Ext.drew w1);have c41:=hd.c41;have c4:=hd.c4;simp only[sx,c41,c4];refine⟨?_,?_⟩
 ·refine Ar (ZN hd) ?_;rintro n w2 ⟨rfl,hw2⟩;subst hw2;refine⟨c41,fP λvb w3 r3 e3 z3 f3=> ?_⟩;refine⟨yh c4 f3,yh c41 f3,?_⟩;refine fK r3 rfl rfl λw4 r4 f4' z4=> ?_;have aD:w1.drew.heap.size=w1.heap.size:=rfl;exact hJ vb w4 (((Ext.drew w1).trans f3).new (f4' (·=vb) rfl) λy hy e=>by omega) r4 (by omega)
 ·refine fP λvb w3 r3 e3 z3 f3=> ?_;refine⟨yh c4 f3,yh c41 f3,?_⟩;refine Ar (ZN (hd.ext f3)) ?_;rintro n w2 ⟨rfl,hw2⟩;subst hw2;refine⟨yh c41 f3,?_⟩;refine fK r3 rfl rfl λw4 r4 f4' z4=> ?_;have aD:w1.drew.heap.size=w1.heap.size:=rfl;exact hJ vb w4 (((Ext.drew w1).trans f3).new (f4' (·=vb) rfl) λy hy e=>by omega) r4 (by omega)
end Go.Proofs.EN
end
section
open List (length_cons)
namespace Gp.V4
theorem ak0 (l:List UInt8):∀n:Nat,l.foldl (λn b=>n * 256+b.toNat) n=n * 256^l.length+AP l:=by
 induction l with
 |nil=>intro n;simp[AP]
 |cons b l ih=>
  intro n;simp only[foldl_cons,AP,length_cons];rw[ih,ih (0 * 256+b.toNat)];rw[Nat.pow_succ,add_mul,add_mul,<- Nat.mul_assoc,Nat.mul_right_comm];omega
theorem aaU (b:UInt8) (l:List UInt8):AP (b::l)=b.toNat * 256^l.length+AP l:=by
 show (b::l).foldl _ 0=_;rw[foldl_cons,ak0];simp
theorem Rt (l:List UInt8):AP l<256^l.length:=by
 induction l with
 |nil=>simp[AP]
 |cons b l ih=>
  rw[aaU,length_cons,Nat.pow_succ];have:=b.toNat_lt;have h2:b.toNat * 256^l.length<=255 * 256^l.length:=Nat.mul_le_mul_right _ (by omega);omega
theorem abn:∀l:List UInt8,tot l<=65535 * l.length
 |[]=>by simp[tot]
 |[a]=>by have:=a.toNat_lt;simp[tot];omega
 |a::b::r=>by
  have:=a.toNat_lt;have:=b.toNat_lt;have:=abn r;simp only[tot,length_cons];omega
theorem SI:∀(l m:List UInt8),l.length % 2=0->tot (l++m)=tot l+tot m
 |[],m,_=>by simp[tot]
 |[a],m,h=>by simp at h
 |a::b::r,m,h=>by
  simp only[List.cons_append,tot];rw[SI r m (by simp at h;omega)];omega
theorem ahn (n:Nat):fold n<65536:=by unfold fold;split<;>omega
theorem aaC {n:Nat} (h:n<65536):fold n=n:=by unfold fold;split<;>omega
theorem ade {n:Nat} (h:65535<n):fold (n % 65536+n / 65536)=fold n:=by
 unfold fold;rw[if_neg (by omega),if_neg (by omega)];omega
instance (k:Int):Decidable (kK k):=inferInstanceAs (Decidable (_/\_))
instance (n k:Int):Decidable (jv n k):=inferInstanceAs (Decidable (_/\_))
instance (n:Int):Decidable (pR n):=inferInstanceAs (Decidable (_/\_))
instance (p:lS):Decidable p.fine:=inferInstanceAs (Decidable (_/\_))
instance (p:lS):Decidable p.short:=inferInstanceAs (Decidable (_/\_))
def lS.check (p:lS):Int:=if p.fine then if p.short then 0 else 6 else 1
theorem QT (p:lS) (s:Nat):(p.head s).length=20+p.opts.length:=by
 simp only[lS.head,List.length_append,nV]
def ver (b:List UInt8):Nat:=((b[0]?).getD 0).toNat / 16
def oO (b:List UInt8) (quoted:Bool):Int:=
 if b.length<20 then 3
 else if ver b≠4\/hlen b<20 then 4
 else if b.length<hlen b\/(b.length<num b 2 2/\quoted=false) then 3
 else if num b 2 2<hlen b\/32768<=num b 6 2 then 4
 else 0
def rF (b:List UInt8) (quoted:Bool):Int:=
 if oO b quoted≠0 then oO b quoted
 else if quoted then 0
 else if fold (tot (b.take (hlen b)))≠65535 then 5
 else if (field b).check≠0 then 4
 else 0
def read (b:List UInt8) (quoted:Bool):lS:=if rF b quoted=0 then field b else lS.zero
theorem Am {p:lS} (h:p.check=0):p.fine/\p.short:=by
 unfold lS.check at h;split at h
 ·split at h
  ·exact⟨by assumption,by assumption⟩
  ·omega
 ·omega
theorem aiR {n:Int} (h:jv n 1):0<=n/\n<256:=⟨h.2.1,by have:=h.2.2;simpa using this⟩
theorem head_eq (p:lS) (s:Nat):p.head s=UInt8.ofNat (64+(20+p.opts.length) / 4)::UInt8.ofNat p.tos.toNat::UInt8.ofNat ((20+p.opts.length+p.data.length) / 256)::UInt8.ofNat (20+p.opts.length+p.data.length)::
  UInt8.ofNat (p.id.toNat / 256)::UInt8.ofNat p.id.toNat::UInt8.ofNat (p.bits / 256)::UInt8.ofNat p.bits::UInt8.ofNat p.ttl.toNat::UInt8.ofNat p.proto.toNat::UInt8.ofNat (s / 256)::UInt8.ofNat s::
  UInt8.ofNat (p.src.toNat / 16777216)::UInt8.ofNat (p.src.toNat / 65536)::UInt8.ofNat (p.src.toNat / 256)::UInt8.ofNat p.src.toNat::
  UInt8.ofNat (p.dst.toNat / 16777216)::UInt8.ofNat (p.dst.toNat / 65536)::UInt8.ofNat (p.dst.toNat / 256)::UInt8.ofNat p.dst.toNat::p.opts:=by
 simp[lS.head,oU]
theorem ag0 {p:lS} (h:p.fine):p.bits<32768:=by
 obtain⟨_,_,⟨h1,h2,h3,_⟩,_⟩:=h;unfold lS.bits;split<;>split<;>omega
end Gp.V4
end
section
open List (getElem?_cons_zero)
open Option (map_some)
namespace Go.Proofs.VN
open Gp Gp.V4
theorem MP {e:TypeId} {w:World} {x:eY} {m:List UInt8} (hx:iF w x m) (hl:m.length<=2^46) {K:eY->b_}
  (hK:∀r w',Buf w' r (bytesV m)->(r.a=none↔x.a=none)->Ext w w'->(∀b,eY.at r b->w.heap.size<=b)->K r w'):
  (bif (Option.isNone x.a) then K ⟨none,0,0⟩ w else Al w (.cells ⟨[]⟩ e) λa3 w2=>uQ e 1 1 [(Value.int .u8 0)] ⟨(some a3),0,0⟩ x w2 K):=by
 cases j:x.a with
 |none=>
  simp only[Option.isNone_none,cond_true];have:=hx.empty j;subst this;exact hK _ _ Buf.nil (by simp[j]) (Ext.refl _) λb ⟨o,h⟩=>by cases h
 |some a=>
  simp only[Option.isNone_some,cond_false];refine fP λb w2 r2 e2 _ f2=> ?_;have hx2:=hx.ext f2;refine kU (l:=[]) ⟨rfl,.inr ⟨b,[],rfl,rfl,by simpa [bytesV] using r2⟩⟩ hx2 (by simpa using hl) λs' w' h1 h2 h3 h4=> ?_;refine hK _ _ (by simpa using h1) (by rw[j];exact⟨λh=>by have:=(h4 h).2;simp at this,λh=>by simp at h⟩) (fV.new (Ext.fr f2 h2) ?_) (λc hc=> ?_)
  ·rintro y hy ⟨o,e⟩
   cases e;omega
  ·rcases h3 c hc with ⟨o,e⟩|h
   ·cases e;omega
   ·have:=(f2 λ_=>False).size;omega
theorem lK {w:World} {x:eY} {m:List UInt8} (hx:iF w x m) (hl:m.length<=2^46):
  fQ x w λr w'=>Buf w' r (bytesV m)/\(r.a=none↔x.a=none)/\Ext w w'/\∀b,eY.at r b->w.heap.size<=b:=by
 apply lZ;exact MP (K:=λr w'=>Buf w' r (bytesV m)/\(r.a=none↔x.a=none)/\Ext w w'/\∀b,eY.at r b->w.heap.size<=b) hx hl λr w' h1 h2 h3 h4=>⟨h1,h2,h3,h4⟩
theorem tK (k:Int) (w:World):t_ k w λr w'=>r=decide (kK k)/\w'=w:=by
 apply Ov;by_cases h1:k>=1
 ·by_cases h2:k<=4
  ·have:kK k:=⟨h1,h2⟩;simp[h1,h2,this]
  ·have:¬kK k:=λh=>h2 h.2;simp[h1,h2,this]
 ·have:¬kK k:=λh=>h1 h.1;simp[h1,this]
theorem agb {n:Int} {i:Nat} (hi:i<=7) (hn:0<=n):jy .i64 n (IntKind.i64.wrap (8 * (i:Int)))=((n.toNat / 256^i:Nat):Int):=by
 rw[wrap_i64 (by omega) (by omega)];unfold jy;have e:(2:Int)^(min ((8:Int) * (i:Int)).toNat (IntKind.bits .i64))=((256^i:Nat):Int):=by
  have:i=0\/i=1\/i=2\/i=3\/i=4\/i=5\/i=6\/i=7:=by omega
  rcases this with rfl|rfl|rfl|rfl|rfl|rfl|rfl|rfl<;>decide
 rw[e,Int.fdiv_eq_ediv_of_nonneg _ (Int.natCast_nonneg _),Int.natCast_ediv,Int.toNat_of_nonneg hn]
theorem Sr {n k:Int} (hk:kK k) (hn:0<=n):(jy .i64 n (IntKind.i64.wrap (8 * k))==0)=decide (n<256^k.toNat):=by
 obtain⟨h1,h2⟩:=hk;obtain⟨m,rfl⟩:∃m:Nat,k=(m:Int):=⟨k.toNat,by omega⟩;rw[agb (by omega) hn];have hp:0<256^m:=Nat.pow_pos (by omega);obtain⟨x,rfl⟩:∃x:Nat,n=(x:Int):=⟨n.toNat,by omega⟩;have e:((256:Int)^(m:Int).toNat)=((256^m:Nat):Int):=by simp
 rw[e];simp only[Int.toNat_natCast];by_cases h:x<256^m
 ·have:x / 256^m=0:=Nat.div_eq_of_lt h;have h':((x:Int)<((256^m:Nat):Int)):=by omega
  rw[this];simp only[h',decide_true];rfl
 ·have:1<=x / 256^m:=(Nat.le_div_iff_mul_le hp).2 (by omega);have h':¬((x:Int)<((256^m:Nat):Int)):=by omega
  simp only[h',decide_false,beq_eq_false_iff_ne,ne_eq];omega
theorem qY (n k:Int) (w:World):kH n k w λr w'=>r=decide (jv n k)/\w'=w:=by
 apply Rw;refine E5 (tK k w) ?_;rintro r w1 ⟨rfl,rfl⟩;by_cases hk:kK k
 ·by_cases hn:n>=0
  ·simp only[hk,hn,decide_true,cond_true];refine⟨by have:=hk.1;have:=hk.2;rw[wrap_i64 (by omega) (by omega)];omega,?_,by trivial⟩;rw[Sr hk hn];simp[jv,hk,hn]
  ·simp only[hk,hn,decide_true,decide_false,cond_true,cond_false];have:¬jv n k:=λh=>hn h.2.1;exact⟨by simp[this],by trivial⟩
 ·simp only[hk,decide_false,cond_false];exact⟨by simp[jv,hk],by trivial⟩
theorem Vs {w:World} {s:eY} {l:List UInt8} (h:iF w s l) (hl:l.length<=2^62) (at_ k:Int):uw s at_ k w λr e w'=>w'=w/\
  if ¬kK k\/at_<0 then e=1/\r=⟨none,0,0⟩ else if (l.length:Int)<at_+k then e=3/\r=⟨none,0,0⟩ else e=0/\iF w r ((l.drop at_.toNat).take k.toNat)/\∀a,s.a=some a->r.a=some (a.add at_.toNat):=by
 apply Xg;have hlen:=h.1;refine E5 (tK k w) ?_;rintro r w1 ⟨rfl,rfl⟩;by_cases hk:kK k
 ·have hk1:=hk.1;have hk2:=hk.2;by_cases ha:at_<0
  ·simp only[hk,ha,decide_true,Bool.not_true,cond_true,cond_false];exact⟨by trivial,by simp⟩
  ·have hno:¬(¬kK k\/at_<0):=by rintro(h|h)<;>contradiction
   simp only[hk,ha,decide_true,decide_false,Bool.not_true,cond_false,not_true_eq_false,or_self,if_false];by_cases h1:((s.len:Int)<k)
   ·simp only[h1,decide_true,cond_true];exact⟨by trivial,by rw[if_pos (by omega)];exact⟨by trivial,by trivial⟩⟩
   ·simp only[h1,decide_false,cond_false];rw[wrap_i64 (n:=(s.len:Int) - k) (by omega) (by omega)];by_cases h2:at_>(s.len:Int) - k
    ·simp only[h2,decide_true,cond_true];exact⟨by trivial,by rw[if_pos (by omega)];exact⟨by trivial,by trivial⟩⟩
    ·simp only[h2,decide_false,cond_false];rw[wrap_i64 (n:=at_+k) (by omega) (by omega)];have hcap:=h.2.2;refine⟨by omega,by omega,by omega,by omega,by trivial,?_⟩;rw[if_neg (by omega)];have hc:=h.cut (lo:=at_.toNat) (hi:=(at_+k).toNat) (by omega) (by omega) (at_+k).toNat (Nat.le_refl _) (at_+k).toNat (λe=>by omega);rw[List.drop_take,show (at_+k).toNat - at_.toNat=k.toNat by omega] at hc;refine⟨by trivial,?_,λa j=> ?_⟩
     ·rw[show (at_+k).toNat - at_.toNat=k.toNat by omega];exact hc
     ·have u:¬((at_+k).toNat=at_.toNat):=by omega
      simp only[vW,u,if_false,j,map_some,Nat.mul_one]
 ·simp only[hk,decide_false,Bool.not_false,cond_true];exact⟨by trivial,by simp⟩
theorem Zt {n x:Nat} (hn:n<2^40) (hx:x<256):Xz .i64 (LY .i64 (n:Int) 8) (x:Int)=((n * 256+x:Nat):Int):=by
 have e0:LY .i64 (n:Int) 8=((n * 256:Nat):Int):=by
  unfold LY;have:(2:Int)^(min (8:Int).toNat (IntKind.bits .i64))=256:=by decide
  rw[this,wrap_i64 (by omega) (by omega)];omega
 rw[e0];unfold Xz;have eb:IntKind.bits .i64=64:=rfl;have h1:(BitVec.ofInt (IntKind.bits .i64) ((n * 256:Nat):Int)).toNat=n * 256:=by
  rw[eb,BitVec.toNat_ofInt];omega
 have h2:(BitVec.ofInt (IntKind.bits .i64) (x:Int)).toNat=x:=by
  rw[eb,BitVec.toNat_ofInt];omega
 rw[BitVec.toNat_or,h1,h2];have h3:n * 256|||x=n * 256+x:=by
  have:=Nat.two_pow_add_eq_or_of_lt (i:=8) (b:=x) (by omega) n;rw[show (2:Nat)^8=256 by decide] at this;rw[Nat.mul_comm n 256,this]
 rw[h3,wrap_i64 (by omega) (by omega)]
theorem aaV {l:List UInt8} (h:l.length<=4):AP l<2^32:=by
 have h1:=Rt l;have:(256:Nat)^l.length<=256^4:=Nat.pow_le_pow_right (by omega) h;have e:(256:Nat)^4=4294967296:=by decide
 omega
theorem aaW (l:List UInt8) {i:Nat} (h:i<l.length):AP (l.take (i+1))=AP (l.take i) * 256+l[i].toNat:=by
 unfold AP;rw[take_succ_eq_append_getElem h,List.foldl_append];rfl
def QS (l:List UInt8) (at_ k:Int) (n e:Int):Prop:=
 if ¬kK k\/at_<0 then e=1/\n=0 else if (l.length:Int)<at_+k then e=3/\n=0 else e=0/\n=(num l at_.toNat k.toNat:Int)
theorem WT {w:World} {s:eY} {l:List UInt8} (h:iF w s l) (hl:l.length<=2^62) (at_ k:Int):xK s at_ k w λn e w'=>w'=w/\QS l at_ k n e:=by
 apply adH;refine KH (Vs h hl at_ k) ?_;rintro r e w1 ⟨rfl,hr⟩;have main:∀(m:List UInt8),iF w1 r m->m.length<=4->∀(K:Int->Prop),K (AP m:Int)->iQ (S:=Int×Int×Unit) (λs7 w8 next9=>
   (bif (decide (s7.2.1<(r.len:Int))) then
    iP r 1 s7.2.1 λJ=>Ld (.int .u8) w8 J λU=>0<=(8:Int)/\next9 ((Xz .i64 (LY .i64 s7.1 8) (IntKind.i64.wrap U)),(IntKind.i64.wrap (s7.2.1+1)),()) w8
   else (w8=w1/\K s7.1))) (0,0,()) w1:=by
  intro m hm hm4 K hK;have hml:=hm.1;refine fZ (λst W=>W=w1/\∃i:Nat,i<=m.length/\st.2.1=i/\st.1=(AP (m.take i):Int)) (λst _=>m.length - st.2.1.toNat) ⟨rfl,0,by omega,rfl,rfl⟩ ?_;rintro⟨n,j,⟨⟩⟩ W ⟨rfl,i,hi,rfl,rfl⟩ next z
  by_cases I:i<m.length
  ·have u:((i:Int)<(r.len:Int)):=by omega
   simp only[u,decide_true,cond_true];obtain⟨a,ha,hc⟩:=hm.at_ (List.getElem?_eq_getElem I);refine⟨a,ha,by omega,by omega,?_⟩;simp only[sx,Int.toNat_natCast,Nat.mul_one,hc];refine⟨by omega,?_⟩;have hb:=m[i].toNat_lt;have hn2:AP (m.take i)<2^32:=aaV (by simp;omega);rw[wrap_i64 (n:=((m[i].toNat:Nat):Int)) (by omega) (by omega),Zt (by omega) (by omega),wrap_i64 (by omega) (by omega)];refine z _ _ ⟨rfl,i+1,by omega,by simp,?_⟩ (by simp only;omega);simp only[aaW _ I]
  ·have u:¬((i:Int)<(r.len:Int)):=by omega
   simp only[u,decide_false,cond_false];have:i=m.length:=by omega
   subst this;rw[take_length];exact⟨trivial,hK⟩
 by_cases c1:¬kK k\/at_<0
 ·rw[if_pos c1] at hr;obtain⟨rfl,rfl⟩:=hr;exact main [] iF.nil (by simp) (λn=>QS l at_ k n 1) (by unfold QS;rw[if_pos c1];exact⟨rfl,rfl⟩)
 ·rw[if_neg c1] at hr;by_cases c2:(l.length:Int)<at_+k
  ·rw[if_pos c2] at hr;obtain⟨rfl,rfl⟩:=hr;exact main [] iF.nil (by simp) (λn=>QS l at_ k n 3) (by unfold QS;rw[if_neg c1,if_pos c2];exact⟨rfl,rfl⟩)
  ·rw[if_neg c2] at hr;obtain⟨rfl,hr,_⟩:=hr;refine main _ hr ?_ (λn=>QS l at_ k n 0) (by unfold QS;rw[if_neg c1,if_neg c2];exact⟨rfl,rfl⟩);have hk:kK k:=Classical.byContradiction λh=>c1 (.inl h);have:=hk.2;simp;omega
theorem ahr {l:List UInt8} {at_ k:Nat} {n e:Int} (hk:1<=k/\k<=4) (h:at_+k<=l.length) (hr:QS l at_ k n e):n=(num l at_ k:Int):=by
 unfold QS at hr;rw[if_neg (by unfold kK;omega),if_neg (by omega)] at hr;simpa using hr.2
def yB (l:List UInt8):List (zM [.one (.int .u8)]):=l.map λb=>((b.toNat:Int),())
theorem SV (l:List UInt8) (i:Nat):(yB l)[i]? =(l[i]?).map λb=>((b.toNat:Int),()):=by simp[yB]
theorem Kw:∀(k n i:Nat),i<k->(oU k n)[i]? =some (UInt8.ofNat (n / 256^(k - 1 - i)))
 |0,_,_,h=>by omega
 |k+1,n,0,_=>by simp[oU]
 |k+1,n,i+1,h=>by
  simp only[oU,List.getElem?_cons_succ];rw[Kw k n i (by omega),show k+1 - 1 - (i+1)=k - 1 - i by omega]
theorem Fq {n:Int} {k f0 f1:Nat} (hk:k<=4) (hn:0<=n):
  lX Tryz.prog [.one (.int .u8)] (Value.func (.func IK) #[] #[(Value.pointer (some ⟨f0,0,none⟩)),(Value.pointer (some ⟨f1,0,none⟩))])
   (λW=>Row W f0 [.int .i64 (k:Int)]/\Row W f1 [.int .i64 n]) (yB (oU k n.toNat)):=by
 refine⟨by kernel_rfl,λl Q D hC hQ hD hy w h0=> ?_⟩;refine Calls.mono (FQ (a0:= .func (.yield l) #[] #[]) (f0:=⟨f0,0,none⟩) (f1:=⟨f1,0,none⟩) (K:=λw'=>Q (yB (oU k n.toNat)).length w'\/D w') ?_) (λe w' h=>h);have hlen:(yB (oU k n.toNat)).length=k:=by simp[yB,nV]
 obtain⟨r0,_⟩:=hC _ _ h0;simp only[sx,getElem?_cons_zero,r0.cell];rw[hlen];refine fZ (λst W=>∃i:Nat,i<=k/\st.1=(k:Int) - 1 - i/\Q i W) (λst _=>(st.1+1).toNat) ⟨0,by omega,by rw[wrap_i64 (by omega) (by omega)];simp,h0⟩ ?_;rintro⟨x,⟨⟩⟩ W ⟨i,hi,hx,hq⟩ next u
 simp only at hx;by_cases z:i<k
 ·have hx0:x>=0:=by omega
  obtain⟨_,r1⟩:=hC _ _ hq;simp only[hx0,decide_true,cond_true,cond_true,getElem?_cons_zero,fC,fD,r1.cell];refine⟨by rw[wrap_i64 (by omega) (by omega)];omega,?_⟩;obtain⟨j,rfl⟩:∃j:Nat,x=(j:Int):=⟨x.toNat,by omega⟩;rw[agb (by omega) hn];have hj:j=k - 1 - i:=by omega
  have e:IntKind.u8.wrap ((n.toNat / 256^j:Nat):Int)=(((UInt8.ofNat (n.toNat / 256^j)).toNat:Nat):Int):=by
   rw[IntKind.wrap_u8];simp
  rw[e];refine kC (hy i ((((UInt8.ofNat (n.toNat / 256^j)).toNat:Nat):Int),()) W _ ?_ hq ?_ ?_)
  ·rw[SV,Kw _ _ _ z,<- hj];rfl
  ·intro W' hq';refine⟨true,rfl,?_⟩;simp only[Bool.not_true,cond_false];rw[wrap_i64 (by omega) (by omega)];exact u _ _ ⟨i+1,by omega,by simp only;omega,hq'⟩ (by simp only;omega)
  ·intro W' hd;refine⟨false,rfl,?_⟩;simp only[Bool.not_false,cond_true];exact .inr hd
 ·have hx0:¬x>=0:=by omega
  simp only[hx0,decide_false,cond_false];have:i=k:=by omega
  subst this;exact .inl hq
def Gv (w0 w:World) (v:Value) (l:List UInt8):Prop:=
 ∃C,lX Tryz.prog [.one (.int .u8)] v C (yB l)/\∀W S,fV w W S->(∀b,w0.heap.size<=b->b<w.heap.size->¬S b)->C W
theorem GK {n k:Int} (hk:kK k) (hn:0<=n) (w:World):qj n k w λv w'=>Ext w w'/\Gv w w' v (oU k.toNat n.toNat):=by
 apply Lu;refine⟨rfl,fP λa w1 r1 e1 z1 f1=>⟨rfl,fP λb w2 r2 e2 z2 f2=> ?_⟩⟩;have r1':=r1.ext f2;obtain⟨m,rfl⟩:∃m:Nat,k=(m:Int):=⟨k.toNat,by have:=hk.1;omega⟩;refine⟨f1.trans f2,_,Fq (by have:=hk.2;omega) hn,λW S hf hs=>⟨r2.fr hf (hs _ ?_ ?_),r1'.fr hf (hs _ ?_ ?_)⟩⟩<;>omega
theorem yX {w0 w:World} {s:eY} {v:Value} {l m:List UInt8} (hs:Buf w s (bytesV l)) (hv:Gv w0 w v m) (hd:∀b,eY.at s b->¬(w0.heap.size<=b/\b<w.heap.size)) (hl:l.length+m.length<=2^46):
  iD s v w λr w'=>Buf w' r (bytesV (l++m))/\fV w w' (eY.at s)/\(∀b,eY.at r b->eY.at s b\/w.heap.size<=b)/\(r.a=none->l++m=[]/\s.a=none):=by
 obtain⟨C,hi,hC⟩:=hv;apply oN;refine⟨rfl,fP λa w1 r1 e1 z1 f1=> ?_⟩;have hlen:(yB m).length=m.length:=by simp[yB]
 have j:∀b,eY.at s b->b<w.heap.size:=λb hb=>hs.lt hb;refine tN hi (λi W=>∃t:eY,Row W a [.slice t.a t.len t.cap]/\Buf W t (bytesV (l++m.take i))/\fV w W (eY.at s)/\(∀b,eY.at t b->eY.at s b\/(w.heap.size<=b/\b≠a/\b≠jU none w1/\b≠w1.heap.size))/\(t.a=none->l++m.take i=[]/\s.a=none)/\jU none w1<W.heap.size)
  (λ_ _=>False) (by simp) ?_ ?_ ?_ (by intro e W W' h;exact h.elim) (by intro e W h;exact h.elim) ?_ ?_ (by intro W h;exact h.elim) (by intro id W h;exact h.elim)
 ·intro w2 f2 z2;refine⟨s,r1.ext f2,by simpa using (hs.ext f1).ext f2,(f1.trans f2) _,λb hb=> .inl hb,?_,by omega⟩;simp only[List.take_zero,List.append_nil];intro ha;obtain⟨_,⟨_,h2,_⟩|⟨c,pad,h2,_⟩⟩:=hs
  ·exact⟨by simpa [bytesV] using h2,ha⟩
  ·rw[ha] at h2;cases h2
 ·rintro i W ⟨t,_,_,hf,_⟩;exact hC W _ hf λb h1 h2 h3=>hd b h3 ⟨h1,h2⟩
 ·rintro i W W' ⟨t,h1,h2,h3,h4,h5,h6⟩ hf;have z:jU none w1=w1.heap.size+1:=rfl;refine⟨t,h1.fr hf (by omega),h2.fr hf λb hb e=> ?_,h3.trans hf (λb hb e=>by omega),h4,h5,by have:=hf.size;omega⟩;rcases h4 b hb with h|h
  ·have:=j b h;omega
  ·omega
 ·intro i x W Kb hx ⟨t,h1,h2,h3,h4,h5,h6⟩ hlt u _;refine⟨rfl,?_⟩;have z:jU none w1=w1.heap.size+1:=rfl;rw[SV] at hx
  cases hb:m[i]? with
  |none=>rw[hb] at hx;simp at hx
  |some y=>
  rw[hb] at hx;simp only[map_some,Option.some.injEq] at hx;subst hx;have fb:=fV.fF W (jU none w1);have h1':=h1.fr fb (by omega);have h2':Buf (fF W (jU none w1)) t (bytesV (l++m.take i)):=h2.fr fb λb hb e=>by
   rcases h4 b hb with h|h
   ·have:=j b h;omega
   ·omega
  simp only[sx,getElem?_cons_zero,h1'.cell];have I:i<m.length:=(List.getElem?_eq_some_iff.1 hb).1;refine fP λc w3 r3 e3 z3 f3=> ?_;have hz3:w3.heap.size=W.heap.size+1:=by rw[z3,e3];simp[fF]
  have hx3:iF w3 ⟨some ⟨c,0,none⟩,1,1⟩ [y]:= .jI (iF.row (l:=[y]) (by simpa [bytesV] using r3));have h2'':=h2'.ext f3;refine kU h2'' hx3 (by simp;omega) λs' w4 b4 f4 p4 n4=> ?_;have J:¬eY.at t a:=λh=>by
   rcases h4 a h with h|h
   ·have:=j a h;omega
   ·exact h.2.1 rfl
  have h1'':=(h1'.ext f3).fr f4 J;refine gB h1'' rfl (by simp) λw5 r5 f5 z5=> ?_;simp only[List.set_cons_zero] at r5;have hbz:(fF W (jU none w1)).heap.size=W.heap.size:=by simp[fF]
  have U:∀b,eY.at s' b->b≠a:=λb hb e=>by
   rcases p4 b hb with h|h
   ·exact J (e ▸ h)
   ·have:=h1.lt;omega
  refine u w5 (λb=>eY.at t b\/b=a) ?_ ?_ ⟨s',r5,?_,?_,?_,?_,?_⟩
  ·exact((f3 _).trans (f4.mono λb h=> .inl h) λ_ _ e=>e).trans (f5 (λb=>eY.at t b\/b=a) (.inr rfl)) λ_ _ e=>e
  ·rintro b hb1 hb2 (h|h)
   ·rcases h4 b h with h|h
    ·have:=j b h;omega
    ·rcases Nat.lt_or_ge b (jU none w1) with hx|hx<;>omega
   ·omega
  ·have e:l++m.take (i+1)=l++m.take i++[y]:=by
    rw[take_succ_eq_append_getElem I];have:m[i]=y:=by rw[List.getElem?_eq_getElem I] at hb;simpa using hb
    simp[this]
   rw[e];exact b4.fr (f5 (·=a) rfl) λb hb e=>U b hb e
  ·refine((h3.trans fb λb hb e=>by omega).ext f3).trans (S':=λb=>eY.at t b\/b=a) ((f4.mono λb h=> .inl h).trans (f5 (λb=>eY.at t b\/b=a) (.inr rfl)) λ_ _ e=>e) ?_;rintro b hb (h|h)
   ·rcases h4 b h with h|h
    ·exact h
    ·omega
   ·omega
  ·intro b hb;rcases p4 b hb with h|h
   ·exact h4 b h
   ·refine .inr ⟨by have:=h3.size;omega,U b hb,?_,?_⟩<;>omega
  ·intro ha;obtain⟨h1,h2⟩:=n4 ha;simp at h1
  ·have:=f4.size;omega
 ·rintro W ⟨t,h1,h2,h3,h4,h5,h6⟩ hm;have z:jU none w1=w1.heap.size+1:=rfl;simp only[sx,getElem?_cons_zero,h1.cell];rw[hlen,take_length] at h2 h5;refine⟨hm rfl,?_,?_,?_,h5⟩
  ·exact h2.fr (fV.jh _ _ _) λb hb e=>by
    rcases h4 b hb with h|h
    ·have:=j b h;omega
    ·omega
  ·exact h3.trans (fV.jh _ _ _) λb hb e=>by omega
  ·intro b hb;rcases h4 b hb with h|h
   ·exact .inl h
   ·exact .inr h.1
end Go.Proofs.VN
end
section
open List (getElem?_eq_getElem map_cons)
open Int (toNat_natCast)
namespace Go.Proofs.VN
open Gp Gp.V4
theorem aan {w0 w:World} {v:Value} {m:List UInt8} (hv:Gv w0 w v m) (hl:m.length<=2^46):
  jX v w λr w'=>Buf w' r (bytesV m)/\Ext w w'/\(∀b,eY.at r b->w.heap.size<=b):=by
 apply En;refine kE (yX (l:=[]) Buf.nil hv (by rintro b ⟨o,h⟩;cases h) (by simpa using hl)) ?_;rintro r w1 ⟨h1,f1,h2,_⟩;refine⟨by simpa using h1,f1.new ?_,λb hb=> ?_⟩
 ·rintro b _ ⟨o,h⟩;cases h
 ·rcases h2 b hb with ⟨o,h⟩|h
  ·cases h
  ·exact h
def nI (l:List UInt8) (n k:Int):List UInt8:=if jv n k then l++oU k.toNat n.toNat else l
theorem AU {w:World} {s:eY} {l:List UInt8} (hs:iF w s l) (hl:l.length+4<=2^46) (n k:Int):
  lu s n k w λr w'=>Buf w' r (bytesV (nI l n k))/\Ext w w'/\(∀b,eY.at r b->w.heap.size<=b):=by
 apply Vb;refine gu (lK hs (by omega)) ?_;rintro r w1 ⟨b1,_,f1,n1⟩;refine ny (qY n k w1) ?_;rintro _ _ ⟨rfl,rfl⟩;by_cases hf:jv n k
 ·simp only[hf,decide_true,Bool.not_true,cond_false];refine DZ (GK hf.1 hf.2.1 _) ?_;rintro v w2 ⟨f2,hv⟩;have hk:=hf.1;refine kE (yX (b1.ext f2) hv (λb hb h=>by have:=b1.lt hb;omega) (by rw[nV];have:=hk.2;omega)) ?_;rintro r' w3 ⟨b3,f3,n3,_⟩;refine⟨by simpa [nI,hf] using b3,(f1.trans f2).new f3 λb hb h=>by have:=n1 b h;omega,λb hb=> ?_⟩;have:=f1.size;have:=f2.size;rcases n3 b hb with h|h
  ·exact n1 b h
  ·omega
 ·simp only[hf,decide_false,Bool.not_false,cond_true];exact⟨by simpa [nI,hf] using b1,f1,n1⟩
theorem set_mid {α:Type} (A:List α) (ys:List α) (R:List α) {i:Nat} {y:α} (hi:ys[i]? =some y) (hR:0<R.length):
  (A++ys.take i++R).set (A.length+i) y=A++ys.take (i+1)++R.drop 1:=by
 have j:=(List.getElem?_eq_some_iff.1 hi).1;have e:(A++ys.take i).length=A.length+i:=by simp;omega
 rw[List.set_append_right _ _ (by omega),e,Nat.sub_self]
 cases R with
 |nil=>simp at hR
 |cons r R=>
  simp only[List.set_cons_zero,List.drop_succ_cons,List.drop_zero];rw[take_succ_eq_append_getElem j];have:ys[i]=y:=by rw[getElem?_eq_getElem j] at hi;simpa using hi
  simp[this]
structure anh (l:List UInt8) (at_ n k:Int) (w:World) (r:eY) (e:Int):Prop where
 out:if ¬jv n k\/at_<0 then e=1/\r=⟨none,0,0⟩ else if (l.length:Int)<at_+k then e=3/\r=⟨none,0,0⟩ else e=0/\Buf w r (bytesV (l.take at_.toNat++oU k.toNat n.toNat++l.drop (at_.toNat+k.toNat)))
theorem aga {w:World} {s:eY} {l:List UInt8} (hs:iF w s l) (hl:l.length<=2^46) (at_ n k:Int):
  Dc s at_ n k w λr e w'=>anh l at_ n k w' r e/\Ext w w'/\(∀b,eY.at r b->w.heap.size<=b):=by
 apply adI;refine ny (qY n k w) ?_;rintro _ _ ⟨rfl,rfl⟩;by_cases hf:jv n k
 ·simp only[hf,decide_true,Bool.not_true,cond_false];refine gu (lK hs (by omega)) ?_;rintro r w1 ⟨b1,_,f1,n1⟩;have hk:=hf.1;refine KH (Vs (iF.jI b1) (by omega) at_ k) ?_;rintro r2 e w2 ⟨rfl,hr⟩;by_cases c1:at_<0
  ·rw[if_pos (.inr c1)] at hr;obtain⟨rfl,rfl⟩:=hr;refine⟨?_,f1,by rintro b ⟨o,h⟩;cases h⟩;refine⟨?_⟩;rw[if_pos (.inr c1)];exact⟨rfl,rfl⟩
  have c1':¬(¬kK k\/at_<0):=by rintro(h|h)<;>contradiction
  have c1'':¬(¬jv n k\/at_<0):=by rintro(h|h)<;>contradiction
  rw[if_neg c1'] at hr;by_cases c2:(l.length:Int)<at_+k
  ·rw[if_pos c2] at hr;obtain⟨rfl,rfl⟩:=hr;refine⟨?_,f1,by rintro b ⟨o,h⟩;cases h⟩;refine⟨?_⟩;rw[if_neg c1'',if_pos c2];exact⟨rfl,rfl⟩
  rw[if_neg c2] at hr;obtain⟨rfl,hr,ha⟩:=hr;simp only[show ((0:Int) !=0)=false from rfl,cond_false];refine DZ (GK hk hf.2.1 _) ?_;rintro v w3 ⟨f3,hv⟩;refine D7 (aan hv (by rw[nV];have:=hk.2;omega)) ?_;rintro q w4 ⟨b4,f4,n4⟩;obtain⟨m,rfl⟩:∃m:Nat,k=(m:Int):=⟨k.toNat,by have:=hk.1;omega⟩;obtain⟨o,rfl⟩:∃o:Nat,at_=(o:Int):=⟨at_.toNat,by omega⟩;simp only[toNat_natCast] at hr ha b4;have hq:=b4.1;rw[jJ,nV] at hq;have I:(oU m n.toNat).length=m:=nV _ _;have J:=hr.1;simp only[length_take,List.length_drop] at J;have U:∀b,eY.at q b->¬eY.at r b:=λb h1 h2=>by
   have:=n4 b h1;have:=b1.lt h2;have:=f3.size;omega
  refine fZ (λst W=>∃i:Nat,i<=m/\st.1=i/\Buf W r (bytesV (l.take o++(oU m n.toNat).take i++l.drop (o+i)))/\Buf W q (bytesV (oU m n.toNat))/\fV w4 W (eY.at r))
   (λst _=>m - st.1.toNat) ⟨0,by omega,rfl,by simpa using (b1.ext f3).ext f4,b4,fV.refl _ _⟩ ?_
  rintro⟨x,⟨⟩⟩ W ⟨i,hi,rfl,h1,h2,h3⟩ next u
  by_cases Y:i<m
  ·have j:((i:Int)<(q.len:Int)):=by omega
   simp only[j,decide_true,cond_true];have hy:(oU m n.toNat)[i]? =some (oU m n.toNat)[i]:=getElem?_eq_getElem (by rw[I];exact Y);obtain⟨a,Z,hc⟩:=(iF.jI h2).at_ hy;refine⟨a,Z,by omega,by omega,?_⟩;simp only[sx,toNat_natCast,Nat.mul_one,hc];have hol:o+i<l.length:=by omega
   obtain⟨b,hb,z⟩:=h1.set (i:=o+i) (by simp[jJ,I];omega);have aa:=ha _ hb;refine⟨_,aa,by omega,by omega,?_⟩;rw[MB];simp only[sx,toNat_natCast,Nat.mul_one];refine z _ _ rfl λw5 b5 f5 z5=> ?_;rw[wrap_i64 (by omega) (by omega)];refine u _ _ ⟨i+1,by omega,by simp,?_,h2.fr f5 (λb hb h=>U b hb h),h3.trans f5 λ_ _ h=>h⟩ (by simp only;omega);have e:=set_mid (l.take o) (oU m n.toNat) (l.drop (o+i)) hy (by simp;omega);rw[length_take,Nat.min_eq_left (by omega)] at e;have e':(bytesV (l.take o++(oU m n.toNat).take i++l.drop (o+i))).set (o+i) (.int .u8 (oU m n.toNat)[i].toNat)=bytesV (l.take o++(oU m n.toNat).take (i+1)++l.drop (o+(i+1))):=by
    rw[show l.drop (o+(i+1))=(l.drop (o+i)).drop 1 by rw[List.drop_drop];rfl,<- e];unfold bytesV;rw[List.map_set]
   rw[e'] at b5;exact b5
  ·have j:¬((i:Int)<(q.len:Int)):=by omega
   simp only[j,decide_false,cond_false];have:i=m:=by omega
   subst this;refine⟨?_,((f1.trans f3).trans f4).new h3 λb hb h=>by have:=n1 b h;omega,n1⟩;refine⟨?_⟩;rw[if_neg c1'',if_neg c2];refine⟨rfl,?_⟩;rw[take_of_length_le (l:=oU i n.toNat) (by omega)] at h1;simpa using h1
 ·simp only[hf,decide_false,Bool.not_false,cond_true];refine⟨?_,Ext.refl _,by rintro b ⟨o,h⟩;cases h⟩;refine⟨?_⟩;rw[if_pos (.inl hf)];exact⟨rfl,rfl⟩
theorem acf {l:List UInt8} {at_ n k:Int} {w:World} {r:eY} {e:Int} (h1:jv n k) (h2:0<=at_) (h3:at_+k<=l.length) (h:anh l at_ n k w r e):e=0/\Buf w r (bytesV (l.take at_.toNat++oU k.toNat n.toNat++l.drop (at_.toNat+k.toNat))):=by
 have:=h.out
 rwa [if_neg (by rintro(h|h);exact h h1;omega),if_neg (by omega)] at this
def wordAt (l:List UInt8) (j:Nat):Nat:=((l[j]?).getD 0).toNat * 256+((l[j+1]?).getD 0).toNat
def wB (l:List UInt8):List (zM [.one (.int .i64),.one (.int .i64)]):=(List.range ((l.length+1) / 2)).map λi=>(((2 * i:Nat):Int),((wordAt l (2 * i):Nat):Int),())
theorem XQ (l:List UInt8):(wB l).length=(l.length+1) / 2:=by simp[wB]
theorem abq (l:List UInt8) {i:Nat} (h:2 * i<l.length):(wB l)[i]? =some (((2 * i:Nat):Int),((wordAt l (2 * i):Nat):Int),()):=by
 simp only[wB,getElem?_map];rw[List.getElem?_range (by omega)];rfl
theorem agm (l:List UInt8) {i:Nat} (h:2 * i<l.length):tot (l.take (2 * (i+1)))=tot (l.take (2 * i))+wordAt l (2 * i):=by
 have e:l.take (2 * (i+1))=l.take (2 * i)++(l.drop (2 * i)).take 2:=by
  rw[Nat.mul_add,List.take_add]
 rw[e,SI _ _ (by simp;omega)];congr 1;unfold wordAt;rw[<- List.getElem?_drop,show l[2 * i]? =(l.drop (2 * i))[0]? by simp]
 match hd:l.drop (2 * i) with
 |[]=>have h3:=congrArg List.length hd;rw[List.length_drop] at h3;simp only[List.length_nil] at h3;omega
 |[a]=>simp[tot]
 |a::b::r=>simp[tot]
theorem Vt (l:List UInt8) (j:Nat):wordAt l j<65536:=by
 unfold wordAt;have h1:=((l[j]?).getD 0).toNat_lt;have h2:=((l[j+1]?).getD 0).toNat_lt;omega
theorem SQ {s:eY} {f0:Nat} {l:List UInt8} (hl:l.length<=2^46):
  lX Tryz.prog [.one (.int .i64),.one (.int .i64)] (Value.func (.func Xb) #[] #[(Value.pointer (some ⟨f0,0,none⟩))])
   (λW=>Row W f0 [.slice s.a s.len s.cap]/\iF W s l) (wB l):=by
 refine⟨by kernel_rfl,λn Q D hC hQ hD hy w h0=> ?_⟩;refine Calls.mono (Ud (a0:= .func (.yield n) #[] #[]) (f0:=⟨f0,0,none⟩) (K:=λw'=>Q (wB l).length w'\/D w') ?_) (λe w' h=>h);rw[XQ];refine fZ (λst W=>∃i:Nat,i<=(l.length+1) / 2/\st.1=((2 * i:Nat):Int)/\Q i W) (λst _=>l.length+1 - st.1.toNat) ⟨0,by omega,rfl,h0⟩ ?_;rintro⟨x,⟨⟩⟩ W ⟨i,hi,rfl,hq⟩ next z
 obtain⟨r0,hs⟩:=hC _ _ hq;have hsl:=hs.1;simp only[sx,r0.cell];by_cases J:2 * i<l.length
 ·have u:(((2 * i:Nat):Int)<(s.len:Int)):=by omega
  simp only[u,decide_true,cond_true];obtain⟨a,ha,hc⟩:=hs.at_ (getElem?_eq_getElem J);refine⟨a,ha,by omega,by omega,?_⟩;rw[toNat_natCast];simp only[Nat.mul_one,fC,fD,hc];refine⟨by omega,?_⟩;have hb:=l[2 * i].toNat_lt;have fin:iY Tryz.prog [.one .bool] (.func (.yield n) #[] #[]) [Value.int .i64 ((2 * i:Nat):Int),Value.int .i64 ((wordAt l (2 * i):Nat):Int)] W (λZ U=>
    ∃Y:Bool,Z=(Value.bool Y)/\(bif (!Y) then (Q ((l.length+1) / 2) U\/D U) else next ((IntKind.i64.wrap (((2 * i:Nat):Int)+2)),()) U)):=by
   refine kC (hy i (((2 * i:Nat):Int),((wordAt l (2 * i):Nat):Int),()) W _ (abq l J) hq ?_ ?_)
   ·intro W' hq';refine⟨true,rfl,?_⟩;simp only[Bool.not_true,cond_false];rw[wrap_i64 (by omega) (by omega)];exact z _ _ ⟨i+1,by omega,by simp only;omega,hq'⟩ (by simp only;omega)
   ·intro W' hd;refine⟨false,rfl,?_⟩;simp only[Bool.not_false,cond_true];exact .inr hd
  rw[wrap_i64 (n:=((2 * i:Nat):Int)+1) (by omega) (by omega),wrap_i64 (n:=(l[2 * i].toNat:Int)) (by omega) (by omega)];by_cases I:2 * i+1<l.length
  ·have j:(((2 * i:Nat):Int)+1<(s.len:Int)):=by omega
   simp only[j,decide_true,cond_true];obtain⟨a',ha',hc'⟩:=hs.at_ (getElem?_eq_getElem I);refine⟨a',ha',by omega,by omega,?_⟩;rw[show (((2 * i:Nat):Int)+1).toNat=2 * i+1 by omega];simp only[Nat.mul_one,fC,fD,hc'];have hb':=l[2 * i+1].toNat_lt;rw[wrap_i64 (n:=(l[2 * i+1].toNat:Int)) (by omega) (by omega),Zt (by omega) (by omega)];have e:wordAt l (2 * i)=l[2 * i].toNat * 256+l[2 * i+1].toNat:=by
    unfold wordAt;rw[getElem?_eq_getElem J,getElem?_eq_getElem I];rfl
   rw[e] at fin;exact fin
  ·have j:¬(((2 * i:Nat):Int)+1<(s.len:Int)):=by omega
   simp only[j,decide_false,cond_false];have e0:LY .i64 (l[2 * i].toNat:Int) 8=((l[2 * i].toNat * 256:Nat):Int):=by
    have:=ain (a:=l[2 * i].toNat) (k:=8) (by omega) (by omega);simpa using this
   rw[e0];have e:wordAt l (2 * i)=l[2 * i].toNat * 256:=by
    unfold wordAt;rw[getElem?_eq_getElem J,List.getElem?_eq_none (by omega)];simp
   rw[e] at fin;exact fin
 ·have u:¬(((2 * i:Nat):Int)<(s.len:Int)):=by omega
  simp only[u,decide_false,cond_false];have:i=(l.length+1) / 2:=by omega
  subst this;exact .inl hq
def Parts (w:World) (s:eY) (ps:List (eY×List UInt8)):Prop:=
 s.len=ps.length/\(∀i p,ps[i]? =some p->∃b o,s.a=some ⟨b,o,none⟩/\w.cell? ⟨b,o+i,none⟩=some (.slice p.1.a p.1.len p.1.cap)/\iF w p.1 p.2)
theorem Parts.fr {w w':World} {s:eY} {ps:List (eY×List UInt8)} (h:Parts w s ps) (hf:Ext w w'):Parts w' s ps:=
 ⟨h.1,λi p hi=>by obtain⟨b,o,h1,h2,h3⟩:=h.2 i p hi;exact⟨b,o,h1,yh h2 hf,h3.ext hf⟩⟩
def CW (ps:List (eY×List UInt8)):Nat:=(ps.map λp=>tot p.2).foldr (·+·) 0
theorem adY {ps:List (eY×List UInt8)} {i:Nat} {p:eY×List UInt8} (h:ps[i]? =some p):CW (ps.take (i+1))=CW (ps.take i)+tot p.2:=by
 have j:=(List.getElem?_eq_some_iff.1 h).1;rw[take_succ_eq_append_getElem j];have:ps[i]=p:=by rw[getElem?_eq_getElem j] at h;simpa using h
 rw[this];unfold CW;generalize ps.take i=q
 induction q with
 |nil=>simp
 |cons x q ih=>simp only[List.map_append,List.cons_append,map_cons,List.foldr_cons,List.foldr_append] at ih ⊢;simp at ih ⊢;omega
theorem acn {ps:List (eY×List UInt8)} {n:Nat} (h:∀p∈ps,p.2.length<=n):CW ps<=ps.length * (65535 * n):=by
 unfold CW
 induction ps with
 |nil=>simp
 |cons p ps ih=>
  simp only[map_cons,List.foldr_cons,List.length_cons];have h1:=abn p.2;have h2:=h p (List.mem_cons_self ..);have h3:=ih λq hq=>h q (List.mem_cons_of_mem _ hq);have h4:65535 * p.2.length<=65535 * n:=Nat.mul_le_mul_left _ h2;rw[add_mul];omega
theorem agn {w:World} {s:eY} {ps:List (eY×List UInt8)} (hs:Parts w s ps) (hn:ps.length<=64) (hl:∀p∈ps,p.2.length<=2^40):
  xZ s w λr w'=>r=(CW ps:Int)/\Ext w w':=by
 apply Xq;refine fP λa w1 r1 e1 z1 f1=> ?_;refine gB r1 rfl (by simp) λw2 r2 f2 z2=> ?_;have hsl:=hs.1;have x2:Ext w w2:=f1.new (f2 (·=a) rfl) λb hb e=>by omega
 have J:∀i,CW (ps.take i)<=2^62:=λi=>by
  have h1:=acn (ps:=ps.take i) (n:=2^40) λp hp=>hl p (List.mem_of_mem_take hp);have h2:(ps.take i).length<=64:=by simp;omega
  have h3:(ps.take i).length * (65535 * 2^40)<=64 * (65535 * 2^40):=Nat.mul_le_mul_right _ h2;omega
 refine fZ (λst W=>∃i:Nat,i<=ps.length/\st.1.1=i/\Row W a [.int .i64 (CW (ps.take i):Int)]/\Ext w W/\(∀d∈st.2,w2.heap.size<=d/\d<W.heap.size/\W.heap[d]? =some (.deferred (some [])))/\st.2.Nodup/\w2.heap.size<=W.heap.size)
  (λst _=>ps.length - st.1.1.toNat) ⟨0,by omega,rfl,by simpa [CW] using r2,x2,by simp,by simp,Nat.le_refl _⟩ ?_
 rintro⟨⟨x,⟨⟩⟩,ds⟩ W ⟨i,hi,rfl,h1,h2,h3,h4,h5⟩ next z
 by_cases Y:i<ps.length
 ·have u:((i:Int)<(s.len:Int)):=by omega
  simp only[u,decide_true,cond_true];obtain⟨b,o,ha,hc,hb⟩:=(hs.fr h2).2 i _ (getElem?_eq_getElem Y);refine⟨_,ha,by omega,by omega,?_⟩;simp only[sx,toNat_natCast,Nat.mul_one,hc];generalize hp:ps[i]=p at hc hb;have U:ps[i]? =some p:=by rw[getElem?_eq_getElem Y,hp]
  have hpl:=hl p (List.mem_of_getElem? U);apply Ou;refine⟨rfl,fP λc w3 r3 e3 z3 f3=> ?_⟩;have Z:∀j,tot (p.2.take j)<=2^60:=λj=>by
   have:=abn (p.2.take j);have e:(p.2.take j).length<=2^40:=by simp;omega
   have:65535 * (p.2.take j).length<=65535 * 2^40:=Nat.mul_le_mul_left _ e;omega
  have haw:a<w2.heap.size:=by omega
  have hla:jU none w3=w3.heap.size+1:=rfl;have hsz:=h2.size;have aa:∀a',p.1.a=some a'->0<p.2.length->a'.block<w.heap.size:=λa' h h'=>by
   obtain⟨b',o',_,_,hb'⟩:=hs.2 i p U;exact hb'.lt h h'
  refine tN (SQ (s:=p.1) (l:=p.2) (by omega)) (λj W'=>Row W' a [.int .i64 ((CW (ps.take i)+tot (p.2.take (2 * j)):Nat):Int)]/\fV w3 W' (·=a)/\w3.heap.size+2<=W'.heap.size)
   (λ_ _=>False) (by simp) ?_ ?_ ?_ (by intro e W W' h;exact h.elim) (by intro e W h;exact h.elim) ?_ ?_ (by intro W h;exact h.elim) (by intro id W h;exact h.elim)
  ·intro w4 f4 z4;exact⟨by simpa [tot] using (h1.ext f3).ext f4,f4 _,by omega⟩
  ·exact λj W' h=>⟨r3.fr h.2.1 (by omega),(hb.ext f3).fr h.2.1 λa' ha' hl' e=>by have:=aa a' ha' hl';omega⟩
  ·rintro j W' W'' ⟨g1,g5,g6⟩ hf;exact⟨g1.fr hf (by omega),g5.trans hf λb hb e=>by omega,by have:=hf.size;omega⟩
  ·intro j x W' Kb hx ⟨g1,g5,g6⟩ hlt3 I _;refine⟨by trivial,?_⟩;have hj:2 * j<p.2.length:=by
    have:=(List.getElem?_eq_some_iff.1 hx).1;rw[XQ] at this;omega
   rw[abq _ hj] at hx;simp only[Option.some.injEq] at hx;subst hx;have fb:=fV.fF W' (jU none w3);have g1':=g1.fr fb (by omega);simp only[List.getElem?_cons_zero,fC,fD,g1'.cell];refine gB g1' rfl (by simp) λw5 r5 f5 z5=> ?_;refine I w5 (·=a) (f5 _ rfl) (λb hb1 hb2 e=>by omega) ⟨?_,(g5.trans fb λb hb e=>by omega).trans (f5 (·=a) rfl) λb hb e=>e,by simp[fF] at z5;omega⟩;simp only[List.set_cons_zero] at r5;have:=J i;have:=Z (2 * j);have:=Vt p.2 (2 * j);rw[wrap_i64 (by omega) (by omega)] at r5;rw[agm _ hj];have e:((CW (ps.take i)+tot (p.2.take (2 * j)):Nat):Int)+((wordAt p.2 (2 * j):Nat):Int)=((CW (ps.take i)+(tot (p.2.take (2 * j))+wordAt p.2 (2 * j)):Nat):Int):=by omega
   rw[e] at r5;exact r5
  ·rintro W' ⟨g1,g5,g6⟩ hm;have ab:=hm rfl;rw[XQ,take_of_length_le (l:=p.2) (by omega)] at g1;rw[wrap_i64 (by omega) (by omega)];have hx:Ext w W':=(h2.trans f3).new g5 λb hb e=>by omega
   refine z _ _ ⟨i+1,by omega,by simp,by rw[adY U];exact g1,hx,?_,?_,by omega⟩ (by simp only;omega)
   ·intro d hd;rcases List.mem_cons.1 hd with rfl|hd
    ·exact⟨by omega,by omega,ab⟩
    ·obtain⟨q1,q2,q3⟩:=h3 d hd;refine⟨q1,by omega,?_⟩;rw[g5.same d (by omega) (by omega),(f3 λ_=>False).same d (by omega) (by simp)];exact q3
   ·refine List.nodup_cons.2 ⟨λhd=> ?_,h4⟩;have:=(h3 _ hd).2.1;omega
 ·have u:¬((i:Int)<(s.len:Int)):=by omega
  simp only[u,decide_false,cond_false];have:i=ps.length:=by omega
  subst this;rw[take_length] at h1;simp only[sx,h1.cell];refine acT (n:=w2.heap.size) ds W (λd hd=>⟨(h3 d hd).1,(h3 d hd).2.2⟩) h4 λw6 f6 z6=>⟨by trivial,h2.new f6 λb hb e=>by omega⟩
end Go.Proofs.VN
end
section
namespace Go.Proofs.VN
open Gp Gp.V4
theorem aho {m:Nat} (hm:m<2^62) (w:World):Ah (m:Int) w λr w'=>r=(fold m:Int)/\w'=w:=by
 apply Zk;have h0:¬((0:Int)>(m:Int)):=by omega
 simp only[h0,if_false];refine fZ (λst W=>W=w/\∃x:Nat,x<2^62/\st.1=(x:Int)/\fold x=fold m) (λst _=>st.1.toNat) ⟨rfl,m,hm,rfl,rfl⟩ ?_;rintro⟨x,⟨⟩⟩ W ⟨rfl,n,hn,rfl,hf⟩ next u
 by_cases z:65535<n
 ·have j:((n:Int)>65535):=by omega
  simp only[j,decide_true,cond_true];refine⟨by omega,?_⟩;have e1:wH .i64 (n:Int) 65535=((n % 65536:Nat):Int):=by
   have:=VG (a:=n) (b:=65535) (by omega) (by omega);rw[show (65535:Nat)=2^16 - 1 by decide,Pm] at this;exact this
  have e2:jy .i64 (n:Int) 16=((n / 65536:Nat):Int):=BP (a:=n) (k:=16) (by omega);rw[e1,e2,wrap_i64 (by omega) (by omega)];exact u _ _ ⟨rfl,n % 65536+n / 65536,by omega,by simp only;omega,by rw[ade z,hf]⟩ (by simp only;omega)
 ·have j:¬((n:Int)>65535):=by omega
  simp only[j,decide_false,cond_false];exact⟨by rw[<- hf,aaC (by omega)],by trivial⟩
theorem aiB {ps:List (eY×List UInt8)} (hn:ps.length<=64) (hl:∀p∈ps,p.2.length<=2^40) (i:Nat):CW (ps.take i)<2^62:=by
 have h1:=acn (ps:=ps.take i) (n:=2^40) λp hp=>hl p (List.mem_of_mem_take hp);have h2:(ps.take i).length<=64:=by simp;omega
 have h3:(ps.take i).length * (65535 * 2^40)<=64 * (65535 * 2^40):=Nat.mul_le_mul_right _ h2;omega
theorem agl {ps:List (eY×List UInt8)} (hn:ps.length<=64) (hl:∀p∈ps,p.2.length<=2^40):CW ps<2^62:=by
 have:=aiB hn hl ps.length
 rwa [take_length] at this
theorem VE {w:World} {s:eY} {ps:List (eY×List UInt8)} (hs:Parts w s ps) (hn:ps.length<=64) (hl:∀p∈ps,p.2.length<=2^40):
  zy s w λr w'=>r=(fold (CW ps):Int)/\Ext w w':=by
 apply aa0;refine Wi (agn hs hn hl) ?_;rintro _ w1 ⟨rfl,f1⟩;refine Yq (aho (agl hn hl) w1) ?_;rintro _ _ ⟨rfl,rfl⟩;exact⟨by trivial,f1⟩
theorem aiT {w:World} {s:eY} {ps:List (eY×List UInt8)} (hs:Parts w s ps) (hn:ps.length<=64) (hl:∀p∈ps,p.2.length<=2^40):
  Di s w λr w'=>r=((65535 - fold (CW ps):Nat):Int)/\Ext w w':=by
 apply adJ;refine Qp (VE hs hn hl) ?_;rintro _ w1 ⟨rfl,f1⟩;have:=ahn (CW ps);exact⟨by rw[wrap_i64 (by omega) (by omega)];omega,f1⟩
theorem G5 {w:World} {s:eY} {ps:List (eY×List UInt8)} (hs:Parts w s ps) (hn:ps.length<=64) (hl:∀p∈ps,p.2.length<=2^40):
  oL s w λr w'=>r=decide (fold (CW ps)=65535)/\Ext w w':=by
 apply Xp;refine Qp (VE hs hn hl) ?_;rintro _ w1 ⟨rfl,f1⟩;refine⟨?_,f1⟩;by_cases h:fold (CW ps)=65535
 ·simp[h]
 ·simp[h];omega
theorem GY {w:World} {b:Nat} {s:eY} {l:List UInt8} (h:Row w b [.slice s.a s.len s.cap]) (hs:iF w s l):Parts w ⟨some ⟨b,0,none⟩,1,1⟩ [(s,l)]:=by
 refine⟨rfl,λi p hi=> ?_⟩
 cases i with
 |zero=>
  simp at hi;subst hi;exact⟨b,0,rfl,by rw[h.cell];rfl,hs⟩
 |succ i=>simp at hi
theorem SH (s:eY) (l:List UInt8):CW [(s,l)]=tot l:=by simp[CW]
theorem Ea (n:Int) (w:World):kT n w λr w'=>r=decide (pR n)/\w'=w:=by
 apply IL;by_cases h1:n>=0
 ·have h1':0<=n:=h1;simp[h1',pR]
 ·have h1':¬0<=n:=h1;simp[h1',pR]
theorem MG {w:World} {b:Nat} {l:List Bool} {vs:List Value} (h:Row w b vs) (hv:vs=l.map Value.bool) (n:Nat) (hn:n=l.length) (hl:l.length<=100):sO ⟨some ⟨b,0,none⟩,n,n⟩ w λr w'=>r=l.all id/\w'=w:=by
 subst hv;apply adK;apply yN;apply Bl;subst hn;refine fZ (λst W=>W=w/\∃i:Nat,i<=l.length/\st.1=(i:Int)/\(l.take i).all id=true) (λst _=>l.length - st.1.toNat) ⟨rfl,0,by omega,rfl,rfl⟩ ?_;rintro⟨x,⟨⟩⟩ W ⟨rfl,i,hi,rfl,hp⟩ next u
 by_cases z:i<l.length
 ·have j:((i:Int)<(l.length:Int)):=by omega
  simp only[j,decide_true,cond_true];simp only[sx,h.cell,Int.toNat_natCast,Nat.mul_one,getElem?_map,List.getElem?_eq_getElem z,Option.map_some];refine⟨by omega,by trivial,?_⟩
  cases hb:l[i] with
  |true=>
   simp only[show (false==true)=false from rfl,cond_false];rw[wrap_i64 (by omega) (by omega)];refine u _ _ ⟨rfl,i+1,by omega,by simp,?_⟩ (by simp only;omega);rw[take_succ_eq_append_getElem z,List.all_append,hp,hb];rfl
  |false=>
   simp only[show (false==false)=true from rfl,cond_true];refine⟨?_,by trivial⟩;have:l.all id=false:=by
    apply Bool.eq_false_iff.2;intro h;have:=List.all_eq_true.1 h false (hb ▸ List.getElem_mem z)
    cases this
   rw[this];simp
 ·have j:¬((i:Int)<(l.length:Int)):=by omega
  simp only[j,decide_false,cond_false];have:i=l.length:=by omega
  subst this;rw[take_length] at hp;exact⟨by rw[hp];rfl,by trivial⟩
end Go.Proofs.VN
end
section
open List (all_cons all_nil getElem?_cons_succ getElem?_cons_zero)
open Bool (decide_and)
namespace Go.Proofs.VN
open Gp Gp.V4
theorem XO (a0 a1 a2 a3 a4 a5 a6:Int) (a7 a8:Bool) (a9 j:eY) (h:a9.len<=2^60) (w:World):wK a0 a1 a2 a3 a4 a5 a6 a7 a8 a9 j w λr w'=>r=20+(a9.len:Int)/\Ext w w':=by
 apply aa2;refine fP λa w1 r1 _ _ f1=> ?_;simp only[sx,getElem?_cons_zero,getElem?_cons_succ,r1.cell];exact⟨by rw[wrap_i64 (by omega) (by omega)],f1⟩
theorem XP (a0 a1 a2 a3 a4 a5 a6:Int) (a7 a8:Bool) (a9 j:eY) (h:a9.len<=2^60) (h':j.len<=2^60) (w:World):wM a0 a1 a2 a3 a4 a5 a6 a7 a8 a9 j w λr w'=>r=20+(a9.len:Int)+(j.len:Int)/\Ext w w':=by
 apply aa3;refine fP λa w1 r1 _ _ f1=> ?_;simp only[sx,getElem?_cons_zero,getElem?_cons_succ,r1.drew.cell];refine Jk (XO _ _ _ _ _ _ _ _ _ _ _ h _) ?_;rintro r w2 ⟨rfl,f2⟩;refine⟨by rw[(r1.drew.ext f2).cell];rfl,?_,(f1.trans (Ext.drew _)).trans f2⟩;rw[wrap_i64 (by omega) (by omega)]
theorem yj {w:World} (p:lS) {o d:eY} (ho:o.len=p.opts.length) (hd:d.len=p.data.length) (h1:p.opts.length<=2^46) (h2:p.data.length<=2^46):
  ni p.tos p.id p.off p.ttl p.proto p.src p.dst p.df p.mf o d w λr w'=>r=p.check/\Ext w w':=by
 apply Zm;refine fP λa w1 r1 _ _ f1=> ?_;have r1d:=r1.drew;simp -zeta only[sx,getElem?_cons_zero,getElem?_cons_succ,r1d.cell];refine ny (qY _ _ _) ?_;rintro _ _ ⟨rfl,rfl⟩;simp -zeta only[true_and,getElem?_cons_zero,getElem?_cons_succ,r1d.cell];refine ny (qY _ _ _) ?_;rintro _ _ ⟨rfl,rfl⟩;simp -zeta only[true_and,getElem?_cons_zero,getElem?_cons_succ,r1d.cell];refine ny (qY _ _ _) ?_;rintro _ _ ⟨rfl,rfl⟩;simp -zeta only[true_and,getElem?_cons_zero,getElem?_cons_succ,r1d.cell];refine ny (qY _ _ _) ?_;rintro _ _ ⟨rfl,rfl⟩;refine fP λb w2 r2 _ _ f2=> ?_;refine zC (MG (l:=[decide (jv p.tos 1),decide (jv p.ttl 1),decide (jv p.proto 1),decide (jv p.id 2)]) r2 rfl 4 rfl (by simp)) ?_;rintro _ w2 ⟨rfl,rfl⟩;have r3:=(r1d.ext f2).drew;simp -zeta only[getElem?_cons_zero,getElem?_cons_succ,fC,fD,r3.cell];refine nC (Ea _ _) ?_;rintro _ _ ⟨rfl,rfl⟩;simp -zeta only[true_and,getElem?_cons_zero,getElem?_cons_succ,r3.cell];refine nC (Ea _ _) ?_;rintro _ _ ⟨rfl,rfl⟩;refine fP λc w4 r4 _ _ f4=> ?_;refine zC (MG (l:=[decide (pR p.src),decide (pR p.dst)]) r4 rfl 2 rfl (by simp)) ?_;rintro _ w4 ⟨rfl,rfl⟩;have r5:=r3.ext f4;have x5:Ext w w4:=(((f1.trans (Ext.drew _)).trans f2).trans (Ext.drew _)).trans f4;intro j;have hJ:∀(b:Bool) (W:World),Ext w4 W->b=decide (0<=p.off/\p.off<=65528/\Int.tmod p.off 8=0/\(p.mf=true->p.data.length % 8=0))->j b W:=by
  rintro b W fW rfl;have rW:=r5.ext fW;simp only[j,cond_true,getElem?_cons_zero,getElem?_cons_succ,fC,fE,rW.cell];refine⟨by omega,fP λe w6 r6 _ _ f6=> ?_⟩;refine zC (MG (l:=[_,_]) r6 rfl 2 rfl (by simp)) ?_;rintro _ _ ⟨rfl,rfl⟩;refine fP λg w7 r7 _ _ f7=> ?_;refine zC (MG (l:=[_,_,_,_]) r7 rfl 4 rfl (by simp)) ?_;rintro _ _ ⟨rfl,rfl⟩;have e1:decide ((o.len:Int)<=40)=decide (p.opts.length<=40):=by rw[ho];exact decide_eq_decide.2 (by omega)
  have e2:(Int.tmod (o.len:Int) 4==0)=decide (p.opts.length % 4=0):=by
   rw[ho,Int.tmod_eq_emod_of_nonneg (by omega),show ((p.opts.length:Int) % 4==0)=decide ((p.opts.length:Int) % 4=0) from rfl];exact decide_eq_decide.2 (by omega)
  have e3:([[decide (jv p.tos 1),decide (jv p.ttl 1),decide (jv p.proto 1),decide (jv p.id 2)].all id,[decide (pR p.src),decide (pR p.dst)].all id,decide (0<=p.off/\p.off<=65528/\Int.tmod p.off 8=0/\(p.mf=true->p.data.length % 8=0)),
    [decide ((o.len:Int)<=40),(Int.tmod (o.len:Int) 4==0)].all id].all id)=decide p.fine:=by
   rw[e1,e2];simp only[all_cons,all_nil,id,Bool.and_true];rw[<- decide_and,<- decide_and,<- decide_and,<- decide_and,<- decide_and,<- decide_and,<- decide_and,<- decide_and];rfl
  rw[e3];have x7:=(x5.trans fW).trans (f6.trans f7);by_cases hf:p.fine
  ·simp only[hf,decide_true,Bool.not_true,cond_false];have r8:=rW.ext (f6.trans f7);simp -zeta only[getElem?_cons_zero,getElem?_cons_succ,fC,fE,fD,gW,r8.cell];refine Jl (XP _ _ _ _ _ _ _ _ _ _ _ (show o.len<=2^60 by omega) (show d.len<=2^60 by omega) _) ?_;rintro _ w8 ⟨rfl,f8⟩;have r9:=r8.ext f8;simp -zeta only[getElem?_cons_zero,getElem?_cons_succ,fC,fE,fD,r9.cell];rw[wrap_i64 (by omega) (by omega)];by_cases hs:20+p.opts.length+p.data.length<=65535
   ·have:¬(20+(o.len:Int)+(d.len:Int)>65535):=by omega
    simp only[this,decide_false,cond_false];by_cases hs2:p.off<=65535 - (p.data.length:Int)
    ·have:¬(p.off>65535 - (d.len:Int)):=by omega
     simp only[this,decide_false,cond_false];exact⟨by simp[lS.check,hf,lS.short,hs,hs2],x7.trans f8⟩
    ·have:(p.off>65535 - (d.len:Int)):=by omega
     simp only[this,decide_true,cond_true];exact⟨by simp[lS.check,hf,lS.short,hs2],x7.trans f8⟩
   ·have:(20+(o.len:Int)+(d.len:Int)>65535):=by omega
    simp only[this,decide_true,cond_true];exact⟨by simp[lS.check,hf,lS.short,hs],x7.trans f8⟩
  ·simp only[hf,decide_false,Bool.not_false,cond_true];exact⟨by simp[lS.check,hf],x7⟩
 simp -zeta only[getElem?_cons_zero,getElem?_cons_succ,fC,fE,fD,gW,r5.cell];refine⟨by omega,?_⟩
 cases hm:p.mf with
 |false=>
  simp only[Bool.not_false,cond_true];refine fP λe w6 r6 _ _ f6=> ?_;refine zC (MG (l:=[_,_,_,_]) r6 rfl 4 rfl (by simp)) ?_;rintro _ _ ⟨rfl,rfl⟩;refine hJ _ _ f6 ?_;simp only[all_cons,all_nil,id,Bool.and_true,hm];rw[show (Int.tmod p.off 8==0)=decide (Int.tmod p.off 8=0) from rfl];simp[ge_iff_le]
 |true=>
  simp only[Bool.not_true,cond_false];refine⟨by omega,fP λe w6 r6 _ _ f6=> ?_⟩;refine zC (MG (l:=[_,_,_,_]) r6 rfl 4 rfl (by simp)) ?_;rintro _ _ ⟨rfl,rfl⟩;refine hJ _ _ f6 ?_;have e2:(Int.tmod (d.len:Int) 8==0)=decide (p.data.length % 8=0):=by
   rw[hd,Int.tmod_eq_emod_of_nonneg (by omega),show ((p.data.length:Int) % 8==0)=decide ((p.data.length:Int) % 8=0) from rfl];exact decide_eq_decide.2 (by omega)
  simp only[all_cons,all_nil,id,Bool.and_true,hm,e2];rw[show (Int.tmod p.off 8==0)=decide (Int.tmod p.off 8=0) from rfl];simp[ge_iff_le]
def QL (p:lS):Int:=
 let a:=IntKind.i64.wrap (Int.tdiv p.off 8)
 let b:=bif p.df then Xz .i64 a 16384 else a
 bif p.mf then Xz .i64 b 8192 else b
theorem ae8 {w:World} (p:lS) (o d:eY):Aj p.tos p.id p.off p.ttl p.proto p.src p.dst p.df p.mf o d w λr w'=>r=QL p/\Ext w w':=by
 apply Zp;refine fP λa w1 r1 _ _ f1=> ?_;simp only[sx,getElem?_cons_zero,getElem?_cons_succ,r1.cell];refine⟨by omega,?_⟩;unfold QL
 cases p.df<;>cases p.mf<;>exact⟨rfl,f1⟩
theorem aay {p:lS} (h:p.fine):QL p=(p.bits:Int):=by
 obtain⟨_,_,⟨h1,h2,h3,_⟩,_⟩:=h;unfold QL lS.bits;obtain⟨x,hx⟩:∃x:Nat,p.off=(x:Int):=⟨p.off.toNat,by omega⟩;rw[hx] at h1 h2 h3 ⊢;rw[Int.tdiv_eq_ediv_of_nonneg (by omega),Int.toNat_natCast];have e0:(x:Int) / 8=((x / 8:Nat):Int):=by omega
 rw[e0,wrap_i64 (by omega) (by omega)];have hq:x / 8<8192:=by omega
 generalize x / 8=q at hq;have e1:Xz .i64 (q:Int) 16384=((16384+q:Nat):Int):=by
  have:=XA (a:=q) (b:=16384) (by omega) (by omega);rw[Nat.or_comm,show (16384:Nat)=1 * 2^14 by decide,RV (by omega)] at this;exact this
 have e2:Xz .i64 (q:Int) 8192=((8192+q:Nat):Int):=by
  have:=XA (a:=q) (b:=8192) (by omega) (by omega);rw[Nat.or_comm,show (8192:Nat)=1 * 2^13 by decide,RV (by omega)] at this;exact this
 have e3:Xz .i64 ((16384+q:Nat):Int) 8192=((24576+q:Nat):Int):=by
  have:=XA (a:=16384+q) (b:=8192) (by omega) (by omega);have h:(16384+q)|||8192=24576+q:=by
   rw[show 16384+q=2 * 2^13|||q by rw[RV (by omega)],Nat.or_assoc,Nat.or_comm q,<- Nat.or_assoc,show (2 * 2^13|||8192:Nat)=3 * 2^13 by decide,RV (by omega)]
  rw[h] at this;exact this
 cases p.df<;>cases p.mf<;>simp only[cond_true,cond_false,if_true,if_false,Bool.false_eq_true]
 ·omega
 ·rw[e2];omega
 ·rw[e1];omega
 ·rw[e1,e3];omega
end Go.Proofs.VN
end
section
open List (getElem?_cons_succ getElem?_cons_zero)
namespace Go.Proofs.VN
open Gp Gp.V4
def nY (p:lS):List (Int×Int):=
 [(Xz .i64 64 (IntKind.i64.wrap (Int.tdiv (20+(p.opts.length:Int)) 4)),1),(p.tos,1),(20+(p.opts.length:Int)+(p.data.length:Int),2),(p.id,2),(QL p,2),(p.ttl,1),(p.proto,1),(0,2),(p.src,4),(p.dst,4)]
def WG (f:Int×Int):List Value:=[.int .i64 f.1,.int .i64 f.2]
theorem QF (f:Int×Int):(WG f).length=2:=rfl
theorem ac_ {w:World} (p:lS) {o d:eY} (ho:o.len=p.opts.length) (hd:d.len=p.data.length) (h1:p.opts.length<=2^46) (h2:p.data.length<=2^46):
  yc p.tos p.id p.off p.ttl p.proto p.src p.dst p.df p.mf o d w λr w'=>∃b,r=⟨some ⟨b,0,none⟩,10,10⟩/\Row w' b ((nY p).flatMap WG)/\Ext w w'/\w.heap.size<=b:=by
 apply Xv;refine fP λa w1 r1 e1 _ f1=> ?_;have r1d:=r1.drew;simp -zeta only[sx,gJ,ig,getElem?_cons_zero,getElem?_cons_succ,r1d.cell];refine Jk (XO _ _ _ _ _ _ _ _ _ _ _ (show o.len<=2^60 by omega) _) ?_;rintro _ w2 ⟨rfl,f2⟩;have r2:=r1d.ext f2;simp -zeta only[sx,gJ,ig,true_and,getElem?_cons_zero,getElem?_cons_succ,r2.cell];refine⟨by omega,?_⟩;refine Jl (XP _ _ _ _ _ _ _ _ _ _ _ (show o.len<=2^60 by omega) (show d.len<=2^60 by omega) _) ?_;rintro _ w3 ⟨rfl,f3⟩;have r3:=r2.ext f3;simp -zeta only[sx,gJ,ig,true_and,getElem?_cons_zero,getElem?_cons_succ,r3.cell];refine Yt (ae8 p o d) ?_;rintro _ w4 ⟨rfl,f4⟩;have r4:=r3.ext f4;simp -zeta only[sx,gJ,ig,true_and,getElem?_cons_zero,getElem?_cons_succ,r4.cell];refine fP λb w5 r5 e5 _ f5=>⟨b,rfl,?_,((((f1.trans (Ext.drew _)).trans f2).trans f3).trans f4).trans f5,?_⟩
 ·rw[show o.len=p.opts.length from ho,show d.len=p.data.length from hd] at r5;exact r5
 ·have h1:=f1.size;have h2:=f2.size;have h3:=f3.size;have h4:=f4.size;have:w1.drew.heap.size=w1.heap.size:=rfl;omega
theorem aaw {p:lS} (h:p.opts.length<=40):Xz .i64 64 (IntKind.i64.wrap (Int.tdiv (20+(p.opts.length:Int)) 4))=((64+(20+p.opts.length) / 4:Nat):Int):=by
 rw[Int.tdiv_eq_ediv_of_nonneg (by omega)];have e0:(20+(p.opts.length:Int)) / 4=(((20+p.opts.length) / 4:Nat):Int):=by omega
 rw[e0,wrap_i64 (by omega) (by omega)];have hq:(20+p.opts.length) / 4<64:=by omega
 generalize (20+p.opts.length) / 4=q at hq;have:=XA (a:=64) (b:=q) (by omega) (by omega);rw[show (64:Nat)=1 * 2^6 by decide,RV (by omega)] at this;exact this
theorem YF {p:lS} (h:p.check=0):(nY p).foldl (λl f=>nI l f.1 f.2) []++p.opts=p.head 0:=by
 obtain⟨hf,hs⟩:=Am h;have hb:=ag0 hf;have u:=aay hf;obtain⟨⟨f1,f2,f3,f4⟩,⟨r1,r2⟩,⟨o1,o2,o3,o4⟩,p1,p2⟩:=id hf;obtain⟨s1,s2⟩:=hs;have g:∀(n:Int) (k:Nat) (l:List UInt8),jv n (k:Int)->nI l n (k:Int)=l++oU k n.toNat:=λn k l h=>by simp[nI,h]
 have m1:jv ((64+(20+p.opts.length) / 4:Nat):Int) (1:Nat):=⟨⟨by omega,by omega⟩,by omega,by simp;omega⟩;have m2:jv (20+(p.opts.length:Int)+(p.data.length:Int)) (2:Nat):=⟨⟨by omega,by omega⟩,by omega,by simp;omega⟩;have m3:jv ((p.bits:Nat):Int) (2:Nat):=⟨⟨by omega,by omega⟩,by omega,by simp;omega⟩;have m4:jv 0 (2:Nat):=⟨⟨by omega,by omega⟩,by omega,by simp⟩;have m5:jv p.src (4:Nat):=⟨⟨by omega,by omega⟩,r1.1,by have:=r1.2;simp;omega⟩;have m6:jv p.dst (4:Nat):=⟨⟨by omega,by omega⟩,r2.1,by have:=r2.2;simp;omega⟩;unfold nY;rw[aaw p1,u];simp only[foldl_cons,List.foldl_nil];have q1:=g _ 1 [] m1;have q2:=λl=>g p.tos 1 l f1;have q3:=λl=>g _ 2 l m2;have q4:=λl=>g p.id 2 l f4;have q5:=λl=>g _ 2 l m3;have q6:=λl=>g p.ttl 1 l f2;have q7:=λl=>g p.proto 1 l f3;have q8:=λl=>g _ 2 l m4;have q9:=λl=>g _ 4 l m5;have j:=λl=>g _ 4 l m6;simp only[Int.ofNat_one] at q1;simp only[show ((1:Nat):Int)=1 from rfl,show ((2:Nat):Int)=2 from rfl,show ((4:Nat):Int)=4 from rfl] at q2 q3 q4 q5 q6 q7 q8 q9 j;rw[q1,q2,q3,q4,q5,q6,q7,q8,q9,j];unfold lS.head;simp only[Int.toNat_natCast,List.nil_append];rw[show (20+(p.opts.length:Int)+(p.data.length:Int)).toNat=20+p.opts.length+p.data.length by omega];rfl
theorem afj (p:lS) (s:Nat):(p.head 0).take 10++oU 2 s++(p.head 0).drop 12=p.head s:=by
 rw[head_eq,head_eq];simp[oU]
def akI (p:lS) (w w':World) (r:eY) (e:Int):Prop:=
 e=p.check/\(p.check≠0->r=⟨none,0,0⟩)/\(p.check=0->Buf w' r (bytesV p.bytes))/\Ext w w'/\∀b,eY.at r b->w.heap.size<=b
theorem aez {w:World} (p:lS) {o d:eY} (ho:iF w o p.opts) (hd:iF w d p.data) (h1:p.opts.length<=2^46) (h2:p.data.length<=2^46):
  Ai p.tos p.id p.off p.ttl p.proto p.src p.dst p.df p.mf o d w λr e w'=>akI p w w' r e:=by
 apply Zl;refine fP λa w1 r1 e1 z1 f1=> ?_;simp -zeta only[sx,gJ,ig,getElem?_cons_zero,getElem?_cons_succ,r1.cell];refine uH (yj p (o:=o) (d:=d) ho.1 hd.1 h1 h2) ?_;rintro _ w2 ⟨rfl,f2⟩;have r2:=r1.ext f2;by_cases hc:p.check=0
 ·have hc':(p.check !=0)=false:=by rw[hc];rfl
  simp -zeta only[cond_false,getElem?_cons_zero,getElem?_cons_succ,fC,fE,fD,gW,r2.cell,hc'];refine Wj (ac_ p (o:=o) (d:=d) ho.1 hd.1 h1 h2) ?_;rintro _ w3 ⟨b,rfl,r3,f3,e3⟩;have hlen:((nY p).length:Int)=10:=rfl;have hsm:=(Am hc).2.1;have x3:Ext w w3:=(f1.trans f2).trans f3;have put_len:∀l n k,(nI l n k).length<=l.length+4:=λl n k=>by
   unfold nI;split
   ·rename_i h;have:=h.1.2;simp[nV];omega
   ·omega
  refine fZ (λst W=>∃i:Nat,i<=10/\st.2.1=i/\Buf W st.1 (bytesV (((nY p).take i).foldl (λl f=>nI l f.1 f.2) []))/\(((nY p).take i).foldl (λl f=>nI l f.1 f.2) []).length<=4 * i/\Ext w3 W/\∀c,eY.at st.1 c->w3.heap.size<=c)
   (λst _=>10 - st.2.1.toNat) ⟨0,by omega,rfl,Buf.nil,by simp,Ext.refl _,by rintro c ⟨_,h⟩;cases h⟩ ?_
  rintro⟨s,x,⟨⟩⟩ W ⟨i,hi,rfl,hb,hl,hx,hs⟩ next u
  have rb:=r3.ext hx;by_cases I:i<10
  ·have j:((i:Int)<((10:Nat):Int)):=by omega
   simp only[j,decide_true,cond_true];have z:(nY p)[i]? =some (nY p)[i]:=List.getElem?_eq_getElem I;generalize (nY p)[i]=f at z;have c0:W.cell? ⟨b,i * 2,none⟩=some (.int .i64 f.1):=by
    have:=flat_get WG 2 QF (nY p) i 0 (by omega);rw[Nat.add_zero] at this;rw[rb.cell,this,z];rfl
   have c1:W.cell? ⟨b,i * 2+1,none⟩=some (.int .i64 f.2):=by
    rw[rb.cell,flat_get WG 2 QF _ _ 1 (by omega),z];rfl
   simp -zeta only[sx,gJ,ig,Int.toNat_natCast,c0,c1];refine⟨by omega,by omega,uP rfl rfl λc w4 r4 e4 z4 f4=> ?_⟩;simp -zeta only[sx,gJ,ig,getElem?_cons_zero,getElem?_cons_succ,r4.cell];refine pG (AU (iF.jI (hb.ext f4)) (by omega) f.1 f.2) ?_;rintro s5 w5 ⟨b5,f5,n5⟩;rw[wrap_i64 (by omega) (by omega)];have J:=hx.size;have hsz4:=f4.size;have ef:((nY p).take (i+1)).foldl (λl f=>nI l f.1 f.2) []=nI (((nY p).take i).foldl (λl f=>nI l f.1 f.2) []) f.1 f.2:=by
    rw[take_succ_eq_append_getElem I,List.foldl_append];have:(nY p)[i]=f:=by rw[List.getElem?_eq_getElem I] at z;simpa using z
    rw[this];rfl
   refine u _ _ ⟨i+1,by omega,by simp,by rw[ef];exact b5,?_,(hx.trans f4).trans f5,λy hy=>by have:=n5 y hy;omega⟩ (by simp only;omega);rw[ef];have:=put_len (((nY p).take i).foldl (λl f=>nI l f.1 f.2) []) f.1 f.2;omega
  ·have j:¬((i:Int)<((10:Nat):Int)):=by omega
   simp only[j,decide_false,cond_false];have:i=10:=by omega
   subst this;rw[show (nY p).take 10=nY p from rfl] at hb hl;have rW:=r2.ext (f3.trans hx);simp -zeta only[getElem?_cons_zero,getElem?_cons_succ,fC,fE,rW.cell];have J:=hx.size;have hsz3:=x3.size;refine kU hb (ho.ext (x3.trans hx)) (by omega) λs6 w6 b6 f6 n6 _=> ?_;rw[YF hc] at b6;have x6:Ext w3 w6:=hx.new f6 λy hy h=>by have:=hs y h;omega
   have l6:(p.head 0).length=20+p.opts.length:=QT p 0;refine fP λc w7 r7 e7 z7 f7=> ?_;refine UQ (aiT (GY r7 (iF.jI (b6.ext f7))) (by simp) (by intro q hq;simp only[List.mem_singleton] at hq;subst hq;simp only;omega)) ?_;rintro _ w8 ⟨rfl,f8⟩;rw[SH];have e8:65535 - fold (tot (p.head 0))=p.sum:=rfl;rw[e8];have hsl:p.sum<65536:=by unfold lS.sum;omega
   refine UO (aga (iF.jI ((b6.ext f7).ext f8)) (by omega) 10 (p.sum:Int) 2) ?_;rintro s9 e9 w9 ⟨hr9,f9,n9⟩;obtain⟨rfl,b9⟩:=acf ⟨⟨by omega,by omega⟩,by omega,by simp;omega⟩ (by omega) (by omega) hr9;rw[show (10:Int).toNat=10 from rfl,show (2:Int).toNat=2 from rfl,Int.toNat_natCast,show (10+2:Nat)=12 from rfl,afj] at b9;have x9:Ext w3 w9:=((x6.trans f7).trans f8).trans f9;have r9:=r2.ext (f3.trans x9);simp only[getElem?_cons_zero,getElem?_cons_succ,fC,fE,r9.cell];have l9:(p.head p.sum).length=20+p.opts.length:=QT p _;refine kU b9 (hd.ext (x3.trans x9)) (by omega) λs10 w10 U f10 n10 _=> ?_;have z6:=x6.size;have z9':=((x6.trans f7).trans f8).size;have z9:=x9.size;refine⟨hc.symm,λh=>absurd hc h,λ_=>U,x3.trans (x9.new f10 λy hy h=>by have:=n9 y h;omega),λy hy=> ?_⟩;rcases n10 y hy with h|h
   ·have:=n9 y h;omega
   ·omega
 ·have hc':(p.check !=0)=true:=by simpa using hc
  simp -zeta only[cond_true,hc'];exact⟨rfl,λ_=>rfl,λh=>absurd h hc,f1.trans f2,by rintro b ⟨o,h⟩;cases h⟩
theorem afU {w:World} {s:eY} {l:List UInt8} (h:iF w s l) (hl:l.length<=2^46) {i k:Nat} (hk:1<=k/\k<=4) (hi:i+k<=l.length) (x y:Int):fH s x y (i:Int) (k:Int) w λr w'=>r=(num l i k:Int)/\Ext w w':=by
 apply Ny;refine fP λa w1 r1 _ _ f1=> ?_;simp only[sx,gJ,ig,getElem?_cons_zero,r1.cell];refine GH (WT (h.ext f1) (by omega) _ _) ?_;rintro n e _ ⟨rfl,hr⟩;exact⟨ahr hk hi hr,f1⟩
theorem Xd {w:World} {s:eY} {l:List UInt8} (h:iF w s l) (hl:l.length<=2^46) {i k:Int} (hk:1<=k/\k<=4) (hi:0<=i/\i+k<=l.length) (x y:Int):fH s x y i k w λr w'=>r=(num l i.toNat k.toNat:Int)/\Ext w w':=by
 obtain⟨m,rfl⟩:∃m:Nat,k=(m:Int):=⟨k.toNat,by omega⟩;obtain⟨o,rfl⟩:∃o:Nat,i=(o:Int):=⟨i.toNat,by omega⟩;exact afU h hl (by omega) (by omega) x y
def OG (w:World) (q:lS) (t i o l p s d:Int) (df mf:Bool) (op da:eY):Prop:=
 t=q.tos/\i=q.id/\o=q.off/\l=q.ttl/\p=q.proto/\s=q.src/\d=q.dst/\df=q.df/\mf=q.mf/\iF w op q.opts/\iF w da q.data
def amg (w:World) (s:eY):Prop:=∀x,s.a=some x->w.heap.size<=x.block
theorem K_ (l:List UInt8) (i:Nat):num l i 2<65536:=by
 have:=Rt ((l.drop i).take 2);have h2:(256:Nat)^((l.drop i).take 2).length<=256^2:=Nat.pow_le_pow_right (by omega) (by simp;omega);unfold num;omega
theorem aae {n k:Nat} (hn:n<2^63) (hk:k<63):(wH .i64 (n:Int) ((2^k:Nat):Int) !=0)=(n / 2^k % 2==1):=by
 have hp:0<2^k:=Nat.pow_pos (by omega);have hp2:2^k<2^63:=Nat.pow_lt_pow_right (by omega) hk;rw[VG hn hp2,agV];have:n / 2^k % 2=0\/n / 2^k % 2=1:=by omega
 rcases this with h|h
 ·rw[h];simp
 ·rw[h,Nat.one_mul];generalize 2^k=q at hp;have:((q:Int) !=0)=true:=by simp;omega
  rw[this];rfl
set_option maxRecDepth 100000 in
theorem Ve {w:World} {s:eY} {l:List UInt8} (hs:iF w s l) (hl:l.length<=2^46) (h1:20<=hlen l) (h2:hlen l<=l.length) (h3:hlen l<=num l 2 2):
  jY s (hlen l:Int) (num l 2 2:Int) w λt i o l' p s' d df mf op da w'=>OG w' (field l) t i o l' p s' d df mf op da/\amg w op/\amg w da/\Ext w w':=by
 apply Il;refine fP λa w1 r1 e1 z1 f1=>fP λb w2 r2 e2 z2 f2=> ?_;have ra2:=r1.ext f2;have hsl:=hs.1;simp -zeta only[sx,gJ,ig,getElem?_cons_zero,getElem?_cons_succ,ra2.cell];have hs2:=(hs.ext f1).ext f2;refine qW (afU (i:=6) (k:=2) hs2 hl (by omega) (by omega) _ _) ?_;rintro _ w3 ⟨rfl,f3⟩;have x3:Ext w w3:=(f1.trans f2).trans f3;have ra3:=ra2.ext f3;have rb3:=r2.ext f3;have hs3:=hs2.ext f3;have j:=f3.size;intro J;have hJ:∀c W,Row W c [.int .i64 (num l 1 1:Int),.int .i64 (num l 4 2:Int),.int .i64 0,.int .i64 (num l 8 1:Int),.int .i64 (num l 9 1:Int),.int .i64 (num l 12 4:Int),.int .i64 (num l 16 4:Int),.bool false,.bool false,.slice none 0 0,.slice none 0 0]->Ext w3 W->w3.heap.size<=c->J ⟨c,0,none⟩ W:=by
  intro c W rc hx hc;simp only[sx,gJ,ig,J];have n6:=K_ l 6;refine gB rc rfl (by simp) λw4 r4 f4 z4=>gB r4 rfl (by simp) λw5 r5 f5 z5=>gB r5 rfl (by simp) λw6 r6 f6 z6=> ?_;have x6:Ext w3 w6:=hx.new (((f4 (·=c) rfl).trans (f5 (·=c) rfl) λ_ _ e=>e).trans (f6 (·=c) rfl) λ_ _ e=>e) λy hy e=>by omega
  have ra6:=ra3.ext x6;have hs6:=hs3.ext x6;have hsz6:=x6.size;simp only[List.set_cons_zero,List.set_cons_succ] at r6;simp only[getElem?_cons_zero,getElem?_cons_succ,fC,fE,fD,ra6.cell];refine mF hs6 (by omega) (by omega) (by omega) λs7 hs7 _=> ?_;refine gu (lK hs7 (by simp;omega)) ?_;rintro o8 w8 ⟨b8,_,f8,n8⟩;have r8:=r6.ext f8;refine gB r8 rfl (by simp) λw9 r9 f9 z9=> ?_;have f89:Ext w6 w8:=f8;have x9:Ext w3 w9:=(x6.trans f8).new (f9 (·=c) rfl) λy hy e=>by omega
  have ra9:=ra3.ext x9;have hs9:=hs3.ext x9;have hsz8:=f8.size;have b9:Buf w9 o8 _:=b8.fr (f9 (·=c) rfl) λy hy e=>by
   have:=n8 y hy;have:=r6.lt;omega
  simp only[List.set_cons_zero,List.set_cons_succ] at r9;simp only[getElem?_cons_zero,getElem?_cons_succ,fC,fE,fD,ra9.cell];have u:(if (s.len:Int)<(num l 2 2:Int) then (s.len:Int) else (num l 2 2:Int))=((min (num l 2 2) l.length:Nat):Int):=by
   split<;>omega
  rw[u];refine mF hs9 (by omega) (by omega) (by omega) λs10 hs10 _=> ?_;refine gu (lK hs10 (by simp;omega)) ?_;rintro d11 w11 ⟨I,_,f11,n11⟩;have Z:=r9.ext f11;have hsz11:=f11.size;have hcl:=r9.lt;refine gB Z rfl (by simp) λz U f12 z12=> ?_;have Y:Ext w3 z:=(x9.trans f11).new (f12 (·=c) rfl) λy hy e=>by omega
  have aa:Buf z o8 _:=(b9.ext f11).fr (f12 (·=c) rfl) λy hy e=>by
   have:=n8 y hy;have:=r6.lt;omega
  have d12:Buf z d11 _:=I.fr (f12 (·=c) rfl) λy hy e=>by
   have:=n11 y hy;omega
  simp only[List.set_cons_zero,List.set_cons_succ] at U;simp only[getElem?_cons_zero,getElem?_cons_succ,fC,fE,fD,gW,U.cell];have rb12:=rb3.ext Y;refine fK rb12 rfl rfl λw13 ab f13 z13=> ?_;simp only[getElem?_cons_zero,getElem?_cons_succ,fC,fE,fD,gW,ab.cell];have hb3:=rb3.lt;have e8191:wH .i64 (num l 6 2:Int) 8191=((num l 6 2 % 8192:Nat):Int):=by
   have:=VG (a:=num l 6 2) (b:=8191) (by omega) (by omega);rw[show (8191:Nat)=2^13 - 1 by decide,Pm] at this;exact this
  have hszx:=x3.size;refine⟨⟨rfl,rfl,?_,rfl,rfl,rfl,rfl,?_,?_,?_,?_⟩,λx hx=>by have:=n8 _ (b8.at_eq hx);omega,λx hx=>by have:=n11 _ (I.at_eq hx);omega,?_⟩
  ·rw[e8191,wrap_i64 (by omega) (by omega)];simp only[field];omega
  ·exact aae (k:=14) (by omega) (by omega)
  ·exact aae (k:=13) (by omega) (by omega)
  ·refine iF.jI (aa.fr (f13 (·=b) rfl) λy hy e=> ?_);have:=n8 y hy;omega
  ·have e:(l.take (min (num l 2 2) l.length)).drop (hlen l)=(field l).data:=by
    simp only[field];congr 1;rw[Nat.min_comm,<- List.take_take,take_of_length_le (by rw[length_take];omega)]
   have d13:=d12.fr (f13 (·=b) rfl) λy hy e=>by
    have:=n11 y hy;omega
   rw[Int.toNat_natCast,Int.toNat_natCast,e] at d13;exact iF.jI d13
  ·exact(x3.trans Y).new (f13 (·=b) rfl) λy hy e=>by have:=f1.size;omega
 have ra3d:=ra3.drew;simp -zeta only[getElem?_cons_zero,getElem?_cons_succ,fC,fE,fD,ra3d.cell];have hx:=Ext.drew w3;have l2:20<=l.length:=by omega
 clear j
 repeat' (first
  |(with_reducible refine And.intro ?_ ?_)
  |((with_reducible refine qW (Xd (hs3.ext hx) hl (by omega) (by omega) _ _) ?_);rintro _ W ⟨rfl,f⟩;replace hx:=hx.trans f;(try replace rc:=rc.ext f);(try simp -zeta only[sx,gJ,ig,true_and,getElem?_cons_zero,getElem?_cons_succ,(ra3.ext hx).cell]))
  |((with_reducible refine fP λc W rc ec _ f=> ?_);have hc:=hx.size;rw[<- ec] at hc;clear ec;replace hx:=hx.trans f;(try simp -zeta only[sx,gJ,ig,true_and,getElem?_cons_zero,getElem?_cons_succ,(ra3.ext hx).cell]))
  |((with_reducible refine fK rc rfl rfl λW rc2 fc zc=> ?_);exact hJ _ W rc2 (hx.new (fc (·=_) rfl) λy hy e=>by omega) hc))
end Go.Proofs.VN
end
