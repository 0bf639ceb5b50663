import Derived.Test.YtfndjkoiappemaaGreatW12
import Derived.Test.YtfndjkoiappemaaGreatW10
import Derived.Test.YtfndjkoiappemaaGreatW3
import Derived.Test.YtfndjkoiappemaaGreatW2
section
namespace Go.Proofs.EN
open Gp Go.Proofs
open Gp.Bind (Bnd Slots live GoodB freeN getS In64)
set_option maxRecDepth 100000
set_option maxHeartbeats 2000000
variable {w w':World} {a:EA} {c:Cf} {e:ES}
def eB (b:Bnd):List Value:=[.int .i64 b.sw,.int .i64 b.pr,.int .i64 b.ad,.int .i64 b.po,.int .i64 b.opr,.int .i64 b.oad,.int .i64 b.opo,.bool b.st]
theorem Og (b:Bnd):(eB b).length=8:=rfl
theorem ac6 (b:Bnd):∀v∈eB b,gY v=true:=by
 intro v hv
 simp only [eB,List.mem_cons,List.not_mem_nil,or_false] at hv
 rcases hv with rfl|rfl|rfl|rfl|rfl|rfl|rfl|rfl<;>rfl
def eS (b:Gp.Ses.Ses):List Value:=[.int .i64 b.bd,.int .i64 b.st,.int .i64 b.un,.int .i64 b.ra,.int .i64 b.rp]
theorem VX (b:Gp.Ses.Ses):(eS b).length=5:=rfl
theorem acW (b:Gp.Ses.Ses):∀v∈eS b,gY v=true:=by
 intro v hv
 simp only [eS,List.mem_cons,List.not_mem_nil,or_false] at hv
 rcases hv with rfl|rfl|rfl|rfl|rfl<;>rfl
def zA (x:Int):Value:= .int .i64 x
theorem eqN (a b:Int):A_ Tryz.prog 16 3 (zA a) (zA b)=some (decide (a=b)):=WN.eqW a b
theorem VP (a:Int):kZ Tryz.prog 3 (zA a)=true:=WN.WV a
def plk (l:List (Int×Bnd)) (k:Int):Option Int:=(l.zipIdx.reverse.find? fun x=>x.1.1==k).map fun x=>(x.2:Int)
theorem Zt (l:List (Int×Bnd)) (x:Int×Bnd) (k:Int):plk (l++[x]) k=if k=x.1 then some (l.length:Int) else plk l k:=by
 unfold plk
 rw [List.zipIdx_append,List.reverse_append]
 simp only [List.zipIdx_cons,List.zipIdx_nil,List.reverse_cons,List.reverse_nil,List.nil_append,List.singleton_append,List.find?_cons]
 by_cases h:k=x.1
 ·subst h;simp
 ·have:(x.1==k)=false:=by simpa using fun e=>h e.symm
  simp [this,h]
def Ou (e:ES):List Gp.Ses.Ses:=(Gp.Ses.live 0 e.SS).map fun x=>{x.2 with bd:=(plk (live 0 e.S) x.2.bd).getD 0}
theorem abQ (d:Nat) (w:World) {K:Value->World->Prop} (h:∀f w',Row w' f [.pointer (some ⟨d,0,none⟩)]->f=w.heap.size->w'.heap.size=f+1->Ext w w'->K (Value.func (.func Dq) #[] #[(Value.pointer (some ⟨f,0,none⟩))]) w'):AB (some ⟨d,0,none⟩) w K:=by
 apply NQ
 exact⟨rfl,fK fun f w1 r1 e1 z1 f1=>h f w1 r1 e1 z1 f1⟩
theorem abU (d:Nat) (w:World) {K:Value->World->Prop} (h:∀f w',Row w' f [.pointer (some ⟨d,0,none⟩)]->f=w.heap.size->w'.heap.size=f+1->Ext w w'->K (Value.func (.func wo) #[] #[(Value.pointer (some ⟨f,0,none⟩))]) w'):sN (some ⟨d,0,none⟩) w K:=by
 apply DX
 exact⟨rfl,fK fun f w1 r1 e1 z1 f1=>h f w1 r1 e1 z1 f1⟩
theorem UH (h:uM w a c e):jK (some ⟨a.d,0,none⟩) w fun n w'=>n=(e.l.length:Int)/\w'=w:=WN.abh h.wh.wm
def vwC (now:Nat) (bs ss:b_) (t:Nat):List Value:=[.int .i64 (now:Int),.slice bs.a bs.len bs.cap,.slice ss.a ss.len ss.cap,.int .i64 0,.int .i64 0,.int .i64 (t:Int),.slice none 0 0]
def UN:b_:=⟨none,0,0⟩
theorem take_succ {α:Type} {l:List α} {i:Nat} {x:α} (h:l[i]? =some x):l.take (i+1)=l.take i++[x]:=by
 obtain⟨hi,hx⟩:=List.getElem?_eq_some_iff.1 h
 rw [List.take_succ_eq_append_getElem hi,hx]
theorem Xy (h:uM w a c e) (hsz:e.S.length<=4096/\e.SS.length<=4096) {K:Int->b_->b_->Int->Int->Int->b_->World->Prop}
  (hK:∀bs ss w',Ext w w'->iI 8 eB w' bs ((live 0 e.S).map (·.2))->iI 5 eS w' ss (Ou e)->(∀b,b_.at bs b->w.heap.size<=b)->(∀b,b_.at ss b->w.heap.size<=b)->K (e.now:Int) bs ss 0 0 (e.l.length:Int) UN w'):
  ku (some ⟨a.x,0,none⟩) w K:=by
 apply Gy
 refine fK fun r w1 r1 e1 z1 f1=> ?_
 have h1:=h.ext f1
 refine ni (FN h1) ?_
 rintro _ w1 ⟨rfl,hw⟩
 subst hw
 rw [Bool.not_true,cond_false]
 intro J
 have hJ:∀vb W,Ext w1 W->Row W vb (vwC e.now UN UN e.l.length)->w1.heap.size<=vb->J ⟨vb,0,none⟩ W:=by
  intro vb W hW hv hvb
  simp only [J]
  refine SN.CW (enc:=zA) (ev:=zA) fun w2 m2 z2 f2=> ?_
  refine fK fun q w3 r3 e3 z3 f3=> ?_
  refine gu r3 rfl (by simp) fun w4 r4 f4' z4=> ?_
  have f4:fD w3 w4 (·=q):=f4' _ rfl
  simp only [List.set_cons_zero] at r4
  have hvl:=hv.lt
  have x4:Ext W w4:=(f2.trans f3).new f4 fun y hy e=>by omega
  have m4:=(m2.ext f3).fr f4 (by omega)
  have h4:=h1.ext (hW.trans x4)
  have v4:=hv.ext x4
  refine lu.2 (fM (k:= .ptr) (i:=2) (x:=some ⟨a.B.d,0,none⟩) h4.hd rfl ?_)
  refine abQ a.B.d w4 fun f w5 r5 e5 z5 f5=> ?_
  have h5:=h4.ext f5
  have m5:=m4.ext f5
  have v5:=v4.ext f5
  have q5:=r4.ext f5
  have zW:w1.heap.size<=W.heap.size:=hW.size
  have z14:W.heap.size+2<=w4.heap.size/\q<w4.heap.size/\W.heap.size<q:=by omega
  have hold:∀k b,own a k b->b<w1.heap.size:=fun k b hb=>Nat.lt_of_lt_of_le (h.lt k b hb) f1.size
  have hla:lg none w5=w5.heap.size+1:=rfl
  have hmp:W.heap.size≠q/\W.heap.size≠vb/\q≠vb:=by omega
  refine xA (Go.Proofs.N_ c.nb.toNat e.S e.Mi e.Mo a.B f) (fun i X=>∃bs M,Row X vb (vwC e.now bs UN e.l.length)/\iI 8 eB X bs (((live 0 e.S).map (·.2)).take i)/\oz zA zA X W.heap.size M/\(∀k,jl M k=plk ((live 0 e.S).take i) k)/\
    fD w5 X (fun b=>b=vb\/b=W.heap.size)/\(∀b,b_.at bs b->lg none w5<b)/\w5.heap.size+2<=X.heap.size)
   (fun _ _=>False) (by simp) ?_ ?_ ?_ (by intro e W W' h;exact h.elim) (by intro e W h;exact h.elim) ?_ ?_ (by intro W h;exact h.elim) (by intro id W h;exact h.elim)
  ·intro X hX hz
   refine⟨UN,[],v5.ext hX,by simpa [UN] using iI.nil,m5.ext hX,fun k=>rfl,hX _,(fun b ⟨o,hb⟩=>by cases hb),by omega⟩
  ·rintro i X ⟨bs,M,h1,h2,h3,h4',h5',h6,h7⟩
   have hn:∀b,b<w1.heap.size->¬(b=vb\/b=W.heap.size):=fun b hb e=>by omega
   exact⟨r5.fr h5' (by omega),(h5.db).fr h5' fun b hb=>hn b (hold 3 b hb)⟩
  ·rintro i X X' ⟨bs,M,h1,h2,h3,h4',h5',h6,h7⟩ hf
   exact⟨bs,M,h1.fr hf (by omega),h2.fr hf fun b hb e=>by have:=h6 b hb;omega,h3.fr hf (by omega),h4',h5'.trans hf fun b hb e=>by omega,h6,by have:=hf.size;omega⟩
  ·rintro i x X Kb hx ⟨bs,M,h1,h2,h3,h4',h5',h6,h7⟩ hlt hk _
   rw [show yD (live 0 e.S)=(live 0 e.S).map _ from rfl,List.getElem?_map] at hx
   cases hb:(live 0 e.S)[i]? with
   |none=>rw [hb] at hx;simp at hx
   |some p=>
   rw [hb] at hx
   simp only [Option.map_some,Option.some.injEq] at hx
   subst hx
   have hil:i<(live 0 e.S).length:=(List.getElem?_eq_some_iff.1 hb).1
   have hll:=Gp.Bind.jT e.S 0
   have hbl:bs.len=i:=by rw [(h2.sl Og (by omega)).len,List.length_take,List.length_map];omega
   refine fK fun u w6 r6 e6 z6 f6=> ?_
   refine fP r6 rfl rfl fun w7 r7 f7' z7=> ?_
   have x7:Ext X w7:=f6.new (f7' (·=u) rfl) fun y hy e=>by omega
   refine⟨(x7 fun _=>False).same _ hlt (by simp),?_⟩
   have fb:=fD.fB w7 (lg none w5)
   have zb:(fB w7 (lg none w5)).heap.size=w7.heap.size:=by simp [fB]
   have hX7:=x7.size
   have v8:=(h1.ext x7).fr fb (by omega)
   have b8:=(h2.ext x7).fr fb fun b hb e=>by have:=h6 b hb;omega
   have m8:=(h3.ext x7).fr fb (by omega)
   have q8:=((q5.fr h5' (by omega)).ext x7).fr fb (by omega)
   have u8:=r7.fr fb (by omega)
   refine fM (k:= .map) (i:=0) (x:=some W.heap.size) q8 rfl (fM (k:= .slice) (i:=1) (x:=bs) v8 rfl ?_)
   refine I9 (enc:=zA) (ev:=zA) m8 eqN p.1 (bs.len:Int) (VP _) fun w9 m9 f9 z9=> ?_
   have v9:=v8.fr f9 (by omega)
   have b9:=b8.fr f9 fun b hb e=>by have:=h6 b hb;omega
   have u9:=u8.fr f9 (by omega)
   refine fM (k:= .slice) (i:=1) (x:=bs) v9 rfl ?_
   simp only [sx,u9.cell]
   refine fK fun y w10 r10 e10 z10 f10=> ?_
   have sl:kH 8 eB w10 ⟨some ⟨y,0,none⟩,1,1⟩ [p.2]:=(iI.row (xs:=[p.2]) (by simpa [eB] using r10)).sl Og (by omega)
   refine mg Og (b9.ext f10) sl rfl (by omega) ac6 (by simp;omega) (by simp;omega) fun s' w11 b11 f11 p11=> ?_
   have hbv:¬b_.at bs vb:=fun hb=>by have:=h6 vb hb;omega
   have hbm:¬b_.at bs W.heap.size:=fun hb=>by have:=h6 _ hb;omega
   have v11:=(v9.ext f10).fr f11 hbv
   have m11:=(m9.ext f10).fr f11 hbm
   refine gu v11 rfl (by simp [vwC]) fun w12 r12 f12' z12=> ?_
   have f12:fD w11 w12 (·=vb):=f12' _ rfl
   have hs':∀b,b_.at s' b->lg none w5<b:=fun b hb=>by
    rcases p11 b hb with h|h
    ·exact h6 b h
    ·omega
   have fr:fD (fB X (lg none w5)) w12 (fun b=>b=vb\/b=W.heap.size\/b_.at bs b):=by
    have g1:fD (fB X (lg none w5)) w9 (fun b=>b=vb\/b=W.heap.size\/b_.at bs b):=(CN.Ai (x7 _) _).trans f9 fun b _ hb=> .inr (.inl hb)
    exact((g1.ext f10).trans f11 fun b _ hb=> .inr (.inr hb)).trans f12 fun b _ hb=> .inl hb
   refine hk w12 _ fr ?_ ⟨s',_,?_,?_,m11.fr f12 (by omega),?_,?_,hs',?_⟩
   ·rintro b hb1 hb2 (h|h|h)
    ·omega
    ·omega
    ·have:=h6 b h;omega
   ·exact r12
   ·have htk:((live 0 e.S).map (·.2)).take (i+1)=((live 0 e.S).map (·.2)).take i++[p.2]:=take_succ (by rw [List.getElem?_map,hb];rfl)
    rw [htk]
    exact b11.fr f12 fun b hb e=>by have:=hs' b hb;omega
   ·intro k
    rw [Du,take_succ hb,Zt,h4',List.length_take,hbl,Nat.min_eq_left (by omega)]
   ·refine(h5'.trans (fD.fB X _) fun b hb e=>by omega).trans fr ?_
    rintro b hb (h|h|h)
    ·exact .inl h
    ·exact .inr h
    ·have:=h6 b h;omega
   ·have:=fr.size
    have hbx:(fB X (lg none w5)).heap.size=X.heap.size:=by simp [fB]
    omega
  ·rintro X ⟨bs,M,b1,b2,b3,b4,b5,b6,b7⟩ hm
   have hyl:(yD (live 0 e.S)).length=(live 0 e.S).length:=by simp [yD]
   rw [hyl] at b2 b4
   rw [List.take_of_length_le (by simp)] at b2
   rw [List.take_length] at b4
   have hn:∀b,b<w1.heap.size->¬(b=vb\/b=W.heap.size):=fun b hb e=>by omega
   have hX:=h5.fr b5 fun k b hb=>hn b (hold k b hb)
   refine lu.2 (fM (k:= .ptr) (i:=3) (x:=some ⟨a.T.d,0,none⟩) hX.hd rfl ?_)
   refine abU a.T.d X fun f' w6 r6 e6 z6 f6=> ?_
   have hla':lg none w6=w6.heap.size+1:=rfl
   have h6:=hX.ext f6
   have m6:=b3.ext f6
   have v6:=b1.ext f6
   have q6:=(q5.fr b5 (by omega)).ext f6
   have hm6:w6.heap[w5.heap.size]? =some (.deferred (some [])):=by
    rw [(f6 fun _=>False).same _ (by omega) (by simp)];exact hm rfl
   have hviewl:(Ou e).length=(Gp.Ses.live 0 e.SS).length:=by simp [Ou]
   have hlen6:X.heap.size<=w6.heap.size:=f6.size
   refine xA (SN.N_ c.ns.toNat e.SS e.M a.T f') (fun i Y=>∃ss,Row Y vb (vwC e.now bs ss e.l.length)/\iI 5 eS Y ss ((Ou e).take i)/\fD w6 Y (fun b=>b=vb)/\(∀b,b_.at ss b->lg none w6<b)/\w6.heap.size+2<=Y.heap.size)
    (fun _ _=>False) (by simp) ?_ ?_ ?_ (by intro e W W' h;exact h.elim) (by intro e W h;exact h.elim) ?_ ?_ (by intro W h;exact h.elim) (by intro id W h;exact h.elim)
   ·intro Y hY hz
    exact⟨UN,v6.ext hY,by simpa [UN] using iI.nil,hY _,(fun b ⟨o,hb⟩=>by cases hb),by omega⟩
   ·rintro i Y ⟨ss,g1,g2,g3,g4,g5⟩
    exact⟨r6.fr g3 (by omega),(h6.se).fr g3 fun b hb e=>by have:=hold 4 b hb;omega⟩
   ·rintro i Y Y' ⟨ss,g1,g2,g3,g4,g5⟩ hf
    exact⟨ss,g1.fr hf (by omega),g2.fr hf fun b hb e=>by have:=g4 b hb;omega,g3.trans hf fun b hb e=>by omega,g4,by have:=hf.size;omega⟩
   ·rintro i x Y Kb hx ⟨ss,g1,g2,g3,g4,g5⟩ hlt hk _
    rw [show SN.yS (Gp.Ses.live 0 e.SS)=(Gp.Ses.live 0 e.SS).map _ from rfl,List.getElem?_map] at hx
    cases hb:(Gp.Ses.live 0 e.SS)[i]? with
    |none=>rw [hb] at hx;simp at hx
    |some p=>
    rw [hb] at hx
    simp only [Option.map_some,Option.some.injEq] at hx
    subst hx
    have hil:i<(Gp.Ses.live 0 e.SS).length:=(List.getElem?_eq_some_iff.1 hb).1
    have hll:=Gp.Ses.jT e.SS 0
    have hbl:ss.len=i:=by rw [(g2.sl VX (by omega)).len,List.length_take];omega
    refine fK fun u w7 r7 e7 z7 f7=> ?_
    refine fP r7 rfl rfl fun w8 r8 f8' z8=> ?_
    have x8:Ext Y w8:=f7.new (f8' (·=u) rfl) fun y hy e=>by omega
    refine⟨(x8 fun _=>False).same _ hlt (by simp),?_⟩
    have fb:=fD.fB w8 (lg none w6)
    have zb:(fB w8 (lg none w6)).heap.size=w8.heap.size:=by simp [fB]
    have hY8:=x8.size
    have v9:=(g1.ext x8).fr fb (by omega)
    have b9:=(g2.ext x8).fr fb fun b hb e=>by have:=g4 b hb;omega
    have m9:=((m6.fr g3 (by omega)).ext x8).fr fb (by omega)
    have q9:=((q6.fr g3 (by omega)).ext x8).fr fb (by omega)
    have u9:=r8.fr fb (by omega)
    refine fM (k:= .map) (i:=0) (x:=some W.heap.size) q9 rfl (fM (k:= .int .i64) (i:=0) (x:=p.2.bd) u9 rfl ?_)
    have hplace:∀Q:Int->Prop,Q ((plk (live 0 e.S) p.2.bd).getD 0)->sH Tryz.prog 3 (.int .i64) (some W.heap.size) (Value.int .i64 p.2.bd) (Value.int .i64 0) (fB w8 (lg none w6)) Q:=by
     intro Q hQ
     refine BP (k:= .int .i64) (enc:=zA) (ev:=zA) m9 eqN p.2.bd (VP _) (fun hn=> ?_) (fun b hb=> ?_)
     ·rw [b4] at hn
      rw [hn] at hQ
      simp only [fC]
      exact hQ
     ·rw [b4] at hb
      rw [hb] at hQ
      simp only [zA,fC]
      exact hQ
    refine hplace _ ?_
    refine gu u9 rfl (by simp) fun w10 r10 f10' z10=> ?_
    have f10:fD (fB w8 (lg none w6)) w10 (·=u):=f10' _ rfl
    simp only [List.set_cons_zero] at r10
    have v10:=v9.fr f10 (by omega)
    have b10:=b9.fr f10 fun b hb e=>by have:=g2.lt hb;omega
    refine fM (k:= .slice) (i:=2) (x:=ss) v10 rfl ?_
    simp only [sx,r10.cell]
    refine fK fun y w11 r11 e11 z11 f11=> ?_
    have sl:kH 5 eS w11 ⟨some ⟨y,0,none⟩,1,1⟩ [({p.2 with bd:=(plk (live 0 e.S) p.2.bd).getD 0}:Gp.Ses.Ses)]:=(iI.row (xs:=[({p.2 with bd:=(plk (live 0 e.S) p.2.bd).getD 0}:Gp.Ses.Ses)]) (by simpa [eS] using r11)).sl VX (by omega)
    refine mg VX (b10.ext f11) sl rfl (by omega) acW (by simp;omega) (by simp;omega) fun s' w12 b12 f12 p12=> ?_
    have hbv:¬b_.at ss vb:=fun hb=>by have:=g4 vb hb;omega
    have v12:=(v10.ext f11).fr f12 hbv
    refine gu v12 rfl (by simp [vwC]) fun w13 r13 f13' z13=> ?_
    have f13:fD w12 w13 (·=vb):=f13' _ rfl
    have hs':∀b,b_.at s' b->lg none w6<b:=fun b hb=>by
     rcases p12 b hb with h|h
     ·exact g4 b h
     ·omega
    have fr:fD (fB Y (lg none w6)) w13 (fun b=>b=vb\/b_.at ss b):=by
     have g1:fD (fB Y (lg none w6)) w10 (fun b=>b=vb\/b_.at ss b):=(CN.Ai (x8 _) _).trans f10 fun b hb e=>by(have:(fB Y (lg none w6)).heap.size=Y.heap.size:=by simp [fB]);omega
     exact((g1.ext f11).trans f12 fun b _ hb=> .inr hb).trans f13 fun b _ hb=> .inl hb
    refine hk w13 _ fr ?_ ⟨s',r13,?_,?_,hs',?_⟩
    ·rintro b hb1 hb2 (h|h)
     ·omega
     ·have:=g4 b h;omega
    ·have htk:(Ou e).take (i+1)=(Ou e).take i++[({p.2 with bd:=(plk (live 0 e.S) p.2.bd).getD 0}:Gp.Ses.Ses)]:=take_succ (by unfold Ou;rw [List.getElem?_map,hb];rfl)
     rw [htk]
     exact b12.fr f13 fun b hb e=>by have:=hs' b hb;omega
    ·refine(g3.trans (fD.fB Y _) fun b hb e=>by omega).trans fr ?_
     rintro b hb (h|h)
     ·exact h
     ·have:=g4 b h;omega
    ·have:=fr.size
     have hbx:(fB Y (lg none w6)).heap.size=Y.heap.size:=by simp [fB]
     omega
   ·rintro Y ⟨ss,g1,g2,g3,g4,g5⟩ hm'
    have hyl:(SN.yS (Gp.Ses.live 0 e.SS)).length=(Gp.Ses.live 0 e.SS).length:=by simp [SN.yS]
    rw [hyl,List.take_of_length_le (by omega)] at g2
    simp only [sx,g1.cell,vwC]
    have zz:=x4.size
    have rr:Row Y r _:=((((r1.ext hW).ext (x4.trans f5)).fr b5 (by omega)).ext f6).fr g3 (by omega)
    refine fP rr rfl rfl fun w7 r7 f7' z7=> ?_
    have f7:fD Y w7 (·=r):=f7' _ rfl
    have hm7:w7.heap[w6.heap.size]? =some (.deferred (some [])):=by
     rw [f7.same _ (by omega) (by omega)];exact hm' rfl
    have fp1:=fD.jC w7 w6.heap.size (.deferred none)
    have fp2:=fD.jC (w7.putObj w6.heap.size (.deferred none)) w5.heap.size (.deferred none)
    refine⟨hm7,?_,?_⟩
    ·have e1:(w7.putObj w6.heap.size (.deferred none)).heap[w5.heap.size]? =w7.heap[w5.heap.size]? :=fp1.same _ (by omega) (by omega)
     rw [e1,f7.same _ (by omega) (by omega),g3.same _ (by omega) (by omega)]
     exact hm6
    have r9:=(r7.fr fp1 (by omega)).fr fp2 (by omega)
    simp only [sx,r9.cell]
    refine hK bs ss _ ?_ ?_ ?_ ?_ ?_
    ·have q1:Ext w w5:=(f1.trans hW).trans (x4.trans f5)
     have q2:Ext w X:=q1.new b5 fun b hb e=>by have:=f1.size;omega
     have q3:Ext w Y:=(q2.trans f6).new g3 fun b hb e=>by have:=f1.size;omega
     have q4:Ext w w7:=q3.new f7 fun b hb e=>by omega
     exact(q4.new fp1 fun b hb e=>by have:=q2.size;omega).new fp2 fun b hb e=>by have:=q1.size;omega
    ·have t1:=(b2.ext f6).fr g3 fun b hb e=>by have:=b6 b hb;omega
     exact((t1.fr f7 fun b hb e=>by have:=b6 b hb;omega).fr fp1 fun b hb e=>by have:=b2.lt hb;omega).fr fp2 fun b hb e=>by have:=b6 b hb;omega
    ·exact((g2.fr f7 fun b hb e=>by have:=g4 b hb;omega).fr fp1 fun b hb e=>by have:=g4 b hb;omega).fr fp2 fun b hb e=>by have:=g4 b hb;omega
    ·intro b hb;have:=b6 b hb;have:=f1.size;omega
    ·intro b hb;have:=g4 b hb;have:=f1.size;omega
 clear_value J
 have hd:=h1.ext (Ext.drew w1)
 have c41:=hd.c41
 have c4:=hd.c4
 simp only [sx,c41,c4]
 refine⟨?_,?_⟩
 ·refine zF (UH hd) ?_
  rintro n w2 ⟨rfl,hw2⟩
  subst hw2
  refine⟨c41,fK fun vb w3 r3 e3 z3 f3=> ?_⟩
  refine⟨BG c4 f3,BG c41 f3,?_⟩
  refine fP r3 rfl rfl fun w4 r4 f4' z4=> ?_
  have hwd:w1.drew.heap.size=w1.heap.size:=rfl
  exact hJ vb w4 (((Ext.drew w1).trans f3).new (f4' (·=vb) rfl) fun y hy e=>by omega) r4 (by omega)
 ·refine fK fun vb w3 r3 e3 z3 f3=> ?_
  refine⟨BG c4 f3,BG c41 f3,?_⟩
  refine zF (UH (hd.ext f3)) ?_
  rintro n w2 ⟨rfl,hw2⟩
  subst hw2
  refine⟨BG c41 f3,?_⟩
  refine fP r3 rfl rfl fun w4 r4 f4' z4=> ?_
  have hwd:w1.drew.heap.size=w1.heap.size:=rfl
  exact hJ vb w4 (((Ext.drew w1).trans f3).new (f4' (·=vb) rfl) fun y hy e=>by omega) r4 (by omega)
end Go.Proofs.EN
end
section
namespace Go.Proofs.EN
open Gp Go.Proofs Go.Proofs.CN
open Gp.Bind (Bnd Slots live GoodB freeN getS In64)
set_option maxRecDepth 100000
set_option maxHeartbeats 2000000
def toB (x:T7):Bnd:=⟨x.1,x.2.1,x.2.2.1,x.2.2.2.1,x.2.2.2.2.1,x.2.2.2.2.2.1,x.2.2.2.2.2.2.1,true⟩
inductive Maps (c:Cf) (e0:ES):List Bnd->ES->Prop
 |nil:Maps c e0 [] e0
 |no {l:List Bnd} {e:ES} {b:Bnd}:Maps c e0 l e->AX c e b≠0->Maps c e0 (l++[b]) e
 |yes {l:List Bnd} {e:ES} {b:Bnd} {i:Nat} {Mi Mo:ByteArray->Option Int} {Q:List Int} {G:List (PN.O3×Unit)}:Maps c e0 l e->AX c e b=0->freeN e.S=some i->Maps c e0 (l++[b]) {e with S:=e.S.set i (some b),Mi:=Mi,Mo:=Mo,Q:=Q,G:=G}
theorem qJ:∀(k j:Nat),live j (List.replicate k none)=[]
 |0,_=>rfl
 |k+1,j=>by rw [List.replicate_succ,live];exact qJ k _
theorem Qz:∀(k j:Nat),Gp.Ses.live j (List.replicate k none)=[]
 |0,_=>rfl
 |k+1,j=>by rw [List.replicate_succ,Gp.Ses.live];exact Qz k _
def e0 (n nb ns:Nat):ES:=⟨0,List.replicate nb none,fun _=>none,fun _=>none,List.replicate n 0,[],List.replicate ns none,fun _=>none,[],0,0,fun _ _=>[]⟩
theorem abp {ls lp lt n18 n19 n20 n21 n22 n23 n24 n25 n26 n27 n28 n29 n30 n31 n32 n33 n34:Int} {p:oI} {n:Nat} {sl:List oI} {pl:List Int} {tl:List T7} (h:OkP p ls lp lt n18 n19 n20 n21 n22 n23 n24 n25 n26 n27 n28 n29 n30 n31 n32 n33 n34 n sl pl tl):
  (1<=ls/\ls<=64)/\(1<=lp/\lp<=16)/\(0<=lt/\lt<=64)/\(1<=n18/\n18<=65535)/\(n18<=n19/\n19<=65535)/\(1<=n20/\n20<=4096)/\(1<=n21/\n21<=4096)/\(1<=n22/\n22<=4096):=by
 have b:=h.nums
 simp only [WL,List.mem_cons,List.not_mem_nil,or_false,forall_eq_or_imp,forall_eq,okB] at b
 obtain⟨b1,b2,b3,b4,b5,b6,b7,b8,_⟩:=b
 refine⟨b1,b2,⟨b3.1,?_⟩,b4,b5,b6,b7,b8⟩
 have:=b3.2
 split at this<;>omega
theorem Oy {p:oI} {n:Nat} {sl:List oI} {pl:List Int} {tl:List T7} (h:wL p n sl pl tl=true):∀x∈pl,kX x:=by
 intro x hx
 unfold wL at h
 simp only [Bool.and_eq_true,Bool.not_eq_true',List.any_eq_false] at h
 have:=h.2.2.1 x hx
 simpa using this
theorem XY {w:World} {p0 p1 p2 p3 p4 p5 p6 p7 p8 p9 p10 p11 p12 p13 p14 p15:Int} {sw po:b_} {n18 n19 n20 n21 n22 n23 n24 n25 n26 n27 n28 n29 n30 n31 n32 n33 n34:Int} {st:b_} {sl:List oI} {pl:List Int} {tl:List T7} (hsw:kH 16 e16 w sw sl) (hpo:kH 1 eI w po pl) (hst:kH 7 e7 w st tl) (lsw:sw.len<=2^40) (lpo:po.len<=2^40) (lst:st.len<=2^40)
  {K:Option Addr->Int->World->Prop}
  (hbad:∀r w',Ext w w'->r≠0->chk (p0,p1,p2,p3,p4,p5,p6,p7,p8,p9,p10,p11,p12,p13,p14,p15,()) sw.len po.len st.len n18 n19 n20 n21 n22 n23 n24 n25 n26 n27 n28 n29 n30 n31 n32 n33 n34 sw.len sl pl tl r->K none r w')
  (hok:OkP (p0,p1,p2,p3,p4,p5,p6,p7,p8,p9,p10,p11,p12,p13,p14,p15,()) sw.len po.len st.len n18 n19 n20 n21 n22 n23 n24 n25 n26 n27 n28 n29 n30 n31 n32 n33 n34 sw.len sl pl tl->Dv (p0,p1,p2,p3,p4,p5,p6,p7,p8,p9,p10,p11,p12,p13,p14,p15,()) sl pl tl sw.len n20->
   ∀w' a e,Ext w w'->uM w' a ⟨jh p0 p1 p2 p3 p4 p5 p6 p7 p8 p9 p10 p11 p12 p13 p14 p15 sw po n18 n19 n20 n21 n22 n23 n24 n25 n26 n27 n28 n29 n30 n31 n32 n33 n34 st,sw,pl,n18,n19,n20,n21,n22⟩ e->Inv ⟨jh p0 p1 p2 p3 p4 p5 p6 p7 p8 p9 p10 p11 p12 p13 p14 p15 sw po n18 n19 n20 n21 n22 n23 n24 n25 n26 n27 n28 n29 n30 n31 n32 n33 n34 st,sw,pl,n18,n19,n20,n21,n22⟩ e->NoS e->Maps ⟨jh p0 p1 p2 p3 p4 p5 p6 p7 p8 p9 p10 p11 p12 p13 p14 p15 sw po n18 n19 n20 n21 n22 n23 n24 n25 n26 n27 n28 n29 n30 n31 n32 n33 n34 st,sw,pl,n18,n19,n20,n21,n22⟩ (e0 sw.len n21.toNat n22.toNat) (tl.map toB) e->(∀k b,own a k b->w.heap.size<=b)->K (some ⟨a.x,0,none⟩) 0 w'):
  zO p0 p1 p2 p3 p4 p5 p6 p7 p8 p9 p10 p11 p12 p13 p14 p15 sw po n18 n19 n20 n21 n22 n23 n24 n25 n26 n27 n28 n29 n30 n31 n32 n33 n34 st w K:=by
 apply Vl
 refine fK fun a w1 r1 e1 z1 f1=> ?_
 have rd:∀W (Q:_),Row W a (jh p0 p1 p2 p3 p4 p5 p6 p7 p8 p9 p10 p11 p12 p13 p14 p15 sw po n18 n19 n20 n21 n22 n23 n24 n25 n26 n27 n28 n29 n30 n31 n32 n33 n34 st)->Q p0 p1 p2 p3 p4 p5 p6 p7 p8 p9 p10 p11 p12 p13 p14 p15 sw po n18 n19 n20 n21 n22 n23 n24 n25 n26 n27 n28 n29 n30 n31 n32 n33 n34 st->vF W ⟨a,0,none⟩ Q:=by
  intro W Q hr hq
  simp only [sx,hr.cell]
  exact hq
 refine rd _ _ r1 ?_
 refine MV (ZY (hsw.ext f1) (hpo.ext f1) (hst.ext f1) lsw lpo lst) ?_
 rintro r w2 ⟨hc,f2⟩
 have x2:=f1.trans f2
 by_cases hr:r=0
 rotate_left
 ·have:(r !=0)=true:=by rw [bne_iff_ne];exact hr
  rw [this,cond_true]
  exact hbad r w2 x2 hr hc
 have:(r !=0)=false:=by rw [bne_eq_false_iff_eq];exact hr
 rw [this,cond_false]
 subst hr
 rcases hc with ⟨_,h⟩|⟨hOk,⟨_,h⟩|⟨hfine,_⟩⟩
 ·cases h
 ·cases h
 have hK:=hok hOk hfine
 have hn:=abp hOk
 obtain⟨b1,b2,b3,b4,b5,b6,b7,b8⟩:=hn
 have r2:=r1.ext f2
 refine rd _ _ r2 ?_
 refine fK fun x w3 r3 e3 z3 f3=> ?_
 have x3:=x2.trans f3
 have r2:=r2.ext f3
 refine fM (k:= .slice) (i:=17) (x:=po) r2 rfl (fM (k:= .int .i64) (i:=18) (x:=n18) r2 rfl (fM (k:= .int .i64) (i:=19) (x:=n19) r2 rfl ?_))
 have hpl:=(hpo.ext x3).len
 refine UE (PN.KY (hpo.ext x3) (by omega) (by omega) hfine.2.1 (Oy hOk.parts) (by omega) (by omega) (by omega)) ?_
 rintro _ _ w4 ⟨rfl,f4,p,g,ps,rfl,hP,nP⟩
 have lP:∀b,PN.fp p g ps b->b<w4.heap.size:=fun b hb=>by
  rcases hb with h|h|h
  ·rw [h];exact hP.hd.lt
  ·rw [h];exact hP.gv.lt
  ·exact hP.ad.lt h
 have r2:=r2.ext f4
 refine lu.2 (gu (i:=0) (r3.ext f4) rfl (by simp) fun w5 r5 f5' z5=> ?_)
 have f5:fD w4 w5 (·=x):=f5' _ rfl
 have zx:x<w3.heap.size/\a<x:=by have:=f2.size;omega
 have hP:=hP.fr f5 fun b hb e=>by have:=nP b hb;omega
 have r2:=r2.fr f5 (by omega)
 refine fM (k:= .slice) (i:=16) (x:=sw) r2 rfl (fM (k:= .int .i64) (i:=20) (x:=n20) r2 rfl ?_)
 refine TI (QN.KY (sw.len:Int) n20 w5) ?_
 rintro q _ w6 ⟨f6,hq⟩
 have f6:Ext w5 w6:=f6
 rcases hq with ⟨hnew,rfl,qb,qs,rfl,nq1,nq2,hQ⟩|⟨hnn,_,_⟩
 rotate_left
 ·exact absurd ⟨by omega,by omega,by omega,by omega⟩ hnn
 have lQ:qb<w6.heap.size/\qs<w6.heap.size:=⟨hQ.hd.lt,hQ.row.lt⟩
 have hP:=hP.ext f6
 have r2:=r2.ext f6
 refine lu.2 (gu (i:=1) (r5.ext f6) rfl (by simp) fun w7 r7 f7' z7=> ?_)
 have f7:fD w6 w7 (·=x):=f7' _ rfl
 have s4:=f4.size
 have s6:=f6.size
 have hP:=hP.fr f7 fun b hb e=>by have:=nP b hb;omega
 have hQ:=hQ.fr f7 (by omega) (by omega)
 have r2:=r2.fr f7 (by omega)
 refine fM (k:= .int .i64) (i:=21) (x:=n21) r2 rfl ?_
 refine Vk (abL n21 w7) ?_
 rintro _ _ w8 ⟨f8,⟨hnn,_,_⟩|⟨_,_,rfl,B,rfl,nB,hB⟩⟩
 ·exact absurd ⟨by omega,by omega⟩ hnn
 have hP:=hP.ext f8
 have hQ:=hQ.fr (f8 fun _=>False) (by simp) (by simp)
 have r2:=r2.ext f8
 refine lu.2 (gu (i:=2) (r7.ext f8) rfl (by simp) fun w9 r9 f9' z9=> ?_)
 have f9:fD w8 w9 (·=x):=f9' _ rfl
 have s8:=f8.size
 have hP:=hP.fr f9 fun b hb e=>by have:=nP b hb;omega
 have hQ:=hQ.fr f9 (by omega) (by omega)
 have hB:=hB.fr f9 fun b hb e=>by have:=(nB b hb).1;omega
 have r2:=r2.fr f9 (by omega)
 refine fM (k:= .int .i64) (i:=22) (x:=n22) r2 rfl ?_
 refine NG (SN.ab4 n22 w9) ?_
 rintro _ _ w10 ⟨f10,⟨hnn,_,_⟩|⟨_,_,rfl,T,rfl,nT,hT⟩⟩
 ·exact absurd ⟨by omega,by omega⟩ hnn
 have hP:=hP.ext f10
 have hQ:=hQ.fr (f10 fun _=>False) (by simp) (by simp)
 have hB:=hB.ext f10
 have r2:=r2.ext f10
 refine lu.2 (gu (i:=3) (r9.ext f10) rfl (by simp) fun w11 r11 f11' z11=> ?_)
 have f11:fD w10 w11 (·=x):=f11' _ rfl
 have s10:=f10.size
 have lT:∀b,SN.fp T b->b<w10.heap.size:=fun b hb=>hT.lt hb
 have hP:=hP.fr f11 fun b hb e=>by have:=nP b hb;omega
 have hQ:=hQ.fr f11 (by omega) (by omega)
 have hB:=hB.fr f11 fun b hb e=>by have:=(nB b hb).1;omega
 have hT:=hT.fr f11 fun b hb e=>by have:=nT b hb;omega
 have r2:=r2.fr f11 (by omega)
 refine fM (k:= .int .i64) (i:=22) (x:=n22) r2 rfl ?_
 refine I5 (WN.Xv n22 ⟨by omega,by omega⟩ w11) ?_
 rintro _ _ w12 ⟨f12,rfl,d,m,ss,rfl,hW,nW⟩
 have f12:Ext w11 w12:=f12
 have hP:=hP.ext f12
 have hQ:=hQ.fr (f12 fun _=>False) (by simp) (by simp)
 have hB:=hB.ext f12
 have hT:=hT.ext f12
 have r2:=r2.ext f12
 refine lu.2 (gu (i:=4) (r11.ext f12) rfl (by simp) fun w13 r13 f13' z13=> ?_)
 have f13:fD w12 w13 (·=x):=f13' _ rfl
 have s12:=f12.size
 have lW:∀b,WN.mF d m ss b->b<w12.heap.size:=fun b hb=>hW.wm.lt hb
 have hP:=hP.fr f13 fun b hb e=>by have:=nP b hb;omega
 have hQ:=hQ.fr f13 (by omega) (by omega)
 have hB:=hB.fr f13 fun b hb e=>by have:=(nB b hb).1;omega
 have hT:=hT.fr f13 fun b hb e=>by have:=nT b hb;omega
 have hW:=hW.fr f13 fun b hb e=>by have:=nW b hb;omega
 have r2:=r2.fr f13 (by omega)
 simp only [List.set_cons_zero,List.set_cons_succ] at r13
 have x13:Ext w w13:=by
  have q5:=(x3.trans f4).new f5 fun b hb e=>by have:=x2.size;omega
  have q7:=(q5.trans f6).new f7 fun b hb e=>by have:=x2.size;omega
  have q9:=(q7.trans f8).new f9 fun b hb e=>by have:=x2.size;omega
  have q11:=(q9.trans f10).new f11 fun b hb e=>by have:=x2.size;omega
  exact(q11.trans f12).new f13 fun b hb e=>by have:=x2.size;omega
 have hqo:=QN.abn hnew
 rw [Int.toNat_natCast] at hqo
 have hQ':QN.QR w13 qb qs (List.replicate sw.len 0) n20:=by simpa using hQ
 have key:∀k b,own ⟨x,p,g,ps,qb,qs,B,T,d,m,ss⟩ k b->(k=0/\b=x)\/(k=1/\w3.heap.size<=b/\b<w4.heap.size)\/(k=2/\w5.heap.size<=b/\b<w6.heap.size)\/(k=3/\w7.heap.size<=b/\b<w8.heap.size)\/(k=4/\w9.heap.size<=b/\b<w10.heap.size)\/(k=5/\w11.heap.size<=b/\b<w12.heap.size):=by
  intro k b ho
  match k,ho with
  |0,ho=>exact .inl ⟨rfl,ho⟩
  |1,ho=>exact .inr (.inl ⟨rfl,nP b ho,lP b ho⟩)
  |2,ho=>
   refine .inr (.inr (.inl ⟨rfl,?_⟩))
   rcases ho with h|h<;>simp only at h<;>omega
  |3,ho=>exact .inr (.inr (.inr (.inl ⟨rfl,nB b ho⟩)))
  |4,ho=>exact .inr (.inr (.inr (.inr (.inl ⟨rfl,nT b ho,lT b ho⟩))))
  |5,ho=>exact .inr (.inr (.inr (.inr (.inr ⟨rfl,nW b ho,lW b ho⟩))))
  |(n+6),ho=>exact ho.elim
 have hE:uM w13 ⟨x,p,g,ps,qb,qs,B,T,d,m,ss⟩ ⟨jh p0 p1 p2 p3 p4 p5 p6 p7 p8 p9 p10 p11 p12 p13 p14 p15 sw po n18 n19 n20 n21 n22 n23 n24 n25 n26 n27 n28 n29 n30 n31 n32 n33 n34 st,sw,pl,n18,n19,n20,n21,n22⟩ (e0 sw.len n21.toNat n22.toNat):=by
  refine⟨⟨rfl,rfl,rfl,rfl,rfl,by simp only;omega,by simp only;omega,by simp only;omega,by simp only;omega,Oy hOk.parts⟩,r13,hP,hQ',hqo,hB,hT,hW,?_,?_⟩
  ·intro k k' b h1 h2
   have h1:=key k b h1
   have h2:=key k' b h2
   omega
  ·intro k b h1
   have h1:=key k b h1
   omega
 have hI:Inv ⟨jh p0 p1 p2 p3 p4 p5 p6 p7 p8 p9 p10 p11 p12 p13 p14 p15 sw po n18 n19 n20 n21 n22 n23 n24 n25 n26 n27 n28 n29 n30 n31 n32 n33 n34 st,sw,pl,n18,n19,n20,n21,n22⟩ (e0 sw.len n21.toNat n22.toNat):=by
  refine⟨by simp [e0],fun i hi=> ?_,fun o=> ?_,fun j b hj=> ?_⟩
  ·have h1:R_ (e0 sw.len n21.toNat n22.toNat).S i=0:=by
    unfold R_
    show ((live 0 (List.replicate n21.toNat none)).filter _).length=0
    rw [qJ];rfl
   rw [h1]
   show (List.replicate sw.len (0:Int)).getD i.toNat 0=((0:Nat):Int)
   rw [List.getD_eq_getElem?_getD,List.getElem?_replicate]
   split<;>rfl
  ·constructor
   ·intro h;simp [e0] at h
   ·rintro⟨j,b,hj,_⟩
    have hj:(List.replicate n21.toNat (none:Option Bnd))[j]? =some (some b):=hj
    rw [List.getElem?_replicate] at hj
    split at hj<;>simp at hj
  ·have hj:(List.replicate n21.toNat (none:Option Bnd))[j]? =some (some b):=hj
   rw [List.getElem?_replicate] at hj
   split at hj<;>simp at hj
 have hS:NoS (e0 sw.len n21.toNat n22.toNat):=Qz _ _
 have hnew:∀k b,own ⟨x,p,g,ps,qb,qs,B,T,d,m,ss⟩ k b->w.heap.size<=b:=fun k b h=>by
  have h1:=key k b h
  have:=x2.size
  omega
 refine fM (k:= .slice) (i:=35) (x:=st) r2 rfl ?_
 have hlt:=hst.len
 refine fE (fun s W=>∃(j:Nat) (a:EA) (e:ES),j<=tl.length/\s.1=(j:Int)/\Ext w W/\uM W a ⟨jh p0 p1 p2 p3 p4 p5 p6 p7 p8 p9 p10 p11 p12 p13 p14 p15 sw po n18 n19 n20 n21 n22 n23 n24 n25 n26 n27 n28 n29 n30 n31 n32 n33 n34 st,sw,pl,n18,n19,n20,n21,n22⟩ e/\Inv ⟨jh p0 p1 p2 p3 p4 p5 p6 p7 p8 p9 p10 p11 p12 p13 p14 p15 sw po n18 n19 n20 n21 n22 n23 n24 n25 n26 n27 n28 n29 n30 n31 n32 n33 n34 st,sw,pl,n18,n19,n20,n21,n22⟩ e/\NoS e/\Maps ⟨jh p0 p1 p2 p3 p4 p5 p6 p7 p8 p9 p10 p11 p12 p13 p14 p15 sw po n18 n19 n20 n21 n22 n23 n24 n25 n26 n27 n28 n29 n30 n31 n32 n33 n34 st,sw,pl,n18,n19,n20,n21,n22⟩ (e0 sw.len n21.toNat n22.toNat) ((tl.take j).map toB) e/\(∀k b,own a k b->w.heap.size<=b)/\a.x=x)
  (fun s _=>(st.len - s.1).toNat) ⟨0,_,_,by omega,rfl,x13,hE,hI,hS,Maps.nil,hnew,rfl⟩ ?_
 rintro⟨i,⟨⟩⟩ W ⟨j,aj,ej,hj,hi,hx,hEj,hIj,hSj,hMj,hnj,hxj⟩ next hnext
 simp only at hi
 subst hi
 by_cases hl:(j:Int)<(st.len:Int)
 ·simp only [hl,decide_true,cond_true]
  have hg:=List.getElem?_eq_getElem (show j<tl.length by omega)
  generalize tl[j]=y at hg
  obtain⟨y0,y1,y2,y3,y4,y5,y6,⟨⟩⟩:=y
  refine jg vP (by omega) (hst.ext hx) (by omega) (by rw [Int.toNat_natCast];exact hg) fun ad hc=> ?_
  have c0:=hc 0 _ rfl;have c1:=hc 1 _ rfl;have c2:=hc 2 _ rfl;have c3:=hc 3 _ rfl;have c4:=hc 4 _ rfl;have c5:=hc 5 _ rfl;have c6:=hc 6 _ rfl
  simp only [XK,c0,c1,c2,c3,c4,c5,c6,fA,OI]
  refine fK fun t w14 r14 e14 z14 f14=> ?_
  refine fP r14 rfl rfl fun w15 r15 f15' z15=> ?_
  have xx:Ext W w15:=f14.new (f15' (·=t) rfl) fun b hb e=>by omega
  simp only [sx,r15.cell]
  have htk:(tl.take (j+1)).map toB=(tl.take j).map toB++[toB (y0,y1,y2,y3,y4,y5,y6,())]:=by rw [take_succ hg,List.map_append];rfl
  rw [<- hxj]
  refine zN (map_ok (hEj.ext xx) hIj (toB (y0,y1,y2,y3,y4,y5,y6,())) rfl) ?_
  rintro r w16 ⟨rfl,⟨hne,f16⟩|⟨he,_,f16,A,i,Mi,Mo,Q,G,hfree,hfp,hE',hI'⟩⟩
  ·rw [wrap_i64 (by omega) (by omega)]
   have:=(hEj.ext xx).ext f16
   refine hnext _ _ ⟨j+1,aj,ej,by omega,by simp,(hx.trans xx).trans f16,this,hIj,hSj,?_,hnj,hxj⟩ (by simp only;omega)
   rw [htk]
   exact Maps.no hMj hne
  ·rw [wrap_i64 (by omega) (by omega)]
   refine hnext _ _ ⟨j+1,{aj with B:=A},_,by omega,by simp,(hx.trans xx).new f16 fun b hb ⟨k,hk⟩=>by have:=hnj k b hk;omega,hE',hI',hSj,?_,?_,hxj⟩ (by simp only;omega)
   ·rw [htk]
    exact Maps.yes hMj he hfree
   ·intro k b hk
    have zz:=(hx.trans xx).size
    match k,hk with
    |0,ho=>exact hnj 0 b ho
    |1,ho=>exact hnj 1 b ho
    |2,ho=>exact hnj 2 b ho
    |3,ho=>
     rcases hfp b ho with h|h
     ·exact hnj 3 b h
     ·omega
    |4,ho=>exact hnj 4 b ho
    |5,ho=>exact hnj 5 b ho
    |(n+6),ho=>exact ho.elim
 ·simp only [hl,decide_false,cond_false]
  have:j=tl.length:=by omega
  subst this
  rw [List.take_length] at hMj
  rw [<- hxj]
  exact hK W aj ej hx hEj hIj hSj hMj hnj
end Go.Proofs.EN
end
section
namespace Go.Proofs.PS
open Gp Go.Proofs Go.Proofs.EN
open Gp.Bind (Bnd Slots live GoodB freeN getS In64)
set_option maxRecDepth 100000
set_option maxHeartbeats 1000000
theorem abJ (w:World):kP (IntKind.u64.wrap ((0:Nat):Int)) w fun r w'=>r=0/\w'=w:=WN.abJ w
theorem acN (s:b_) (lim:Int) (v:Value) (w:World):fZ s 0 ((0:Nat):Int) lim v w fun w'=>w'=w:=by
 apply tK
 refine fE (fun st W=>W=w/\st.1=0/\st.2.1=0) (fun _ _=>0) ⟨rfl,rfl,rfl⟩ ?_
 rintro⟨a,b,c,d,e,⟨⟩⟩ W ⟨rfl,ha,hb⟩ next hnext
 simp only at ha hb
 subst ha hb
 have:decide ((IntKind.i64.wrap ((0:Int) - 0))<=12)=true:=rfl
 rw [this,cond_true]
 have h:gJ s 0 0 v W fun w'=>w'=W:=by
  apply pF
  refine fE (fun st W'=>W'=W/\st.1=1) (fun _ _=>0) ⟨rfl,rfl⟩ ?_
  rintro⟨a,⟨⟩⟩ W' ⟨rfl,ha⟩ next' hnext'
  simp only at ha
  subst ha
  have:decide ((1:Int)<0)=false:=rfl
  rw [this,cond_false]
 refine pq h ?_
 rintro w' hw
 exact hw
theorem adq (v:Value) (w:World):gQ ⟨none,0,0⟩ v w fun w'=>w'=w:=by
 apply qg
 refine BX (abJ w) ?_
 rintro r w' ⟨rfl,hw⟩
 subst hw
 exact tN (acN _ _ _ _) fun w' hw=>hw
abbrev lK:List Shape:=[.agg [(.int .i64),(.int .i64),(.int .i64),(.int .i64)],.one (.int .i64)]
theorem RQ (A:SA) (c:Cf) (v:SV) (f0:Nat) (hL:v.LI=[]):
  n_ Tryz.prog lK (Value.func (.func vK) #[] #[(Value.pointer (some ⟨f0,0,none⟩))])
   (fun W=>Row W f0 [.pointer (some ⟨A.s,0,none⟩)]/\Srv W A c v) []:=by
 refine⟨by kernel_rfl,fun n Q D hC hQ hD hy w h0=> ?_⟩
 refine Calls.mono (Cb (a0:= .func (.yield n) #[] #[]) (f0:=⟨f0,0,none⟩) (K:=fun w'=>Q 0 w'\/D w') ?_) (fun e w' h=>h)
 obtain⟨r0,h⟩:=hC _ _ h0
 refine fM (k:= .ptr) (i:=0) (x:=some ⟨A.s,0,none⟩) r0 rfl ?_
 refine qO (zh h) ?_
 rintro _ w2 ⟨rfl,hw⟩
 subst hw
 rw [Bool.not_true,cond_false]
 refine fM (k:= .ptr) (i:=0) (x:=some ⟨A.s,0,none⟩) r0 rfl (lu.2 (fM (k:= .map) (i:=2) (x:=some A.ml) h.hd rfl ?_))
 have hli:=h.li
 rw [hL] at hli
 refine aaO hli fun w3 it f3 z3=> ?_
 have hlt:=h.lt 3 A.ml rfl
 refine fE (fun st W=>W=w3/\st=(⟨none,0,0⟩,())) (fun _ _=>0) ⟨rfl,rfl⟩ ?_
 rintro st W ⟨rfl,rfl⟩ next hnext
 refine⟨rfl,?_⟩
 refine abY it (by omega) (fun _=> ?_) (fun i x w0 hi=>by simp at hi)
 refine pX (adq _ _) ?_
 intro w4 hw4
 subst hw4
 refine fE (fun st W=>W=w4/\st.1=0) (fun _ _=>0) ⟨rfl,rfl⟩ ?_
 rintro⟨i,⟨⟩⟩ W ⟨rfl,hi⟩ next' hnext'
 simp only at hi
 subst hi
 have:decide ((0:Int)<(((⟨none,0,0⟩:b_).len:Nat):Int))=false:=rfl
 rw [this,cond_false]
 exact .inl (hQ 0 w2 W h0 f3)
end Go.Proofs.PS
end
section
namespace Go.Proofs.PS
open Gp Go.Proofs Go.Proofs.EN Go.Proofs.CN Go.Proofs.PM
open Gp.Bind (Bnd Slots live GoodB freeN getS In64)
set_option maxRecDepth 100000
set_option maxHeartbeats 2000000
structure Dc where
 op:Int
 sw:Int
 ad:Int
 nw:Int
 s:b_
 l:List UInt8
def eD (x:Dc):List Value:=[.int .i64 x.op,.int .i64 x.sw,.int .i64 x.ad,.int .i64 x.nw,.slice x.s.a x.s.len x.s.cap]
theorem Zo (x:Dc):(eD x).length=5:=rfl
structure Vg (w:World) (s:b_) (xs:List Dc):Prop where
 sl:kH 5 eD w s xs
 by_:∀x∈xs,rO w x.s x.l
 ad:∀x∈xs,In64 x.ad
theorem Vg.ext {w w':World} {s:b_} {xs:List Dc} (h:Vg w s xs) (hf:Ext w w'):Vg w' s xs:=⟨h.sl.ext hf,fun x hx=>(h.by_ x hx).ext hf,h.ad⟩
theorem Z4 {w:World} {p0 p1 p2 p3 p4 p5 p6 p7 p8 p9 p10 p11 p12 p13 p14 p15:Int} {sw po:b_} {n18 n19 n20 n21 n22 n23 n24 n25 n26 n27 n28 n29 n30 n31 n32 n33 n34:Int} {st:b_}:uq p0 p1 p2 p3 p4 p5 p6 p7 p8 p9 p10 p11 p12 p13 p14 p15 sw po n18 n19 n20 n21 n22 n23 n24 n25 n26 n27 n28 n29 n30 n31 n32 n33 n34 st w fun r w'=>r=decide (sw.len<=8/\po.len<=4/\st.len<=12)/\Ext w w':=by
 apply OJ
 refine fK fun a w1 r1 e1 z1 f1=> ?_
 intro J
 have hJ:∀q,q=decide (sw.len<=8/\po.len<=4/\st.len<=12)->J q:=fun q hq=>⟨hq,f1⟩
 clear_value J
 refine fM (k:= .slice) (i:=16) (x:=sw) r1 rfl ?_
 by_cases c1:(sw.len:Int)<=8
 rotate_left
 ·rw [decide_eq_false c1,cond_false]
  exact hJ _ (decide_eq_false fun h=>by omega).symm
 rw [decide_eq_true c1,cond_true]
 refine fM (k:= .slice) (i:=17) (x:=po) r1 rfl ?_
 by_cases c2:(po.len:Int)<=4
 rotate_left
 ·rw [decide_eq_false c2,cond_false]
  exact hJ _ (decide_eq_false fun h=>by omega).symm
 rw [decide_eq_true c2,cond_true]
 refine fM (k:= .slice) (i:=35) (x:=st) r1 rfl ?_
 refine hJ _ (decide_eq_decide.2 ?_)
 omega
theorem xP {w:World} {p0 p1 p2 p3 p4 p5 p6 p7 p8 p9 p10 p11 p12 p13 p14 p15:Int} {sw po:b_} {n18 n19 n20 n21 n22 n23 n24 n25 n26 n27 n28 n29 n30 n31 n32 n33 n34:Int} {st:b_} {sl:List oI} {pl:List Int} {tl:List T7} (hsw:kH 16 e16 w sw sl) (hpo:kH 1 eI w po pl) (hst:kH 7 e7 w st tl) {K:Bool->World->Prop}
  (h0:∀w',Ext w w'->K false w')
  (h1:∀w',Ext w w'->sw.len<=8->po.len<=4->st.len<=12->chk (p0,p1,p2,p3,p4,p5,p6,p7,p8,p9,p10,p11,p12,p13,p14,p15,()) sw.len po.len st.len n18 n19 n20 n21 n22 n23 n24 n25 n26 n27 n28 n29 n30 n31 n32 n33 n34 sw.len sl pl tl 0->K true w'):
  AP p0 p1 p2 p3 p4 p5 p6 p7 p8 p9 p10 p11 p12 p13 p14 p15 sw po n18 n19 n20 n21 n22 n23 n24 n25 n26 n27 n28 n29 n30 n31 n32 n33 n34 st w K:=by
 apply Ov
 refine fK fun a w1 r1 e1 z1 f1=> ?_
 have rd:∀W (Q:_),Row W a (jh p0 p1 p2 p3 p4 p5 p6 p7 p8 p9 p10 p11 p12 p13 p14 p15 sw po n18 n19 n20 n21 n22 n23 n24 n25 n26 n27 n28 n29 n30 n31 n32 n33 n34 st)->Q p0 p1 p2 p3 p4 p5 p6 p7 p8 p9 p10 p11 p12 p13 p14 p15 sw po n18 n19 n20 n21 n22 n23 n24 n25 n26 n27 n28 n29 n30 n31 n32 n33 n34 st->vF W ⟨a,0,none⟩ Q:=by
  intro W Q hr hq
  simp only [sx,hr.cell]
  exact hq
 intro J
 have hJ0:∀W,Ext w W->J false W:=fun W hW=>h0 W hW
 have hJ1:∀W,Ext w W->sw.len<=8->po.len<=4->st.len<=12->chk (p0,p1,p2,p3,p4,p5,p6,p7,p8,p9,p10,p11,p12,p13,p14,p15,()) sw.len po.len st.len n18 n19 n20 n21 n22 n23 n24 n25 n26 n27 n28 n29 n30 n31 n32 n33 n34 sw.len sl pl tl 0->J true W:=fun W hW=>h1 W hW
 clear_value J
 refine rd _ _ r1 ?_
 refine Om Z4 ?_
 rintro _ w2 ⟨rfl,f2⟩
 by_cases hs:sw.len<=8/\po.len<=4/\st.len<=12
 rotate_left
 ·rw [decide_eq_false hs,cond_false]
  exact hJ0 _ (f1.trans f2)
 rw [decide_eq_true hs,cond_true]
 have x2:=f1.trans f2
 refine rd _ _ (r1.ext f2) ?_
 refine PD (Vy (hsw.ext x2) (hpo.ext x2) (hst.ext x2) (by omega) (by omega) (by omega)) ?_
 rintro r w3 ⟨hc,f3⟩
 by_cases hr:r=0
 ·subst hr
  exact hJ1 _ (x2.trans f3) hs.1 hs.2.1 hs.2.2 hc
 ·have:(r==0)=false:=by simpa using hr
  rw [this]
  exact hJ0 _ (x2.trans f3)
theorem aaM {S:Slots} (h:∀(j:Nat) (b:Bnd),¬S[j]? =some (some b)):live 0 S=[]:=by
 cases hl:live 0 S with
 |nil=>rfl
 |cons x l=>
  obtain⟨v,b⟩:=x
  have:(v,b)∈live 0 S:=by rw [hl];exact List.mem_cons_self
  obtain⟨i,hi,_⟩:=Gp.Bind.nX.1 this
  exact absurd hi (h i b)
theorem DJ.un {c:Cf} {v v':SV} {b:Bnd} {lf r e0 e31 e32:Int} (h:DJ c v b lf r e0 e31 e32 v') {M:Int} (hM:(v.now:Int)+86400<=M) (hv:∀x∈v.L,x.un<=M):∀x∈v'.L,x.un<=M:=by
 cases h with
 |none=>exact hv
 |ext=>exact hv
 |full=>exact hv
 |map=>exact hv
 |drop _ _ _ _ hL=>
  rw [hL]
  exact fun x hx=>hv x (List.mem_filter.1 hx).1
 |renew _ _ _ _ hL=>
  rw [hL]
  intro x hx
  obtain⟨z,hz,rfl⟩:=qX.1 hx
  split
  ·simp only;omega
  ·exact hv z hz
 |add _ _ _ _ hL=>
  rw [hL]
  intro x hx
  rcases List.mem_cons.1 hx with rfl|hx
  ·simp only;omega
  ·exact hv x hx
theorem Nv.un {c:Cf} {v v':SV} {sw ad:Int} {l bs:List UInt8} {e:Int} (h:Nv c v sw ad l e bs v') {M:Int} (hM:(v.now:Int)+86400<=M) (hv:∀x∈v.L,x.un<=M):∀x∈v'.L,x.un<=M:=by
 cases h with
 |bad=>exact hv
 |far=>exact hv
 |ans _ _ ha=>exact ha.un hM hv
theorem abj (awake:∀w,lC w fun r w'=>r=true/\Ext w w') {w:World} {p0 p1 p2 p3 p4 p5 p6 p7 p8 p9 p10 p11 p12 p13 p14 p15:Int} {sw po:b_} {n18 n19 n20 n21 n22 n23 n24 n25 n26 n27 n28 n29 n30 n31 n32 n33 n34:Int} {st:b_} {sl:List oI} {pl:List Int} {tl:List T7} (hsw:kH 16 e16 w sw sl) (hpo:kH 1 eI w po pl) (hst:kH 7 e7 w st tl) {s:b_} {xs:List Dc} (hs:Vg w s xs):
  Bj p0 p1 p2 p3 p4 p5 p6 p7 p8 p9 p10 p11 p12 p13 p14 p15 sw po n18 n19 n20 n21 n22 n23 n24 n25 n26 n27 n28 n29 n30 n31 n32 n33 n34 st s w fun r w'=>r=true/\Ext w w':=by
 apply Jw
 refine fK fun a w1 r1 e1 z1 f1=> ?_
 refine fK fun b w2 r2 e2 z2 f2=> ?_
 have rd:∀W (Q:_),Row W a (jh p0 p1 p2 p3 p4 p5 p6 p7 p8 p9 p10 p11 p12 p13 p14 p15 sw po n18 n19 n20 n21 n22 n23 n24 n25 n26 n27 n28 n29 n30 n31 n32 n33 n34 st)->Q p0 p1 p2 p3 p4 p5 p6 p7 p8 p9 p10 p11 p12 p13 p14 p15 sw po n18 n19 n20 n21 n22 n23 n24 n25 n26 n27 n28 n29 n30 n31 n32 n33 n34 st->vF W ⟨a,0,none⟩ Q:=by
  intro W Q hr hq
  simp only [sx,hr.cell]
  exact hq
 refine zK (awake w2) ?_
 rintro _ w3 ⟨rfl,f3⟩
 rw [Bool.not_true,cond_false]
 have x3:=(f1.trans f2).trans f3
 have r1:=(r1.ext f2).ext f3
 have r2:=r2.ext f3
 have hbw:w.heap.size<=b/\b<w3.heap.size:=by have:=f3.size;omega
 intro J
 have hJt:∀W,Ext w3 W->J true W:=by
  intro W hW
  simp only [J,cond_true]
  refine zK (awake W) ?_
  rintro _ w4 ⟨rfl,f4⟩
  refine gu ((r2.ext hW).ext f4) rfl (by simp) fun w5 r5 f5 z5=> ?_
  simp only [sx,r5.cell,List.set_cons_zero]
  exact⟨by trivial,((x3.trans hW).trans f4).new (f5 (·=b) rfl) fun y hy e=>by omega⟩
 have hJf:∀W,Ext w3 W->xs.length<=40->tl=[]->chk (p0,p1,p2,p3,p4,p5,p6,p7,p8,p9,p10,p11,p12,p13,p14,p15,()) sw.len po.len st.len n18 n19 n20 n21 n22 n23 n24 n25 n26 n27 n28 n29 n30 n31 n32 n33 n34 sw.len sl pl tl 0->sw.len<=8->po.len<=4->J false W:=by
  intro W hW hlen htl hchk hs8 hp4
  simp -zeta only [J,cond_false]
  have xW:=x3.trans hW
  refine rd _ _ (r1.ext hW) ?_
  have hst0:=hst.len
  rw [htl] at hst0
  refine XY (hsw.ext xW) (hpo.ext xW) (hst.ext xW) (by omega) (by omega) (by simp at hst0;omega) (fun r w' _ hr hc=>absurd (XO hc hchk) hr) fun hOk hfine w4 ea e f4 hE hI hS hM hown=> ?_
  rw [htl] at hM
  have hM:Maps _ (e0 sw.len n21.toNat n22.toNat) [] e:=hM
  have he:e=e0 sw.len n21.toNat n22.toNat:=by
   generalize hq:([]:List Bnd)=q at hM
   cases hM with
   |nil=>rfl
   |no=>simp at hq
   |yes=>simp at hq
  subst he
  obtain⟨c,hcdef⟩:∃c:Cf,c=⟨jh p0 p1 p2 p3 p4 p5 p6 p7 p8 p9 p10 p11 p12 p13 p14 p15 sw po n18 n19 n20 n21 n22 n23 n24 n25 n26 n27 n28 n29 n30 n31 n32 n33 n34 st,sw,pl,n18,n19,n20,n21,n22⟩:=⟨_,rfl⟩
  rw [<- hcdef] at hE hI
  refine L9 (PS.KY (Z:=fun _=>False) hE hI hS (by show 0<=2^40;omega) (n:=64) (by omega) (by omega) fun j b hj=> ?_) ?_
  ·have hj:(List.replicate n21.toNat (none:Option Bnd))[j]? =some (some b):=hj
   rw [List.getElem?_replicate] at hj
   split at hj<;>simp at hj
  rintro p r w5 ⟨rfl,f5,A,v,rfl,hAa,hSv,hG,hL,hnow,hnx,hmost,hve,htn,hownS⟩
  have x5:=(xW.trans f4).trans f5
  have rb:=(((r2.ext hW).ext f4).ext f5)
  intro J2
  have hJ2:J2 false:=by
   simp -zeta only [J2,cond_false]
   have hlen5:=hs.sl.len
   have zw3:w3.heap.size<=W.heap.size:=hW.size
   have zW4:=f4.size
   refine fE (fun q X=>∃(j:Nat) (A':SA) (v':SV),j<=xs.length/\q.1=(j:Int)/\Srv X A' c v'/\Good c (fun _=>False) v' []/\v'.now=0/\(∀x∈v'.L,x.un<=86400)/\v'.tn<=j/\(0<=v'.nx/\v'.nx<8192)/\v'.most=64/\Ext W X/\(∀y,jy A' v'.L y->W.heap.size<=y)/\A'.s=A.s/\A'.a.x=ea.x/\Row X b [.bool false])
    (fun q _=>(s.len - q.1).toNat) ⟨0,A,v,by omega,rfl,hSv,hG,hnow,by rw [hL];simp,by omega,by omega,hmost,f4.trans f5,fun y hy=> ?_,rfl,by rw [hAa],rb⟩ ?_
   ·rcases hownS y hy with ⟨k,h⟩|h
    ·exact hown k y h
    ·omega
   rintro⟨i,⟨⟩⟩ X ⟨j,A',v',hj,hi,hSX,hGX,hnX,huX,htX,hnxX,hmX,hx,hoX,hsX,haX,hbX⟩ next hnext
   simp only at hi
   subst hi
   by_cases hl:(j:Int)<(s.len:Int)
   ·simp -zeta only [hl,decide_true,cond_true]
    intro J3
    have hJ3:∀X',(∃(A':SA) (v':SV),Srv X' A' c v'/\Good c (fun _=>False) v' []/\v'.now=0/\(∀x∈v'.L,x.un<=86400)/\v'.tn<=j+1/\(0<=v'.nx/\v'.nx<8192)/\v'.most=64/\Ext W X'/\(∀y,jy A' v'.L y->W.heap.size<=y)/\A'.s=A.s/\A'.a.x=ea.x/\Row X' b [.bool false])->J3 X':=by
     rintro X' ⟨A2,v2,q1,q2,q3,q4,q5,q6,q7,q8,q9,q10,q11,q12⟩
     simp only [J3]
     rw [wrap_i64 (by omega) (by omega)]
     exact hnext _ _ ⟨j+1,A2,v2,by omega,by simp,q1,q2,q3,q4,by omega,q6,q7,q8,q9,q10,q11,q12⟩ (by simp only;omega)
    clear_value J3
    have hg:=List.getElem?_eq_getElem (show j<xs.length by omega)
    have hmem:=List.getElem_mem (show j<xs.length by omega)
    generalize xs[j]=y at hg hmem
    refine jg Zo (by omega) (hs.sl.ext (xW.trans hx)) (by omega) (by rw [Int.toNat_natCast];exact hg) fun ad hc=> ?_
    have c0:=hc 0 _ rfl;have c1:=hc 1 _ rfl;have c2:=hc 2 _ rfl;have c3:=hc 3 _ rfl;have c4:=hc 4 _ rfl
    simp -zeta only [sx,c0,c1,c2,c3,c4]
    refine fK fun t w6 r6 e6 z6 f6=> ?_
    refine fP r6 rfl rfl fun w7 r7 f7' z7=> ?_
    have xx:Ext X w7:=f6.new (f7' (·=t) rfl) fun y hy e=>by omega
    intro J4
    have hsame:J3 w7:=hJ3 w7 ⟨A',v',hSX.ext xx,hGX,hnX,huX,by omega,hnxX,hmX,hx.trans xx,hoX,hsX,haX,hbX.ext xx⟩
    have hJ4f:J4 false:=by simp only [J4,cond_false];exact hsame
    have hJ4t:y.l.length<=100->J4 true:=by
     intro hy100
     simp only [J4,cond_true,sx,r7.cell]
     have hA:(some ⟨A.s,0,none⟩:Option Addr)=some ⟨A'.s,0,none⟩:=by rw [hsX]
     rw [hA]
     refine Vx (hSX.ext xx) hGX hnxX (by omega) (by omega) (hs.ad y hmem) (((hs.by_ y hmem).ext (xW.trans hx)).ext xx) (by omega) fun s' e bs w8 A2 v2 ho hr hb hn=> ?_
     refine hJ3 w8 ⟨A2,v2,ho.srv,ho.good,by rw [ho.now,hnX],hr.un (M:=86400) (by rw [hnX];simp) huX,by have:=ho.tn;omega,ho.nx,by rw [ho.most,hmX],?_,fun y hy=> ?_,by rw [ho.s,hsX],by rw [ho.x,haX],?_⟩
     ·exact(hx.trans xx).new ho.fr fun y hy hn=>by have:=hoX y hn;omega
     ·rcases ho.sub y hy with h|h
      ·exact hoX y h
      ·have:=(hx.trans xx).size
       omega
     ·exact(hbX.ext xx).fr ho.fr fun hn=>by have:=hoX b hn;omega
    clear_value J4
    simp only [sx,r7.cell]
    have hyl:=(hs.by_ y hmem).1
    by_cases h100:(y.s.len:Int)<=100
    rotate_left
    ·rw [decide_eq_false h100,cond_false]
     exact hJ4f
    rw [decide_eq_true h100,cond_true]
    by_cases h5:y.op<5
    ·rw [decide_eq_true h5]
     exact hJ4t (by omega)
    ·rw [decide_eq_false h5]
     exact hJ4f
   ·simp only [hl,decide_false,cond_false]
    have hA:(some ⟨A.s,0,none⟩:Option Addr)=some ⟨A'.s,0,none⟩:=by rw [hsX]
    rw [hA]
    refine vw (O_ hSX hGX (fun x hx=>by have:=huX x hx;omega) 86400 (T:=86400) (by rw [hnX];rfl)) ?_
    rintro n w6 ⟨f6,A2,v2,hS2,hG2,hs2,ha2,hsub2,hn2,hL2,htn2,hm2,hx2,hn⟩
    have hL2:v2.L=[]:=List.eq_nil_iff_forall_not_mem.2 fun x hx=>by
     have h1:=(hL2 x).1 hx
     have h2:=huX x h1.1
     omega
    have hLI:v2.LI=[]:=List.length_eq_zero_iff.1 (by rw [hG2.adD hS2,hL2];rfl)
    have x6:Ext W w6:=hx.new f6 fun y hy hn=>by have:=hoX y hn;omega
    have hb6:=hbX.fr f6 fun hn=>by have:=hoX b hn;omega
    have hls:∀{K:Value->World->Prop},(∀f w',Row w' f [.pointer (some ⟨A2.s,0,none⟩)]->Ext w6 w'->K (Value.func (.func vK) #[] #[(Value.pointer (some ⟨f,0,none⟩))]) w')->qN (some ⟨A'.s,0,none⟩) w6 K:=by
     intro K hK
     apply DF
     rw [<- hs2]
     exact⟨rfl,fK fun f w1 r1 e1 z1 f1=>hK f w1 r1 f1⟩
    refine hls fun f w7 r7 f7=> ?_
    have hS7:=hS2.ext f7
    have hb7:=hb6.ext f7
    refine xA (RQ A2 c v2 f hLI) (fun i X'=>i=0/\Ext w7 X') (fun _ _=>False) (by simp) ?_ ?_ ?_ (by intro e W W' h;exact h.elim) (by intro e W h;exact h.elim) ?_ ?_ (by intro W h;exact h.elim) (by intro id W h;exact h.elim)
    ·intro X' hX' _
     exact⟨rfl,hX'⟩
    ·rintro i X' ⟨_,hX'⟩
     exact⟨r7.ext hX',hS7.ext hX'⟩
    ·rintro i X' X'' ⟨rfl,hX'⟩ hf
     have hla:lg none w7=w7.heap.size+1:=rfl
     exact⟨rfl,hX'.new hf fun b hb e=>by omega⟩
    ·intro i x X' Kb hx
     simp at hx
    rintro X' ⟨_,hX'⟩ hm
    have hS8:=hS7.ext hX'
    have hb8:=hb7.ext hX'
    have hz7:w7.heap.size<=X'.heap.size:=hX'.size
    have hz67:=f7.size
    have hax:(some ⟨ea.x,0,none⟩:Option Addr)=some ⟨A2.a.x,0,none⟩:=by rw [ha2,haX]
    rw [hax]
    have hE8:=hS8.en
    have hb1:=hE8.cf.b1
    have hs1:=hE8.cf.s1
    refine Xy hE8 ⟨by rw [hE8.db.len];omega,by rw [hE8.se.len];omega⟩ fun bs ss w9 f9 hbs _ _ _=> ?_
    have hl0:live 0 v2.e.S=[]:=aaM fun j bb hj=>by
     rcases hG2.ex j bb hj with ⟨x,hx,_⟩|h
     ·rw [hL2] at hx;cases hx
     ·exact h
    rw [hl0] at hbs
    have hbl:bs.len=0:=by rw [(hbs.sl Og (by omega)).len];rfl
    rw [hbl]
    show cond true _ _
    rw [cond_true]
    refine zK (awake w9) ?_
    rintro _ w10 ⟨rfl,f10⟩
    refine gu ((hb8.ext f9).ext f10) rfl (by simp) fun w11 r11 f11' z11=> ?_
    have f11:fD w10 w11 (·=b):=f11' _ rfl
    have zz7:b<w6.heap.size:=hb6.lt
    have x11:Ext w w11:=(((((xW.trans x6).trans f7).trans hX').trans f9).trans f10).new f11 fun y hy e=>by omega
    refine⟨?_,?_⟩
    ·rw [f11.same _ (by have:=f9.size;have:=f10.size;have:=hm rfl;have:=(Array.getElem?_eq_some_iff.1 this).1;omega) (by omega),((f9.trans f10) fun _=>False).same _ (by have:=hm rfl;exact(Array.getElem?_eq_some_iff.1 this).1) (by simp)]
     exact hm rfl
    ·have fp:=fD.jC w11 w7.heap.size (.deferred none)
     have r12:=r11.fr fp (by omega)
     simp only [sx,r12.cell,List.set_cons_zero]
     refine⟨by trivial,x11.new fp fun y hy e=> ?_⟩
     have:=(xW.trans x6).size
     omega
  clear_value J2
  exact hJ2
 clear_value J
 refine rd _ _ r1 ?_
 refine xP (hsw.ext x3) (hpo.ext x3) (hst.ext x3) (fun w4 f4=> ?_) fun w4 f4 h1 h2 h3 hc=> ?_
 ·exact hJt w4 f4
 ·have hsl:=hs.sl.len
  rw [Bool.not_true,cond_false]
  by_cases h40:(s.len:Int)>40
  ·rw [decide_eq_true h40,cond_true]
   exact hJt w4 f4
  rw [decide_eq_false h40,cond_false]
  refine fM (k:= .slice) (i:=35) (x:=st) (r1.ext f4) rfl ?_
  have hstl:=hst.len
  by_cases hst0:(st.len:Int)>0
  ·rw [decide_eq_true hst0]
   exact hJt w4 f4
  ·rw [decide_eq_false hst0]
   exact hJf w4 f4 (by omega) (List.length_eq_zero_iff.1 (by omega)) hc h1 h2
end Go.Proofs.PS
end
section
namespace Go.Proofs.PM
open Gp Gp.V4 Go.Proofs Go.Proofs.CN
open Gp.Bind (In64)
set_option maxRecDepth 100000
set_option maxHeartbeats 1000000
theorem seg {α:Type} (A B C:List α) {i k:Nat} (hi:A.length=i) (hk:B.length=k):((A++(B++C)).drop i).take k=B:=by
 subst hi hk
 rw [List.drop_left,List.take_left]
theorem Aq (A C:List UInt8) {i k n:Nat} (hi:A.length=i) (hn:n<256^k):num (A++(tJ k n++C)) i k=n:=by
 unfold num
 rw [seg A (tJ k n) C hi (kD k n),YQ,Nat.mod_eq_of_lt hn]
theorem kE {l:List UInt8} {n k:Int} (h:fitsP n k):Gt l n k=l++tJ k.toNat n.toNat:=by unfold Gt;rw [if_pos h]
theorem Yt (k:Int) (h:1<=k/\k<=4):fitsP 0 k:=by
 have:=Int.pow_pos (n:=256) (m:=k.toNat) (by decide)
 exact⟨h,by omega,by omega⟩
theorem EH {n k:Int} (h:fitsP n k):n.toNat<256^k.toNat:=by
 obtain⟨_,h1,h2⟩:=h
 have:((n.toNat:Nat):Int)<((256^k.toNat:Nat):Int):=by
  rw [Int.toNat_of_nonneg h1];exact_mod_cast h2
 exact_mod_cast this
theorem aaP {l no:List UInt8} {p:PA} (h:p.may):G_ l no p=l++(no++(tJ 1 p.pr.toNat++(tJ 3 0++(tJ 2 p.po.toNat++(tJ 2 p.ou.toNat++(List.replicate 10 0++([255,255]++tJ 4 p.ad.toNat))))))):=by
 obtain⟨_,h1,h2,h3,h4⟩:=h
 have ha:(p.ad % 4294967296).toNat=p.ad.toNat:=by
  obtain⟨_,g1,g2⟩:=h4
  have:(256:Int)^(4:Int).toNat=4294967296:=by decide
  omega
 unfold G_ qh mapped
 simp only [List.foldl_cons,List.foldl_nil]
 rw [kE h1,kE (Yt 3 (by omega)),kE h2,kE h3,ha]
 simp only [List.append_assoc]
 rfl
structure adS (L l no:List UInt8) (p:PA):Prop where
 len:L.length=60
 hd:∀i k,i+k<=24->num L i k=num l i k
 hs:∀i k,i+k<=24->(L.drop i).take k=(l.drop i).take k
 no:(L.drop 24).take 12=no
 pr:num L 36 1=p.pr.toNat
 po:num L 40 2=p.po.toNat
 ou:num L 42 2=p.ou.toNat
 ad:num L 56 4=p.ad.toNat
 pre:(L.drop 44).take 12=pre
theorem N7 {l no:List UInt8} {p:PA} (hl:l.length=24) (hno:no.length=12) (h:p.may):adS (G_ l no p) l no p:=by
 have e:=aaP (l:=l) (no:=no) h
 obtain⟨_,h1,h2,h3,h4⟩:=h
 have l1:=EH h1
 have l2:=EH h2
 have l3:=EH h3
 have l4:=EH h4
 have hsub:∀i k,i+k<=24->((G_ l no p).drop i).take k=(l.drop i).take k:=by
  intro i k hik
  rw [e,List.drop_append_of_le_length (by omega),List.take_append_of_le_length (by rw [List.length_drop];omega)]
 refine⟨?_,fun i k hik=>by unfold num;rw [hsub i k hik],hsub,?_,?_,?_,?_,?_,?_⟩
 ·rw [e];simp [kD,hl,hno]
 ·rw [e];exact seg _ _ _ hl hno
 ·rw [e,<- List.append_assoc]
  exact Aq _ _ (by simp [hl,hno]) l1
 ·rw [e,<- List.append_assoc,<- List.append_assoc,<- List.append_assoc]
  exact Aq _ _ (by simp [hl,hno,kD]) l2
 ·rw [e,<- List.append_assoc,<- List.append_assoc,<- List.append_assoc,<- List.append_assoc]
  exact Aq _ _ (by simp [hl,hno,kD]) l3
 ·have e2:G_ l no p=(l++(no++(tJ 1 p.pr.toNat++(tJ 3 0++(tJ 2 p.po.toNat++(tJ 2 p.ou.toNat++(List.replicate 10 0++[255,255])))))))++(tJ 4 p.ad.toNat++[]):=by rw [e];simp only [List.append_assoc,List.append_nil]
  rw [e2]
  exact Aq _ _ (by simp [hl,hno,kD]) l4
 ·have e2:G_ l no p=(l++(no++(tJ 1 p.pr.toNat++(tJ 3 0++(tJ 2 p.po.toNat++tJ 2 p.ou.toNat)))))++(PM.pre++tJ 4 p.ad.toNat):=by rw [e];simp only [List.append_assoc];rfl
  rw [e2]
  exact seg _ _ _ (by simp [hl,hno,kD]) rfl
def OM (lf:Int) (cl:List UInt8):List UInt8:=qh [] [(2,1,()),(1,1,()),(0,2,()),(lf,4,())]++cl
def Qi (cl no:List UInt8) (p:PA):List UInt8:=G_ (OM p.lf cl) no p
theorem Zw {lf:Int} {cl:List UInt8} (h:fitsP lf 4):OM lf cl=[2,1,0,0]++(tJ 4 lf.toNat++cl):=by
 unfold OM qh
 simp only [List.foldl_cons,List.foldl_nil]
 rw [kE (n:=2) (k:=1) ⟨⟨by omega,by omega⟩,by omega,by decide⟩,kE (n:=1) (k:=1) ⟨⟨by omega,by omega⟩,by omega,by decide⟩,kE (Yt 2 (by omega)),kE h]
 simp only [List.append_assoc]
 rfl
theorem WY {cl no:List UInt8} {p:PA} (hc:cl.length=16) (hno:no.length=12) (h:p.may):
  jL (Qi cl no p) 1=0/\yO (Qi cl no p)=p/\((Qi cl no p).drop 8).take 16=cl/\((Qi cl no p).drop 24).take 12=no:=by
 have hq:=Zw (cl:=cl) h.1
 have hql:(OM p.lf cl).length=24:=by rw [hq];simp [kD,hc]
 obtain⟨t1,t2,t3,t4,t5,t6,t7,t8,t9⟩:=N7 hql hno h
 have n0:num (OM p.lf cl) 0 1=2:=by rw [hq];rfl
 have n1:num (OM p.lf cl) 1 1=1:=by rw [hq];rfl
 have n4:num (OM p.lf cl) 4 4=p.lf.toNat:=by rw [hq];exact Aq _ _ rfl (EH h.1)
 refine⟨?_,?_,?_,t4⟩
 ·unfold jL Qi
  rw [if_neg (by omega),if_neg (by omega),if_neg]
  rw [t2 0 1 (by omega),t2 1 1 (by omega),n0,n1]
  exact fun hn=>hn ⟨rfl,rfl,t9⟩
 ·obtain⟨⟨_,a1,_⟩,⟨_,a2,_⟩,⟨_,a3,_⟩,⟨_,a4,_⟩,⟨_,a5,_⟩⟩:=h
  unfold yO Qi
  rw [t2 4 4 (by omega),n4,t5,t6,t7,t8,Int.toNat_of_nonneg a1,Int.toNat_of_nonneg a2,Int.toNat_of_nonneg a3,Int.toNat_of_nonneg a4,Int.toNat_of_nonneg a5]
 ·unfold Qi
  rw [t3 8 16 (by omega),hq,<- List.append_assoc,List.drop_left' (by simp [kD]),List.take_of_length_le (by omega)]
def Jo (r ep lf:Int):List UInt8:=qh (qh [] [(2,1,()),(129,1,()),(0,1,()),(r,1,())]) [(lf,4,()),(ep,4,()),(0,4,()),(0,4,()),(0,4,())]
theorem aaC {r ep lf:Int} (h1:fitsP r 1) (h2:fitsP ep 4) (h3:fitsP lf 4):Jo r ep lf=[2,129,0]++(tJ 1 r.toNat++(tJ 4 lf.toNat++(tJ 4 ep.toNat++List.replicate 12 0))):=by
 unfold Jo qh
 simp only [List.foldl_cons,List.foldl_nil]
 rw [kE (n:=2) (k:=1) ⟨⟨by omega,by omega⟩,by omega,by decide⟩,kE (n:=129) (k:=1) ⟨⟨by omega,by omega⟩,by omega,by decide⟩,kE (Yt 1 (by omega)),kE h1,kE h3,kE h2,kE (Yt 4 (by omega)),kE (Yt 4 (by omega)),kE (Yt 4 (by omega))]
 simp only [List.append_assoc]
 rfl
theorem YR {r ep:Int} {no:List UInt8} {p:PA} (hno:no.length=12) (h:Gi r ep p):
  jL (JU r ep no p) 129=0/\yO (JU r ep no p)=p/\num (JU r ep no p) 3 1=r.toNat/\num (JU r ep no p) 8 4=ep.toNat/\(JU r ep no p).length=60:=by
 obtain⟨hm,hr,he⟩:=h
 have hq:=aaC hr he hm.1
 have hql:(Jo r ep p.lf).length=24:=by rw [hq];simp [kD]
 have e:JU r ep no p=G_ (Jo r ep p.lf) no p:=rfl
 obtain⟨t1,t2,t3,t4,t5,t6,t7,t8,t9⟩:=N7 hql hno hm
 have n0:num (Jo r ep p.lf) 0 1=2:=by rw [hq];rfl
 have n1:num (Jo r ep p.lf) 1 1=129:=by rw [hq];rfl
 have n3:num (Jo r ep p.lf) 3 1=r.toNat:=by rw [hq];exact Aq _ _ rfl (EH hr)
 have n4:num (Jo r ep p.lf) 4 4=p.lf.toNat:=by rw [hq,<- List.append_assoc];exact Aq _ _ (by simp [kD]) (EH hm.1)
 have n8:num (Jo r ep p.lf) 8 4=ep.toNat:=by rw [hq,<- List.append_assoc,<- List.append_assoc];exact Aq _ _ (by simp [kD]) (EH he)
 refine⟨?_,?_,?_,?_,?_⟩
 ·unfold jL
  rw [e,if_neg (by omega),if_neg (by omega),if_neg]
  rw [t2 0 1 (by omega),t2 1 1 (by omega),n0,n1]
  exact fun hn=>hn ⟨rfl,rfl,t9⟩
 ·obtain⟨⟨_,a1,_⟩,⟨_,a2,_⟩,⟨_,a3,_⟩,⟨_,a4,_⟩,⟨_,a5,_⟩⟩:=hm
  unfold yO
  rw [e,t2 4 4 (by omega),n4,t5,t6,t7,t8,Int.toNat_of_nonneg a1,Int.toNat_of_nonneg a2,Int.toNat_of_nonneg a3,Int.toNat_of_nonneg a4,Int.toNat_of_nonneg a5]
 ·rw [e,t2 3 1 (by omega),n3]
 ·rw [e,t2 8 4 (by omega),n8]
 ·rw [e,t1]
end Go.Proofs.PM
end
section
namespace Go.Proofs.CN
open Gp
set_option maxRecDepth 100000
def words (n:Nat):List Int:=[8193,3512,(n:Int),0,0,0,0,1]
def Vo (n j:Nat):List Int:=((words n).take j).flatMap (fun x=>[x / 256,x % 256])++List.replicate (16 - 2 * j) 0
def Jk (n:Nat):oI:=(32,1,13,184,0,(n:Int),0,0,0,0,0,0,0,0,0,1,())
abbrev cu8 (l:List Int):List Value:=l.map fun x=>Value.int .u8 x
theorem XF (l:List Int) (i:Nat) (x:Int):(cu8 l).set i (.int .u8 x)=cu8 (l.set i x):=by
 unfold cu8;rw [List.map_set]
theorem Yv:∀(n:Fin 3) (j:Fin 8),((Vo n j).set (2 * j) (IntKind.u8.wrap (IntKind.i64.wrap (Int.tdiv (Int.tmod (IntKind.i64.wrap ((Int.tmod ((words n).getD j 0) 65536)+65536)) 65536) 256)))).set (2 * j+1) (IntKind.u8.wrap (Int.tmod (Int.tmod (IntKind.i64.wrap ((Int.tmod ((words n).getD j 0) 65536)+65536)) 65536) 256))=Vo n (j+1):=by decide
theorem aa5:∀(n:Fin 3) (j:Fin 9),(Vo n j).length=16:=by decide
theorem abM:∀(n:Fin 3),cu8 (Vo n 8)=e16 (Jk n):=by
 intro n
 match n with
 |0=>rfl
 |1=>rfl
 |2=>rfl
end Go.Proofs.CN
namespace Go.Proofs.CN
open Gp
set_option maxRecDepth 100000
theorem Ym (n:Nat):∀(j:Nat),j<8->(words n)[j]? =some ((words n).getD j 0)
 |0,_=>rfl
 |1,_=>rfl
 |2,_=>rfl
 |3,_=>rfl
 |4,_=>rfl
 |5,_=>rfl
 |6,_=>rfl
 |7,_=>rfl
 |j+8,h=>absurd h (by omega)
theorem acT:∀(n:Fin 3),[Value.int .u8 0,.int .u8 0,.int .u8 0,.int .u8 0,.int .u8 0,.int .u8 0,.int .u8 0,.int .u8 0,.int .u8 0,.int .u8 0,.int .u8 0,.int .u8 0,.int .u8 0,.int .u8 0,.int .u8 0,.int .u8 0]=cu8 (Vo n 0):=fun _=>rfl
theorem abt {W:World} {b:Nat} (n:Fin 3) (h:Row W b (cu8 (Vo n 8))):Row W b [.int .u8 32,.int .u8 1,.int .u8 13,.int .u8 184,.int .u8 0,.int .u8 ((n:Nat):Int),.int .u8 0,.int .u8 0,.int .u8 0,.int .u8 0,.int .u8 0,.int .u8 0,.int .u8 0,.int .u8 0,.int .u8 0,.int .u8 1]:=by
 rw [abM] at h;exact h
theorem XC (l:List Int):(cu8 l).length=l.length:=List.length_map ..
theorem Nz (n:Fin 3) {w:World} {s:b_} (hs:kH 1 eI w s (words n)):uK s w fun r0 r1 r2 r3 r4 r5 r6 r7 r8 r9 r10 r11 r12 r13 r14 r15 w'=>((r0,r1,r2,r3,r4,r5,r6,r7,r8,r9,r10,r11,r12,r13,r14,r15,()):oI)=Jk n/\Ext w w':=by
 apply UO
 refine fK fun a w1 ra ea z1 f1=>fK fun b w2 rb eb z2 f2=> ?_
 have hs0:=hs
 have ra:=ra.ext f2
 have hs:=hs.ext (f1.trans f2)
 have hlen:s.len=8:=hs.len
 have rb:Row w2 b (cu8 (Vo n 0)):=by rw [<- acT n];exact rb
 refine fE (fun st W=>∃j:Nat,j<=8/\st.1=(j:Int)/\Row W b (cu8 (Vo n j))/\fD w2 W (·=b)) (fun st _=>(8 - st.1).toNat) ⟨0,by omega,rfl,rb,fD.refl _ _⟩ ?_
 rintro⟨i,⟨⟩⟩ W ⟨j,hj,hi,rW,fW⟩ next hnext
 simp only at hi
 subst hi
 simp -zeta only []
 intro J9
 by_cases hlt:(j:Int)<(s.len:Int)
 ·have hj8:j<8:=by omega
  rw [decide_eq_true hlt,cond_true,decide_eq_true (show (j:Int)<8 by omega)]
  simp only [J9]
  rw [cond_true]
  have hget:=Ym n j hj8
  have hsW:kH 1 eI W s (words n):=hs.fr fW (fun c hc _ e=>by
   have:=aap jB (by omega) hs0 hc (by show 0<8;omega)
   omega)
  refine jg jB (by omega) hsW (by omega) (by rw [Int.toNat_natCast];exact hget) fun a' hc=> ?_
  have hc0:=hc 0 _ rfl
  rw [show a'.add 0=a' from rfl] at hc0
  have hl16:=aa5 n ⟨j,by omega⟩
  have hst:=Yv n ⟨j,hj8⟩
  simp only at hl16 hst
  have e2j:IntKind.i64.wrap (2 * (j:Int))=((2 * j:Nat):Int):=by rw [wrap_i64 (by omega) (by omega)];omega
  simp only [sx,hc0,e2j]
  rw [wrap_i64 (n:=((2 * j:Nat):Int)+1) (by omega) (by omega),show ((2 * j:Nat):Int)+1=((2 * j+1:Nat):Int) by omega]
  simp only [Int.toNat_natCast,Nat.mul_one]
  refine⟨by decide,by decide,by decide,by decide,by omega,by omega,gu rW rfl (by rw [XC,hl16];omega) fun w5 r5 f5 z5=> ?_⟩
  rw [XF] at r5
  refine⟨by omega,by omega,gu r5 rfl (by rw [XC,List.length_set,hl16];omega) fun w6 r6 f6 z6=> ?_⟩
  rw [XF,hst] at r6
  rw [wrap_i64 (by omega) (by omega)]
  refine hnext _ _ ⟨j+1,by omega,by simp,r6,(fW.trans (f5 (·=b) rfl) fun _ _ e=>e).trans (f6 (·=b) rfl) fun _ _ e=>e⟩ (by simp only;omega)
 ·rw [decide_eq_false hlt,cond_false]
  have:j=8:=by omega
  subst this
  simp only [J9]
  rw [cond_false]
  have rW:=abt n rW
  have raW:=ra.fr fW (by omega)
  simp only [sx,rW.cell]
  refine fP raW rfl rfl fun w5 r5 f5 z5=> ?_
  simp only [List.getElem?_cons_zero,List.getElem?_cons_succ,fA,fC,r5.cell]
  exact⟨rfl,(f1.trans f2).new (S:=fun x=>x=b\/x=a) ((fW.mono fun _=>Or.inl).trans (f5 _ (.inr rfl)) fun _ _ e=>e) (by intro x hx h;rcases h with rfl|rfl<;>omega)⟩
end Go.Proofs.CN
namespace Go.Proofs.CN
open Gp
set_option maxRecDepth 100000
theorem RZ {r0 r1 r2 r3 r4 r5 r6 r7 r8 r9 r10 r11 r12 r13 r14 r15:Int} {n:Nat} {z:Int} (hz:(n:Int)=z) (h:((r0,r1,r2,r3,r4,r5,r6,r7,r8,r9,r10,r11,r12,r13,r14,r15,()):oI)=Jk n):r0=32/\r1=1/\r2=13/\r3=184/\r4=0/\r5=z/\r6=0/\r7=0/\r8=0/\r9=0/\r10=0/\r11=0/\r12=0/\r13=0/\r14=0/\r15=1:=by
 subst hz
 simp only [Jk,Prod.mk.injEq,and_true] at h
 exact h
structure Vp (w w':World) (bs bp:Nat):Prop where
 rs:Row w' bs (.int .u8 32:: .int .u8 1:: .int .u8 13:: .int .u8 184:: .int .u8 0:: .int .u8 1:: .int .u8 0:: .int .u8 0:: .int .u8 0:: .int .u8 0:: .int .u8 0:: .int .u8 0:: .int .u8 0:: .int .u8 0:: .int .u8 0:: .int .u8 1:: .int .u8 32:: .int .u8 1:: .int .u8 13:: .int .u8 184:: .int .u8 0:: .int .u8 2:: .int .u8 0:: .int .u8 0:: .int .u8 0:: .int .u8 0:: .int .u8 0:: .int .u8 0:: .int .u8 0:: .int .u8 0:: .int .u8 0:: .int .u8 1::[])
 rp:Row w' bp [.int .i64 3325256705]
 hs:w.heap.size<=bs
 hp:w.heap.size<=bp
 ne:bs≠bp
 ext:Ext w w'
abbrev adC (w w':World) (p0 p1 p2 p3 p4 p5 p6 p7 p8 p9 p10 p11 p12 p13 p14 p15:Int) (sw po:b_) (n18 n19 n20 n21 n22 n23 n24 n25 n26 n27 n28 n29 n30 n31 n32 n33 n34:Int) (st:b_):Prop:=∃bs bp,Vp w w' bs bp/\p0=32/\p1=1/\p2=13/\p3=184/\p4=0/\p5=0/\p6=0/\p7=0/\p8=0/\p9=0/\p10=0/\p11=0/\p12=0/\p13=0/\p14=0/\p15=1/\sw=⟨some ⟨bs,0,none⟩,2,2⟩/\po=⟨some ⟨bp,0,none⟩,1,1⟩/\n18=1024/\n19=65535/\n20=16/\n21=64/\n22=128/\n23=8/\n24=1048576/\n25=1500/\n26=1500/\n27=64/\n28=0/\n29=2/\n30=300/\n31=7440/\n32=240/\n33=60/\n34=60/\st=⟨none,0,0⟩
set_option maxHeartbeats 4000000 in
theorem Xf (w:World):rC w fun p0 p1 p2 p3 p4 p5 p6 p7 p8 p9 p10 p11 p12 p13 p14 p15 sw po n18 n19 n20 n21 n22 n23 n24 n25 n26 n27 n28 n29 n30 n31 n32 n33 n34 st w'=>adC w w' p0 p1 p2 p3 p4 p5 p6 p7 p8 p9 p10 p11 p12 p13 p14 p15 sw po n18 n19 n20 n21 n22 n23 n24 n25 n26 n27 n28 n29 n30 n31 n32 n33 n34 st:=by
 apply PX
 refine fK fun a w1 ra ea z1 f1=> ?_
 refine fK fun b0 v0 rb0 eb0 y0 g0=> ?_
 have hb0:kH 1 eI v0 ⟨some ⟨b0,0,none⟩,8,8⟩ (words 0):=(iI.row (xs:=words 0) (f:=eI) (n:=1) rb0).sl jB (by omega)
 refine DZ (Nz 0 hb0) ?_
 rintro q0 q1 q2 q3 q4 q5 q6 q7 q8 q9 q10 q11 q12 q13 q14 q15 u0 ⟨hq,h0⟩
 obtain⟨rfl,rfl,rfl,rfl,rfl,rfl,rfl,rfl,rfl,rfl,rfl,rfl,rfl,rfl,rfl,rfl⟩:=RZ (z:=0) rfl hq
 refine fK fun b1 v1 rb1 eb1 y1 g1=> ?_
 have hb1:kH 1 eI v1 ⟨some ⟨b1,0,none⟩,8,8⟩ (words 1):=(iI.row (xs:=words 1) (f:=eI) (n:=1) rb1).sl jB (by omega)
 refine DZ (Nz 1 hb1) ?_
 rintro q0 q1 q2 q3 q4 q5 q6 q7 q8 q9 q10 q11 q12 q13 q14 q15 u1 ⟨hq,h1⟩
 obtain⟨rfl,rfl,rfl,rfl,rfl,rfl,rfl,rfl,rfl,rfl,rfl,rfl,rfl,rfl,rfl,rfl⟩:=RZ (z:=1) rfl hq
 refine fK fun b2 v2 rb2 eb2 y2 g2=> ?_
 have hb2:kH 1 eI v2 ⟨some ⟨b2,0,none⟩,8,8⟩ (words 2):=(iI.row (xs:=words 2) (f:=eI) (n:=1) rb2).sl jB (by omega)
 refine DZ (Nz 2 hb2) ?_
 rintro q0 q1 q2 q3 q4 q5 q6 q7 q8 q9 q10 q11 q12 q13 q14 q15 u2 ⟨hq,h2⟩
 obtain⟨rfl,rfl,rfl,rfl,rfl,rfl,rfl,rfl,rfl,rfl,rfl,rfl,rfl,rfl,rfl,rfl⟩:=RZ (z:=2) rfl hq
 have g0':=h0.size;have g1':=h1.size;have g2':=h2.size
 refine fK fun bs w5 rs es z5 f5=>fK fun bp w6 rp ep z6 f6=> ?_
 have fa:=(((((g0.trans h0).trans g1).trans h1).trans g2).trans h2)
 have ra:=(((ra.ext fa).ext f5).ext f6)
 refine fP ra rfl rfl fun u r t y=> ?_
 have r:Row u a (.int .u8 32:: .int .u8 1:: .int .u8 13:: .int .u8 184:: .int .u8 0:: .int .u8 0:: .int .u8 0:: .int .u8 0:: .int .u8 0:: .int .u8 0:: .int .u8 0:: .int .u8 0:: .int .u8 0:: .int .u8 0:: .int .u8 0:: .int .u8 1:: .slice (some ⟨bs,0,none⟩) 2 2:: .slice (some ⟨bp,0,none⟩) 1 1:: .int .i64 1024:: .int .i64 65535:: .int .i64 16:: .int .i64 64:: .int .i64 128:: .int .i64 8:: .int .i64 1048576:: .int .i64 1500:: .int .i64 1500:: .int .i64 64:: .int .i64 0:: .int .i64 2:: .int .i64 300:: .int .i64 7440:: .int .i64 240:: .int .i64 60:: .int .i64 60:: .slice none 0 0::[]):=r
 simp only [sx,r.cell]
 have rs:Row u bs _:=(rs.ext f6).fr (t (·=a) rfl) (by omega)
 have rp:Row u bp _:=rp.fr (t (·=a) rfl) (by omega)
 have fz:Ext w u:=(((f1.trans fa).trans f5).trans f6).new (t (·=a) rfl) (by intro x hx h;omega)
 exact⟨bs,bp,⟨rs,rp,by omega,by omega,by omega,fz⟩,rfl,rfl,rfl,rfl,rfl,rfl,rfl,rfl,rfl,rfl,rfl,rfl,rfl,rfl,rfl,rfl,rfl,rfl,rfl,rfl,rfl,rfl,rfl,rfl,rfl,rfl,rfl,rfl,rfl,rfl,rfl,rfl,rfl,rfl,rfl,rfl⟩
end Go.Proofs.CN
namespace Go.Proofs.CN
open Gp
set_option maxRecDepth 100000
theorem YU:OkP (Jk 0) ((2:Nat):Int) ((1:Nat):Int) ((0:Nat):Int) 1024 65535 16 64 128 8 1048576 1500 1500 64 0 2 300 7440 240 60 60 2 [Jk 1,Jk 2] [3325256705] []:=⟨by decide,by decide,by decide⟩
theorem YG:Dv (Jk 0) [Jk 1,Jk 2] [3325256705] [] 2 16:=⟨by decide,by decide,by decide,by decide,fun k hk=>by simp [cnt]⟩
theorem Vp.sl {w w':World} {bs bp:Nat} (h:Vp w w' bs bp):kH 16 e16 w' ⟨some ⟨bs,0,none⟩,2,2⟩ [Jk 1,Jk 2]:=(iI.row (xs:=[Jk 1,Jk 2]) (f:=e16) (n:=16) h.rs).sl oW (by omega)
theorem Vp.pl {w w':World} {bs bp:Nat} (h:Vp w w' bs bp):kH 1 eI w' ⟨some ⟨bp,0,none⟩,1,1⟩ [3325256705]:=(iI.row (xs:=[(3325256705:Int)]) (f:=eI) (n:=1) h.rp).sl jB (by omega)
end Go.Proofs.CN
namespace Go.Proofs.CN
end Go.Proofs.CN
end
section
namespace Go.Proofs.PM
open Gp Gp.V4 Go.Proofs Go.Proofs.CN
open Gp.Bind (In64)
set_option maxRecDepth 100000
set_option maxHeartbeats 2000000
theorem ZI {w:World} {cl no:List UInt8} {d0 d1 d2 d3 d4 d5 d6 d7 d8 d9 d10 d11 d12 d13 d14 d15 d16 d17 d18 d19 d20 d21 d22 d23 d24 d25 d26 d27 d28 d29 d30 d31 d32:Int} (hc:cl.length=16) (hno:no.length=12) (hcl:[d1,d2,d3,d4,d5,d6,d7,d8,d9,d10,d11,d12,d13,d14,d15,d16]=bi cl) (hd:[d17,d18,d19,d20,d21,d22,d23,d24,d25,d26,d27,d28]=bi no) (hp:PA.may ⟨d0,d29,d30,d31,d32⟩):
  xM d0 d1 d2 d3 d4 d5 d6 d7 d8 d9 d10 d11 d12 d13 d14 d15 d16 d17 d18 d19 d20 d21 d22 d23 d24 d25 d26 d27 d28 d29 d30 d31 d32 w fun s e w'=>Ext w w'/\e=0/\Buf w' s (bytesV (Qi cl no ⟨d0,d29,d30,d31,d32⟩))/\∀b,b_.at s b->w.heap.size<=b:=by
 apply RX
 refine fK fun a w1 r1 e1 z1 f1=> ?_
 have rd:∀W (Q:_),Row W a (iK d0 d1 d2 d3 d4 d5 d6 d7 d8 d9 d10 d11 d12 d13 d14 d15 d16 d17 d18 d19 d20 d21 d22 d23 d24 d25 d26 d27 d28 d29 d30 d31 d32)->Q d0 d1 d2 d3 d4 d5 d6 d7 d8 d9 d10 d11 d12 d13 d14 d15 d16 d17 d18 d19 d20 d21 d22 d23 d24 d25 d26 d27 d28 d29 d30 d31 d32->jF W ⟨a,0,none⟩ Q:=by
  intro W Q hr hq
  simp only [sx,hr.cell]
  exact hq
 refine rd _ _ r1 ?_
 refine EI XZ ?_
 rintro _ w2 ⟨rfl,f2⟩
 rw [decide_eq_true hp,Bool.not_true,cond_false]
 have r2:=r1.ext f2
 refine fM (k:= .int .i64) (i:=0) (x:=d0) r2 rfl ?_
 refine fK fun b w3 r3 e3 z3 f3=> ?_
 refine zQ (Ju (l:=[]) (fs:=[(2,1,()),(1,1,()),(0,2,()),(d0,4,())]) Buf.nil (Hu r3 rfl rfl) (by simp) (by simp)) ?_
 rintro s4 w4 ⟨b4,f4,n4⟩
 have r4:=((r2.ext f3).ext f4).drew
 refine rd _ _ r4 ?_
 rw [kC]
 refine Ea ?_
 have hL:bytesV cl=iM d1 d2 d3 d4 d5 d6 d7 d8 d9 d10 d11 d12 d13 d14 d15 d16:=by rw [yX,<- hcl];rfl
 have hs:rO w4.drew ⟨some ⟨a,0+1,none⟩,16,16⟩ cl:=JD (o:=1) r4 (A:=[.int .i64 d0]) (C:=[.int .u8 d17,.int .u8 d18,.int .u8 d19,.int .u8 d20,.int .u8 d21,.int .u8 d22,.int .u8 d23,.int .u8 d24,.int .u8 d25,.int .u8 d26,.int .u8 d27,.int .u8 d28,.int .i64 d29,.int .i64 d30,.int .i64 d31,.int .i64 d32]) (by rw [hL];rfl) rfl hc.symm
 have l4:=wE [(2,1,()),(1,1,()),(0,2,()),(d0,4,())] []
 simp only [List.length_cons,List.length_nil] at l4
 have x4:Ext w w4.drew:=(((f1.trans f2).trans f3).trans f4).trans (Ext.drew w4)
 have x3:Ext w w3:=(f1.trans f2).trans f3
 refine uX (b4.ext (Ext.drew w4)) hs (by omega) fun s5 w5 b5 f5 n5 _=> ?_
 have na:¬b_.at s4 a:=fun h=>by have:=n4 a h;have:=(r2.ext f3).lt;omega
 have r5:=r4.fr f5 na
 have hck:∀R:Prop,R->CkN (iK d0 d1 d2 d3 d4 d5 d6 d7 d8 d9 d10 d11 d12 d13 d14 d15 d16 d17 d18 d19 d20 d21 d22 d23 d24 d25 d26 d27 d28 d29 d30 d31 d32) w5 ⟨a,0,none⟩ 0 R:=by
  intro R hR
  simp only [sx,Bl,FT,r5.cell,true_and]
  exact hR
 refine hck _ ?_
 have x5:Ext w w5:=x4.new f5 fun y hy h=>by have:=n4 y h;have:=x3.size;omega
 refine Dw (XP (w0:=w) b5 x5 (fun y hy=> ?_) (by rw [List.length_append];omega) hno hd hp) ?_
 ·rcases n5 y hy with h|h
  ·have:=n4 y h;have:=x3.size;omega
  ·have:=x4.size;omega
 rintro s6 w6 ⟨b6,f6,n6⟩
 exact⟨f6,by trivial,b6,n6⟩
theorem Y_ {w:World} {sw ad lf po ou:Int} (had:In64 ad) (hp:PA.may ⟨lf,17,po,ou,3325256705⟩):
  xO sw ad lf po ou w fun s w'=>Ext w w'/\Buf w' s (bytesV (Qi (mapped ad) (List.replicate 12 0) ⟨lf,17,po,ou,3325256705⟩))/\∀b,b_.at s b->w.heap.size<=b:=by
 apply SQ
 refine J8 had fun x0 x1 x2 x3 x4 x5 x6 x7 x8 x9 x10 x11 x12 x13 x14 x15 w1 hx f1=> ?_
 refine TL (ZI (cl:=mapped ad) (no:=List.replicate 12 0) (zI ad) (by simp) hx (by rfl) hp) ?_
 rintro s e w2 ⟨f2,_,b2,n2⟩
 exact⟨f1.trans f2,b2,fun b hb=>by have:=n2 b hb;have:=f1.size;omega⟩
theorem SG {w:World} {s:b_} {l:List UInt8} (hs:rO w s l) (hl:l.length=60) (hp:jL l 129=0) {K:Int->Int->Int->Int->Int->Int->Int->Int->Int->Int->Int->Int->Int->Int->Int->Int->Int->Int->Int->Int->Int->Int->Int->Int->Int->Int->Int->Int->Int->Int->Int->Int->Int->Int->Int->Int->World->Prop}
  (h:∀x0 x1 x2 x3 x4 x5 x6 x7 x8 x9 x10 x11 x12 x13 x14 x15 x16 x17 x18 x19 x20 x21 x22 x23 x24 x25 x26 x27 x28 x29 x30 x31 x32 x33 x34 w',Ext w w'->x0=(num l 3 1:Int)->x1=(num l 8 4:Int)->x2=(num l 4 4:Int)->K x0 x1 x2 x3 x4 x5 x6 x7 x8 x9 x10 x11 x12 x13 x14 x15 x16 x17 x18 x19 x20 x21 x22 x23 x24 x25 x26 x27 x28 x29 x30 x31 x32 x33 x34 0 w'):CB s w K:=by
 apply U9
 refine fK fun a w1 r1 e1 z1 f1=> ?_
 refine X4 (hs.ext f1) (by omega) fun d0 d1 d2 d3 d4 d5 d6 d7 d8 d9 d10 d11 d12 d13 d14 d15 d16 d17 d18 d19 d20 d21 d22 d23 d24 d25 d26 d27 d28 d29 d30 d31 d32 w2 f2 hq=> ?_
 rw [hp] at hq ⊢
 obtain⟨q0,qc,qn,q29,q30,q31,q32⟩:=hq rfl
 refine fK fun b w3 r3 e3 z3 f3=> ?_
 refine fP r3 rfl rfl fun w4 r4 f4' z4=> ?_
 have x4:Ext w2 w4:=f3.new (f4' (·=b) rfl) fun y hy e=>by omega
 simp only [show ((0:Int) !=0)=false from rfl,cond_false,kC]
 refine Ja (iM 0 0 0 0 0 0 0 0 0 0 0 0 0 0 0 0) w4 (iK d0 d1 d2 d3 d4 d5 d6 d7 d8 d9 d10 d11 d12 d13 d14 d15 d16 d17 d18 d19 d20 d21 d22 d23 d24 d25 d26 d27 d28 d29 d30 d31 d32) 1 0 r4 (by intro v hv;exact List.all_eq_true.1 (by rfl:(iM 0 0 0 0 0 0 0 0 0 0 0 0 0 0 0 0).all gY=true) v hv) (by show 17<=33;omega) fun w5 r5 f5' z5=> ?_
 have f5:fD w4 w5 (·=b):=f5' _ rfl
 have r5:Row w5 b (iK d0 0 0 0 0 0 0 0 0 0 0 0 0 0 0 0 0 d17 d18 d19 d20 d21 d22 d23 d24 d25 d26 d27 d28 d29 d30 d31 d32):=r5
 have x5:Ext w2 w5:=x4.new f5 fun y hy e=>by omega
 have hs5:=(hs.ext f1).ext (f2.trans x5)
 refine KL (WT hs5 (by omega) 8 4) ?_
 rintro n e w6 ⟨rfl,hg⟩
 have hn:=Q8 (at_:=8) (k:=4) (by omega) (by omega) hg
 subst hn
 refine byte_at hs5 (i:=3) (by omega) fun ad hc _=> ?_
 have hcd:w6.drew.cell? ad=some (.int .u8 (l[3].toNat:Int)):=hc
 have r6:=r5.drew
 simp only [sx,hcd,r6.cell]
 have hb3:=Q5 (l:=l) (i:=3) (by omega)
 have h255:l[3].toNat<256:=l[3].toNat_lt
 rw [wrap_i64 (by omega) (by omega),<- hb3]
 have r7:Row w6.drew a _:=(r1.ext (f2.trans x5)).drew
 refine fP r7 rfl rfl fun w7 r7 f7' z7=> ?_
 simp only [sx,r7.cell]
 exact h _ _ _ _ _ _ _ _ _ _ _ _ _ _ _ _ _ _ _ _ _ _ _ _ _ _ _ _ _ _ _ _ _ _ _ w7 ((((f1.trans f2).trans x5).trans (Ext.drew w6)).new (f7' (·=a) rfl) fun y hy e=>by omega) rfl rfl q0
end Go.Proofs.PM
end
section
namespace Go.Proofs.PS
open Gp Go.Proofs Go.Proofs.EN Go.Proofs.CN Go.Proofs.PM
open Gp.V4 (fitsP sizeOk num)
open Gp.Bind (Bnd Slots live GoodB freeN getS In64)
set_option maxRecDepth 100000
set_option maxHeartbeats 2000000
variable {c:Cf} {v:SV} {w:World} {A:SA}
theorem Nq:∀(S:Slots) (k:Nat),((live k S).map (·.1)).Nodup/\∀x∈live k S,(k:Int)<=x.1
 |[],k=>by simp [live]
 |none::r,k=>by
  obtain⟨h1,h2⟩:=Nq r (k+1)
  exact⟨h1,fun x hx=>by have:=h2 x hx;omega⟩
 |some b::r,k=>by
  obtain⟨h1,h2⟩:=Nq r (k+1)
  refine⟨?_,fun x hx=> ?_⟩
  ·show ((k:Int)::(live (k+1) r).map (·.1)).Nodup
   rw [List.nodup_cons]
   refine⟨fun hm=> ?_,h1⟩
   obtain⟨y,hy,he⟩:=List.mem_map.1 hm
   have:=h2 y hy
   omega
  ·rcases List.mem_cons.1 hx with rfl|hx
   ·exact Int.le_refl _
   ·have:=h2 x hx;omega
theorem Good.cnt {Z:Bnd->Prop} {P:List Int} (g:Good c Z v P) (h:Srv w A c v) (hZ:∀b,¬Z b):(live 0 v.e.S).length=v.L.length:=by
 refine len_eq (f:=(·.2)) (g:=gW.b) (yJ (Nq v.e.S 0).1 fun x hx y hy e=> ?_) (yJ h.bn fun x hx y hy e=>g.kk x hx y hy (by unfold gW.k;rw [e])) fun b=> ?_
 ·obtain⟨x1,x2⟩:=x
  obtain⟨y1,y2⟩:=y
  obtain⟨i,hi,rfl⟩:=Gp.Bind.nX.1 hx
  obtain⟨j,hj,rfl⟩:=Gp.Bind.nX.1 hy
  simp only at e
  subst e
  rw [KF h.en.db.good hi hj rfl]
 ·rw [List.mem_map,List.mem_map]
  constructor
  ·rintro⟨⟨x1,x2⟩,hx,rfl⟩
   obtain⟨i,hi,_⟩:=Gp.Bind.nX.1 hx
   rcases g.ex i x2 hi with h|h
   ·exact h
   ·exact absurd h (hZ _)
  ·rintro⟨x,hx,rfl⟩
   obtain⟨_,i,hi⟩:=g.eb x hx
   exact⟨(((0+i:Nat):Int),x.b),Gp.Bind.nX.2 ⟨i,hi,rfl⟩,rfl⟩
structure ab7 (c:Cf) (v:SV) (most:Int):Prop where
 pl:c.pl=[3325256705]
 sw:c.sw.len=2
 q:c.q=16
 nb:c.nb=64
 L:v.L=[]
 now:v.now=0
 nx:v.nx=0
 most:v.most=most
 tn:v.tn=0
 e:v.e=e0 2 64 128
theorem aam {w:World} {K:Option Addr->Int->Option Addr->Int->World->Prop}
  (h:∀w' c A v,Ext w w'->Srv w' A c v->Good c (fun _=>False) v []->ab7 c v 4->(∀b,jy A v.L b->w.heap.size<=b)->K (some ⟨A.a.x,0,none⟩) 0 (some ⟨A.s,0,none⟩) 0 w'):
  rC w fun p0 p1 p2 p3 p4 p5 p6 p7 p8 p9 p10 p11 p12 p13 p14 p15 sw po n18 n19 n20 n21 n22 n23 n24 n25 n26 n27 n28 n29 n30 n31 n32 n33 n34 st w1=>zO p0 p1 p2 p3 p4 p5 p6 p7 p8 p9 p10 p11 p12 p13 p14 p15 sw po n18 n19 n20 n21 n22 n23 n24 n25 n26 n27 n28 n29 n30 n31 n32 n33 n34 st w1 fun r38 r39 w2=>uJ r38 4 w2 fun r41 r42 w3=>K r38 r39 r41 r42 w3:=by
 refine P_ (Xf w) ?_
 rintro p0 p1 p2 p3 p4 p5 p6 p7 p8 p9 p10 p11 p12 p13 p14 p15 sw po n18 n19 n20 n21 n22 n23 n24 n25 n26 n27 n28 n29 n30 n31 n32 n33 n34 st w1 ⟨bs,bp,hB,rfl,rfl,rfl,rfl,rfl,rfl,rfl,rfl,rfl,rfl,rfl,rfl,rfl,rfl,rfl,rfl,rfl,rfl,rfl,rfl,rfl,rfl,rfl,rfl,rfl,rfl,rfl,rfl,rfl,rfl,rfl,rfl,rfl,rfl,rfl,rfl⟩
 have hz:∀{W:World},kH 7 e7 W ⟨none,0,0⟩ ([]:List T7):=fun {W}=>kH.nil
 refine XY hB.sl hB.pl hz (by simp) (by simp) (by simp) (fun r w' _ hr hc=>absurd (XO hc (.inr ⟨YU,.inr ⟨YG,rfl⟩⟩)) hr) fun hOk hfine w2 ea e f2 hE hI hS hM hown=> ?_
 have he:e=e0 2 64 128:=by
  have hM:Maps _ (e0 2 64 128) [] e:=hM
  generalize hq:([]:List Bnd)=q at hM
  cases hM with
  |nil=>rfl
  |no=>simp at hq
  |yes=>simp at hq
 subst he
 obtain⟨c,hcdef⟩:∃c:Cf,c=⟨jh 32 1 13 184 0 0 0 0 0 0 0 0 0 0 0 1 ⟨some ⟨bs,0,none⟩,2,2⟩ ⟨some ⟨bp,0,none⟩,1,1⟩ 1024 65535 16 64 128 8 1048576 1500 1500 64 0 2 300 7440 240 60 60 ⟨none,0,0⟩,⟨some ⟨bs,0,none⟩,2,2⟩,[3325256705],1024,65535,16,64,128⟩:=⟨_,rfl⟩
 rw [<- hcdef] at hE hI
 refine L9 (PS.KY (Z:=fun _=>False) hE hI hS (by show 0<=2^40;omega) (n:=4) (by omega) (by omega) fun j b hj=> ?_) ?_
 ·have hj:(List.replicate 64 (none:Option Bnd))[j]? =some (some b):=hj
  rw [List.getElem?_replicate] at hj
  split at hj<;>simp at hj
 rintro p r w3 ⟨rfl,f3,A,v,rfl,hAa,hSv,hG,hL,hnow,hnx,hmost,hve,htn,hownS⟩
 have:=h w3 c A v ((hB.ext.trans f2).trans f3) hSv hG ⟨by rw [hcdef],by rw [hcdef],by rw [hcdef],by rw [hcdef],hL,hnow,hnx,hmost,htn,hve⟩ fun b hb=> ?_
 ·rw [hAa] at this
  exact this
 ·have z1:=hB.ext.size
  rcases hownS b hb with ⟨k,h⟩|h
  ·have:=hown k b h;omega
  ·have:=f2.size;omega
end Go.Proofs.PS
end
section
namespace Go.Proofs.PS
open Gp Go.Proofs Go.Proofs.EN Go.Proofs.CN Go.Proofs.PM
open Gp.V4 (fitsP sizeOk num)
open Gp.Bind (Bnd Slots live GoodB freeN getS In64)
set_option maxRecDepth 100000
set_option maxHeartbeats 2000000
variable {c:Cf} {v:SV} {w:World} {A:SA}
def qP (lf po ou:Int):PA:=⟨lf,17,po,ou,3325256705⟩
def qB (sw po ou:Int):Bnd:=⟨sw,17,167772161,po,17,3325256705,ou,true⟩
def zL:List UInt8:=List.replicate 12 0
def qL (lf po ou:Int):List UInt8:=Qi (mapped 167772161) zL (qP lf po ou)
theorem acy {n k m:Int} (hk:sizeOk k) (hm:(256:Int)^k.toNat=m) (h0:0<=n) (h1:n<m):fitsP n k:=⟨hk,h0,by rw [hm];exact h1⟩
theorem Zq {n:Int} (h0:0<=n) (h1:n<4294967296):fitsP n 4:=acy ⟨by omega,by omega⟩ (by decide) h0 h1
theorem ab8 {n:Int} (h0:0<=n) (h1:n<65536):fitsP n 2:=acy ⟨by omega,by omega⟩ (by decide) h0 h1
theorem acf {n:Int} (h0:0<=n) (h1:n<256):fitsP n 1:=acy ⟨by omega,by omega⟩ (by decide) h0 h1
theorem Yg {l:List UInt8} {k:Int} (h:jL l k=0):l.length=60:=by
 unfold jL at h
 split at h
 ·omega
 split at h<;>omega
theorem aaB {lf po ou:Int} (h1:0<=lf/\lf<4294967296) (h2:0<=po/\po<65536) (h3:0<=ou/\ou<65536):(qP lf po ou).may:=
 ⟨Zq h1.1 h1.2,acf (n:=17) (by decide) (by decide),ab8 h2.1 h2.2,ab8 h3.1 h3.2,Zq (n:=3325256705) (by decide) (by decide)⟩
theorem Zn {lf po ou:Int} (h:(qP lf po ou).may):jL (qL lf po ou) 1=0/\yO (qL lf po ou)=qP lf po ou/\QZ (qL lf po ou)=mapped 167772161/\Vs (qL lf po ou)=zL:=
 WY (zI _) (by simp [zL]) h
theorem Ry {r ep lf po ou:Int} (hr:0<=r/\r<256) (he:0<=ep/\ep<4294967296) (h:(qP lf po ou).may):Gi r ep (qP lf po ou):=⟨h,acf hr.1 hr.2,Zq he.1 he.2⟩
theorem acg:In64 167772161:=by unfold In64;omega
theorem YS (h:Srv w A c v) (g:Good c (fun _=>False) v []) (f:ab7 c v 4) {sw lf po ou:Int} (hsw:sw=0\/sw=1) (h1:0<lf/\lf<=65535) (h2:0<=po/\po<65536) (h3:0<=ou/\ou<65536) {s:b_} (hs:rO w s (qL lf po ou)) {K:b_->Int->World->Prop}
  (hK:∀s' w' A' v' n id,Out c (fun _=>False) w A v w' A' v'->v'.L=[⟨n,qB sw po ou,lf,id⟩]->Buf w' s' (bytesV (JU 0 0 zL (qP lf po ou)))->(∀b,b_.at s' b->w.heap.size<=b/\¬jy A' v'.L b)->K s' 0 w'):
  kW (some ⟨A.s,0,none⟩) sw 167772161 s w K:=by
 have hm:=aaB (lf:=lf) (po:=po) (ou:=ou) (by omega) h2 h3
 obtain⟨q1,q2,q3,q4⟩:=Zn hm
 refine Vx h g (by rw [f.nx];omega) (by rw [f.tn];omega) (by rw [f.most];omega) acg hs (by rw [Yg q1];omega) fun s' e bs w' A' v' ho hr hb hn=> ?_
 have hL:=f.L
 have hlf:(yO (qL lf po ou)).lf=lf:=by rw [q2];rfl
 have hB:aa8 (qL lf po ou) sw 167772161=qB sw po ou:=by unfold aa8;rw [q2];rfl
 have hmap:AX c v.e (qB sw po ou)=0:=by
  have he:=f.e
  have hmay:PY c (qB sw po ou):=by
   refine⟨.inr (.inr rfl),(by decide:kX 167772161),?_,⟨h2.1,by show po<=65535;omega⟩,⟨h3.1,by show ou<=65535;omega⟩,rfl,?_⟩
   ·rw [f.pl];exact List.mem_singleton.2 rfl
   ·unfold YD;rw [f.sw];show 0<=sw/\sw<2;omega
  unfold AX
  rw [if_neg (not_not_intro hmay),he,if_neg (by simp [e0]),if_neg,if_neg]
  ·show ¬((live 0 (List.replicate 64 none)).length:Int)>=c.nb
   rw [qJ,f.nb];simp
  ·rw [f.q]
   have hc:QN.AZ (e0 2 64 128).Q (qB sw po ou).sw=0:=by
    rcases hsw with rfl|rfl
    ·exact(by decide:QN.AZ (List.replicate 2 0) 0=0)
    ·exact(by decide:QN.AZ (List.replicate 2 0) 1=0)
   rw [hc];decide
 generalize hl:qL lf po ou=l at *
 cases hr with
 |bad hne=>exact absurd q1 hne
 |far _ hne=>exact absurd q3 hne
 | @ans r e0' e31 e32 _ _ _ ha=>
  rw [hlf,hB] at ha
  cases ha with
  |none h0=>omega
  |drop h0=>omega
  |ext _ hx=>rw [hL] at hx;cases hx
  |renew _ hx=>rw [hL] at hx;cases hx
  |full _ _ hf=>rw [hL,f.most] at hf;simp at hf
  |map _ _ _ hne=>exact absurd hmap hne
  | @add n id i _ _ _ _ _ hL' hfree hS'=>
   have ht:qm l 0 (min lf 86400) (qB sw po ou).opo (qB sw po ou).oad=qP lf po ou:=by
    unfold qm
    rw [q2,if_pos rfl]
    show (⟨min lf 86400,17,po,ou,3325256705⟩:PA)=⟨lf,17,po,ou,3325256705⟩
    rw [Int.min_eq_left (by omega)]
   have hnow:((v.now % 4294967296:Nat):Int)=0:=by rw [f.now];rfl
   rw [ht,hnow,if_pos (Ry (by omega) (by omega) hm),q4] at hb
   have:=hK s' w' A' v' n id ho (by rw [hL',f.L,f.now,Int.min_eq_left (by omega)];simp) hb hn
   rw [ht,hnow,if_pos (Ry (by omega) (by omega) hm)]
   exact this
end Go.Proofs.PS
end
section
namespace Go.Proofs.PS
open Gp Go.Proofs Go.Proofs.EN Go.Proofs.CN Go.Proofs.PM
open Gp.V4 (fitsP sizeOk num)
open Gp.Bind (Bnd Slots live GoodB freeN getS In64)
set_option maxRecDepth 100000
set_option maxHeartbeats 2000000
variable {c:Cf} {v:SV} {w:World} {A:SA}
theorem XH (h:Srv w A c v) (g:Good c (fun _=>False) v []) {K:Int->b_->b_->Int->Int->Int->b_->World->Prop} (hK:∀x0 bs ss x3 x4 x5 sl w',Ext w w'->bs.len=v.L.length->K x0 bs ss x3 x4 x5 sl w'):
  ku (some ⟨A.a.x,0,none⟩) w K:=by
 have hE:=h.en
 have hb1:=hE.cf.b1
 have hs1:=hE.cf.s1
 have hl:=hE.db.len
 refine Xy hE ⟨by rw [hl];omega,by rw [hE.se.len];omega⟩ fun bs ss w' f hbs _ _ _=>hK _ _ _ _ _ _ _ _ f ?_
 rw [(hbs.sl Og (by omega)).len,List.length_map,g.cnt h fun _ hz=>hz]
theorem abv (h:Srv w A c v) (g:Good c (fun _=>False) v []) {x:gW} (hL:v.L=[x]) (hun:x.un<=1099511627776) {a:Int} (ha:(v.now:Int)<=a/\a<=1099511627776) {K:Int->World->Prop}
  (hK:∀n w' A' v',fD w w' (jy A v.L)->Srv w' A' c v'->Good c (fun _=>False) v' []->A'.s=A.s->A'.a=A.a->(∀b,jy A' v'.L b->jy A v.L b\/w.heap.size<=b)->v'.now=a.toNat->v'.tn=v.tn->v'.most=v.most->v'.nx=v.nx->
   (x.un<=a->n=1/\v'.L=[])->(a<x.un->n=0/\v'.L=[x])->K n w'):iW (some ⟨A.s,0,none⟩) a w K:=by
 refine vw (O_ h g (fun y hy=>by rw [hL] at hy;rw [List.mem_singleton.1 hy];exact hun) a (T:=a.toNat) (by omega)) ?_
 rintro n w' ⟨f,A',v',hS,hG,hs,ha',hsub,hn,hm,ht,hmo,hx,hc⟩
 have hTa:((a.toNat:Nat):Int)=a:=Int.toNat_of_nonneg (by omega)
 rw [hTa] at hm
 refine hK n w' A' v' f hS hG hs ha' hsub hn ht hmo hx (fun hle=> ?_) fun hlt=> ?_
 ·have:v'.L=[]:=List.eq_nil_iff_forall_not_mem.2 fun y hy=>by
   have:=(hm y).1 hy
   rw [hL,List.mem_singleton] at this
   rw [this.1] at this
   omega
  rw [hc,this,hL]
  exact⟨rfl,rfl⟩
 ·have hall:∀y∈v'.L,y=x:=fun y hy=>by
   have:=((hm y).1 hy).1
   rw [hL] at this
   exact List.mem_singleton.1 this
  have hin:x∈v'.L:=(hm x).2 ⟨by rw [hL];exact List.mem_singleton.2 rfl,hlt⟩
  have:v'.L=[x]:=by
   cases hl:v'.L with
   |nil=>rw [hl] at hin;cases hin
   |cons y l=>
    have hbn:=hS.bn
    rw [hl] at hall hbn
    obtain rfl:=hall y List.mem_cons_self
    cases l with
    |nil=>rfl
    |cons z l=>
     obtain rfl:=hall z (by simp)
     simp at hbn
  rw [hc,this,hL]
  exact⟨rfl,rfl⟩
theorem Zl {w:World} {s:b_} {r ep:Int} {p:PA} (hs:rO w s (JU r ep zL p)) (hp:Gi r ep p) {K:Int->Int->Int->Int->Int->Int->Int->Int->Int->Int->Int->Int->Int->Int->Int->Int->Int->Int->Int->Int->Int->Int->Int->Int->Int->Int->Int->Int->Int->Int->Int->Int->Int->Int->Int->Int->World->Prop}
  (h:∀x0 x1 x2 x3 x4 x5 x6 x7 x8 x9 x10 x11 x12 x13 x14 x15 x16 x17 x18 x19 x20 x21 x22 x23 x24 x25 x26 x27 x28 x29 x30 x31 x32 x33 x34 w',Ext w w'->x0=r->x1=ep->x2=p.lf->K x0 x1 x2 x3 x4 x5 x6 x7 x8 x9 x10 x11 x12 x13 x14 x15 x16 x17 x18 x19 x20 x21 x22 x23 x24 x25 x26 x27 x28 x29 x30 x31 x32 x33 x34 0 w'):CB s w K:=by
 obtain⟨h1,h2,h3,h4,h5⟩:=YR (no:=zL) (by simp [zL]) hp
 refine SG hs h5 h1 fun x0 x1 x2 x3 x4 x5 x6 x7 x8 x9 x10 x11 x12 x13 x14 x15 x16 x17 x18 x19 x20 x21 x22 x23 x24 x25 x26 x27 x28 x29 x30 x31 x32 x33 x34 w' f e0 e1 e2=>h x0 x1 x2 x3 x4 x5 x6 x7 x8 x9 x10 x11 x12 x13 x14 x15 x16 x17 x18 x19 x20 x21 x22 x23 x24 x25 x26 x27 x28 x29 x30 x31 x32 x33 x34 w' f ?_ ?_ ?_
 ·rw [e0,h3,Int.toNat_of_nonneg hp.2.1.2.1]
 ·rw [e1,h4,Int.toNat_of_nonneg hp.2.2.2.1]
 ·have:(yO (JU r ep zL p)).lf=p.lf:=by rw [h2]
  rw [e2];exact this
theorem ZP (w:World):lC w fun r w'=>r=true/\Ext w w':=by
 apply OG
 refine aam fun w1 c A v f1 hS hG hF hown=> ?_
 have hnb:∀{B:SA} {L:List gW},(∀b,jy B L b->w.heap.size<=b)->∀y,y<w.heap.size->¬jy B L y:=fun hB y hy h=>by have:=hB y h;omega
 intro J
 have hJ:J false:=by
  simp -zeta only [J,cond_false]
  have hp:=aaB (lf:=60) (po:=80) (ou:=8080) (by omega) (by omega) (by omega)
  refine Sv (Y_ acg hp) ?_
  rintro s w2 ⟨f2,b2,n2⟩
  have hS2:=hS.ext f2
  refine YS hS2 hG hF (sw:=1) (lf:=60) (po:=80) (ou:=8080) (.inr rfl) (by omega) (by omega) (by omega) (rO.IB b2) fun s' w3 A' v' n id ho hL' hb3 hn3=> ?_
  have x3:Ext w w3:=(f1.trans f2).new ho.fr (hnb hown)
  have hA':∀b,jy A' v'.L b->w.heap.size<=b:=fun b hb=>by
   rcases ho.sub b hb with h|h
   ·exact hown b h
   ·have:=(f1.trans f2).size;omega
  have hap:=Ry (r:=0) (ep:=0) (by omega) (by omega) hp
  refine Zl (rO.IB hb3) hap fun t0 t1 t2 t3 t4 t5 t6 t7 t8 t9 t10 t11 t12 t13 t14 t15 t16 t17 t18 t19 t20 t21 t22 t23 t24 t25 t26 t27 t28 t29 t30 t31 t32 t33 t34 w4 f4 e0 e1 e2=> ?_
  subst e0 e1 e2
  refine fK fun a w5 r5 e5 z5 f5=> ?_
  refine fP r5 rfl rfl fun w6 r6 f6' z6=> ?_
  have x6:Ext w3 w6:=(f4.trans f5).new (f6' (·=a) rfl) fun y hy e=>by have:=f4.size;omega
  intro J2
  have hJ2:∀q W,q=true->Ext w W->J2 q W:=fun q W hq hW=>⟨hq,hW⟩
  clear_value J2
  simp only [show ((0:Int)==0)=true from rfl,cond_true,sx,r6.cell]
  show cond ((60:Int)==60) _ _
  rw [show ((60:Int)==60)=true from rfl,cond_true]
  have hS6:=ho.srv.ext x6
  rw [<- ho.x]
  refine XH hS6 ho.good fun y0 bs ss y3 y4 y5 sl w7 f7 hbl=> ?_
  rw [hbl,hL']
  show cond true _ _
  rw [cond_true,<- ho.s]
  refine abv (hS6.ext f7) ho.good hL' (by show (60:Int)<=_;omega) (a:=60) (by rw [ho.now,hF.now];omega) fun n8 w8 A8 v8 f8 hS8 hG8 hs8 ha8 hsub8 hn8 ht8 hm8 hx8 h81 _=> ?_
  obtain⟨rfl,hL8⟩:=h81 (Int.le_refl _)
  rw [show ((1:Int)==1)=true from rfl,cond_true,<- ha8]
  have x8:Ext w w8:=((x3.trans x6).trans f7).new f8 (hnb hA')
  refine XH hS8 hG8 fun y0 bs ss y3 y4 y5 sl w9 f9 hbl=> ?_
  refine hJ2 _ _ ?_ (x8.trans f9)
  rw [hbl,hL8];rfl
 clear_value J
 exact hJ
end Go.Proofs.PS
end
section
namespace Go.Proofs.PS
open Gp Go.Proofs.CN
set_option maxRecDepth 100000
abbrev adI:iP:= .arr 16 (.int .u8) 1
abbrev acJ:iP:= .agg (.cons (.agg (.cons (.int .i64) 1 (.cons (.int .i64) 1 (.cons (.int .i64) 1 (.cons (.int .i64) 1 .nil))))) 4 (.cons (.agg (.cons (.int .i64) 1 (.cons (.int .i64) 1 (.cons (.int .i64) 1 .nil)))) 3 .nil))
def adQ (l:List Int):oI:=(l.getD 0 0,l.getD 1 0,l.getD 2 0,l.getD 3 0,l.getD 4 0,l.getD 5 0,l.getD 6 0,l.getD 7 0,l.getD 8 0,l.getD 9 0,l.getD 10 0,l.getD 11 0,l.getD 12 0,l.getD 13 0,l.getD 14 0,l.getD 15 0,())
def adU (x:acJ.T):T7:=(x.1.1,x.1.2.1,x.1.2.2.1,x.1.2.2.2.1,x.2.1.1,x.2.1.2.1,x.2.1.2.2.1,())
theorem U7 {l:List Int} (h:l.length=16):∃p0 p1 p2 p3 p4 p5 p6 p7 p8 p9 p10 p11 p12 p13 p14 p15:Int,l=[p0,p1,p2,p3,p4,p5,p6,p7,p8,p9,p10,p11,p12,p13,p14,p15]:=by
 match l,h with
 |[p0,p1,p2,p3,p4,p5,p6,p7,p8,p9,p10,p11,p12,p13,p14,p15],_=>exact⟨p0,p1,p2,p3,p4,p5,p6,p7,p8,p9,p10,p11,p12,p13,p14,p15,rfl⟩
theorem ada {w:World} {x:(iP.slice adI 16).T} (h:(iP.slice adI 16).In w x):kH 16 e16 w x.1 (x.2.map adQ):=
 Sm (by decide) h adQ e16 oW fun y hy=>by
  obtain⟨p0,p1,p2,p3,p4,p5,p6,p7,p8,p9,p10,p11,p12,p13,p14,p15,rfl⟩:=U7 hy.1
  rfl
theorem acI {w:World} {x:(iP.slice (.int .i64) 1).T} (h:(iP.slice (.int .i64) 1).In w x):kH 1 eI w x.1 (x.2.map fun y:Int=>y):=
 Sm (d:= .int .i64) (by decide) h (fun y:Int=>y) eI jB fun y hy=>rfl
theorem acE {w:World} {x:(iP.slice acJ 7).T} (h:(iP.slice acJ 7).In w x):kH 7 e7 w x.1 (x.2.map adU):=
 Sm (by decide) h adU e7 vP fun y hy=>rfl
abbrev doD:iP:= .agg (.cons (.int .i64) 1 (.cons (.int .i64) 1 (.cons (.int .i64) 1 (.cons (.int .i64) 1 (.cons (.slice (.int .u8) 1) 1 .nil)))))
def doG (x:doD.T):Dc:=⟨x.1,x.2.1,x.2.2.1,x.2.2.2.1,x.2.2.2.2.1.1,x.2.2.2.2.1.2.map fun n:Int=>UInt8.ofNat n.toNat⟩
theorem adB {w:World} {x:(iP.slice doD 5).T} (h:(iP.slice doD 5).In w x):Vg w x.1 (x.2.map doG):=by
 refine⟨Sm (by decide) h doG eD Zo fun y hy=>rfl,fun y hy=> ?_,fun y hy=> ?_⟩
 ·obtain⟨z,hz,rfl⟩:=List.mem_map.1 hy
  have hin:=h.2 z hz
  exact abH hin.2.2.2.2.1
 ·obtain⟨z,hz,rfl⟩:=List.mem_map.1 hy
  have hin:=h.2 z hz
  exact wf_i64 hin.2.2.1
end Go.Proofs.PS
end
