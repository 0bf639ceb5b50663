import Derived.Test.YtfndjkoiappemaaGreatW11
section
namespace Go.Proofs.PM
open Gp Gp.V4 Go.Proofs Go.Proofs.CN
open Gp.Bind (In64)
set_option maxRecDepth 100000
set_option maxHeartbeats 1000000
structure PA where
 lf:Int
 pr:Int
 po:Int
 ou:Int
 ad:Int
def PA.may (p:PA):Prop:=fitsP p.lf 4/\fitsP p.pr 1/\fitsP p.po 2/\fitsP p.ou 2/\fitsP p.ad 4
instance (p:PA):Decidable p.may:=inferInstanceAs (Decidable (_/\_))
theorem XZ {w:World} {d0 d1 d2 d3 d4 d5 d6 d7 d8 d9 d10 d11 d12 d13 d14 d15 d16 d17 d18 d19 d20 d21 d22 d23 d24 d25 d26 d27 d28 e29 e30 e31 e32:Int}:pR d0 d1 d2 d3 d4 d5 d6 d7 d8 d9 d10 d11 d12 d13 d14 d15 d16 d17 d18 d19 d20 d21 d22 d23 d24 d25 d26 d27 d28 e29 e30 e31 e32 w fun r w'=>r=decide (PA.may ⟨d0,e29,e30,e31,e32⟩)/\Ext w w':=by
 apply OW
 refine fK fun a w1 r1 e1 z1 f1=> ?_
 simp only [sx,r1.cell]
 refine fK fun b w2 r2 e2 z2 f2=> ?_
 refine NP (aac (fs:=[(d0,4,()),(e29,1,()),(e30,2,()),(e31,2,()),(e32,4,())]) (Hu r2 rfl rfl) (by simp)) ?_
 rintro r w3 ⟨rfl,f3⟩
 refine⟨decide_eq_decide.2 ?_,(f1.trans f2).trans f3⟩
 unfold PA.may
 simp
def G_ (l no:List UInt8) (p:PA):List UInt8:=qh (l++no) [(p.pr,1,()),(0,3,()),(p.po,2,()),(p.ou,2,())]++mapped p.ad
theorem Rq {w w0 w':World} {s:b_} (hs:∀b,b_.at s b->w0.heap.size<=b) (hx:Ext w0 w) (hf:fD w w' (b_.at s)):Ext w0 w':=hx.new hf fun b hb ha=>by have:=hs b ha;omega
theorem XP {w w0:World} {s:b_} {l no:List UInt8} {d0 d1 d2 d3 d4 d5 d6 d7 d8 d9 d10 d11 d12 d13 d14 d15 d16 d17 d18 d19 d20 d21 d22 d23 d24 d25 d26 d27 d28 e29 e30 e31 e32:Int} (hs:Buf w s (bytesV l)) (hw:Ext w0 w) (hn:∀b,b_.at s b->w0.heap.size<=b) (hl:l.length<=1000) (hno:no.length=12) (hd:[d17,d18,d19,d20,d21,d22,d23,d24,d25,d26,d27,d28]=bi no) (hp:PA.may ⟨d0,e29,e30,e31,e32⟩):
  nV d0 d1 d2 d3 d4 d5 d6 d7 d8 d9 d10 d11 d12 d13 d14 d15 d16 d17 d18 d19 d20 d21 d22 d23 d24 d25 d26 d27 d28 e29 e30 e31 e32 s w fun r w'=>Buf w' r (bytesV (G_ l no ⟨d0,e29,e30,e31,e32⟩))/\Ext w0 w'/\∀b,b_.at r b->w0.heap.size<=b:=by
 apply MJ
 have had:In64 e32:=by
  obtain⟨_,_,_,_,⟨_,h1,h2⟩⟩:=hp
  unfold In64
  have:(256:Int)^(4:Int).toNat=4294967296:=by decide
  simp only at h1 h2
  omega
 refine fK fun a w1 r1 e1 z1 f1=> ?_
 simp -zeta only [sx,r1.cell]
 refine J8 had fun u0 u1 u2 u3 u4 u5 u6 u7 u8 u9 u10 u11 u12 u13 u14 u15 w2 hx f2=> ?_
 refine fK fun b w3 r3 e3 z3 f3=> ?_
 refine fP r3 rfl rfl fun w4 r4 f4 z4=> ?_
 have f4:=f4 (·=b) rfl
 have x4:Ext w1 w4:=(f2.trans f3).new f4 fun y hy e=>by have:=f2.size;omega
 have xw:Ext w w4:=f1.trans x4
 intro J
 have hL:bytesV no=[.int .u8 d17,.int .u8 d18,.int .u8 d19,.int .u8 d20,.int .u8 d21,.int .u8 d22,.int .u8 d23,.int .u8 d24,.int .u8 d25,.int .u8 d26,.int .u8 d27,.int .u8 d28]:=by
  rw [yX,<- hd];rfl
 have r1d:=r1.ext (x4.trans (Ext.drew w4))
 have hno':rO w4.drew ⟨some ⟨a,17,none⟩,12,12⟩ no:=JD (o:=17) r1d (A:= .int .i64 d0::[.int .u8 d1,.int .u8 d2,.int .u8 d3,.int .u8 d4,.int .u8 d5,.int .u8 d6,.int .u8 d7,.int .u8 d8,.int .u8 d9,.int .u8 d10,.int .u8 d11,.int .u8 d12,.int .u8 d13,.int .u8 d14,.int .u8 d15,.int .u8 d16]) (C:=[.int .i64 e29,.int .i64 e30,.int .i64 e31,.int .i64 e32]) (by rw [hL];rfl) rfl hno.symm
 refine Oz (n:=12) (by decide) ?_
 simp only [sx,r1d.cell]
 have hsz:w0.heap.size<=w.heap.size:=hw.size
 have hJ:∀s' W,Buf W s' (bytesV (qh (l++no) [(e29,1,()),(0,3,()),(e30,2,()),(e31,2,())]))->Row W b (iM u0 u1 u2 u3 u4 u5 u6 u7 u8 u9 u10 u11 u12 u13 u14 u15)->Ext w0 W->(∀c,b_.at s' c->w0.heap.size<=c)->J s' W:=by
  intro s' W hb hr hx0 hnw
  simp only [J]
  refine Ea ?_
  have hm:rO W ⟨some ⟨b,0,none⟩,16,16⟩ (mapped e32):=JD (o:=0) hr (A:=[]) (C:=[]) (by rw [yX,<- hx];rfl) rfl (zI _).symm
  have hln:=wE [(e29,1,()),(0,3,()),(e30,2,()),(e31,2,())] (l++no)
  simp only [List.length_append,List.length_cons,List.length_nil] at hln
  refine uX hb hm (by have:=zI e32;omega) fun s2 W2 b2 g2 n2 _=> ?_
  refine⟨b2,Rq hnw hx0 g2,fun c hc=> ?_⟩
  rcases n2 c hc with h|h
  ·exact hnw c h
  ·have:=hx0.size;omega
 clear_value J
 have hsd:=(hs.ext xw).ext (Ext.drew w4)
 have xd:Ext w w4.drew:=xw.trans (Ext.drew w4)
 have hat:∀c,b_.at s c->c<w.heap.size:=fun c hc=>hs.lt hc
 have hbw:w.heap.size<=b:=by have:=f1.size;have:=f2.size;omega
 refine⟨?_,?_⟩
 ·refine uX hsd hno' (by rw [hno];omega) fun s5 w5 b5 g5 n5 _=> ?_
  have x5:Ext w0 w5:=Rq hn (hw.trans xd) g5
  have hn5:∀c,b_.at s5 c->w0.heap.size<=c:=fun c hc=>by
   rcases n5 c hc with h|h
   ·exact hn c h
   ·have:=(hw.trans xd).size;omega
  have r5:=r1d.fr g5 (fun h=>by have:=hat _ h;omega)
  have q5:=r4.drew.fr g5 (fun h=>by have:=hat _ h;omega)
  simp only [sx,r5.cell,true_and]
  refine fK fun t w6 r6 e6 z6 f6=> ?_
  refine zQ (Ju (fs:=[(e29,1,()),(0,3,()),(e30,2,()),(e31,2,())]) (b5.ext f6) (Hu r6 rfl rfl) (by simp) (by simp [hno];omega)) ?_
  rintro r w7 ⟨b7,f7,n7⟩
  exact hJ _ _ b7 ((q5.ext f6).ext f7) (x5.trans (f6.trans f7)) fun c hc=>by have:=n7 c hc;have:=(x5.trans f6).size;omega
 ·refine fK fun t w5 r5 e5 z5 f5=> ?_
  refine uX (hsd.ext f5) (hno'.ext f5) (by rw [hno];omega) fun s6 w6 b6 g6 n6 _=> ?_
  have x6:Ext w0 w6:=Rq hn ((hw.trans xd).trans f5) g6
  have zd:w4.drew.heap.size=w4.heap.size:=rfl
  have z4':=xw.size
  have r6:=(r1d.ext f5).fr g6 (fun h=>by have:=hat _ h;omega)
  have q6:=(r4.drew.ext f5).fr g6 (fun h=>by have:=hat _ h;omega)
  have t6:=r5.fr g6 (fun h=>by have:=hat _ h;omega)
  simp only [sx,r6.cell,true_and]
  refine zQ (Ju (fs:=[(e29,1,()),(0,3,()),(e30,2,()),(e31,2,())]) b6 (Hu t6 rfl rfl) (by simp) (by simp [hno];omega)) ?_
  rintro r w7 ⟨b7,f7,n7⟩
  exact hJ _ _ b7 (q6.ext f7) (x6.trans f7) fun c hc=>by have:=n7 c hc;have:=x6.size;omega
def JU (r ep:Int) (no:List UInt8) (p:PA):List UInt8:=
 G_ (qh (qh [] [(2,1,()),(129,1,()),(0,1,()),(r,1,())]) [(p.lf,4,()),(ep,4,()),(0,4,()),(0,4,()),(0,4,())]) no p
def Gi (r ep:Int) (p:PA):Prop:=p.may/\fitsP r 1/\fitsP ep 4
instance (r ep:Int) (p:PA):Decidable (Gi r ep p):=inferInstanceAs (Decidable (_/\_))
theorem YV {w:World} {no:List UInt8} {r ep d0 d1 d2 d3 d4 d5 d6 d7 d8 d9 d10 d11 d12 d13 d14 d15 d16 d17 d18 d19 d20 d21 d22 d23 d24 d25 d26 d27 d28 e29 e30 e31 e32:Int} (hno:no.length=12) (hd:[d17,d18,d19,d20,d21,d22,d23,d24,d25,d26,d27,d28]=bi no):
  rU r ep d0 d1 d2 d3 d4 d5 d6 d7 d8 d9 d10 d11 d12 d13 d14 d15 d16 d17 d18 d19 d20 d21 d22 d23 d24 d25 d26 d27 d28 e29 e30 e31 e32 w fun s e w'=>Ext w w'/\e=(if Gi r ep ⟨d0,e29,e30,e31,e32⟩ then 0 else 1)/\Buf w' s (bytesV (if Gi r ep ⟨d0,e29,e30,e31,e32⟩ then JU r ep no ⟨d0,e29,e30,e31,e32⟩ else []))/\∀b,b_.at s b->w.heap.size<=b:=by
 apply PW
 refine fK fun a w1 r1 e1 z1 f1=> ?_
 intro J
 have hJt:∀W,Ext w1 W->¬Gi r ep ⟨d0,e29,e30,e31,e32⟩->J true W:=by
  intro W hx hn
  simp only [J,cond_true]
  rw [if_neg hn,if_neg hn]
  exact⟨f1.trans hx,rfl,Buf.nil,fun b ⟨o,hb⟩=>by cases hb⟩
 have hJf:∀W,Ext w1 W->Gi r ep ⟨d0,e29,e30,e31,e32⟩->J false W:=by
  intro W hx hp
  simp only [J,cond_false]
  rw [if_pos hp,if_pos hp]
  have rW:=r1.ext hx
  simp only [sx,rW.cell]
  refine fK fun b w2 r2 e2 z2 f2=> ?_
  refine zQ (Ju (l:=[]) (fs:=[(2,1,()),(129,1,()),(0,1,()),(r,1,())]) Buf.nil (Hu r2 rfl rfl) (by simp) (by simp)) ?_
  rintro s3 w3 ⟨b3,f3,n3⟩
  have r3:=(rW.ext f2).ext f3
  have x3:=(f1.trans hx).trans (f2.trans f3)
  have l3:=wE [(2,1,()),(129,1,()),(0,1,()),(r,1,())] []
  simp only [List.length_cons,List.length_nil] at l3
  simp only [sx,r3.cell]
  refine fK fun c w4 r4 e4 z4 f4=> ?_
  refine zQ (Ju (fs:=[(d0,4,()),(ep,4,()),(0,4,()),(0,4,()),(0,4,())]) (b3.ext f4) (Hu r4 rfl rfl) (by simp) (by simp only [List.length_cons,List.length_nil];omega)) ?_
  rintro s5 w5 ⟨b5,f5,n5⟩
  have l5:=wE [(d0,4,()),(ep,4,()),(0,4,()),(0,4,()),(0,4,())] (qh [] [(2,1,()),(129,1,()),(0,1,()),(r,1,())])
  simp only [List.length_cons,List.length_nil] at l5
  have r5:=(r3.ext f4).ext f5
  have x5:=x3.trans (f4.trans f5)
  simp only [sx,r5.cell]
  refine Dw (XP (w0:=w) b5 x5 (fun y hy=>by have:=n5 y hy;have:=(x3.trans f4).size;omega) (by omega) hno hd hp.1) ?_
  rintro s6 w6 ⟨b6,f6,n6⟩
  exact⟨f6,by trivial,b6,n6⟩
 clear_value J
 simp only [sx,r1.cell]
 refine EI XZ ?_
 rintro _ w2 ⟨rfl,f2⟩
 by_cases hm:PA.may ⟨d0,e29,e30,e31,e32⟩
 rotate_left
 ·rw [decide_eq_false hm,Bool.not_false,cond_true]
  exact hJt _ f2 fun h=>hm h.1
 rw [decide_eq_true hm,Bool.not_true,cond_false]
 have r2:=r1.ext f2
 simp only [sx,r2.cell]
 refine fK fun b w3 r3 e3 z3 f3=> ?_
 refine NP (aac (fs:=[(r,1,()),(ep,4,())]) (Hu r3 rfl rfl) (by simp)) ?_
 rintro _ w4 ⟨rfl,f4⟩
 by_cases hf:fitsP r 1/\fitsP ep 4
 ·have:(∀f∈[((r,1,()):T2),(ep,4,())],fitsP f.1 f.2.1):=by simpa using hf
  rw [decide_eq_true this]
  exact hJf _ (f2.trans (f3.trans f4)) ⟨hm,hf⟩
 ·have:¬(∀f∈[((r,1,()):T2),(ep,4,())],fitsP f.1 f.2.1):=fun h=>hf (by simpa using h)
  rw [decide_eq_false this]
  exact hJt _ (f2.trans (f3.trans f4)) fun h=>hf h.2
end Go.Proofs.PM
end
section
namespace Go.Proofs.PM
open Gp Gp.V4 Go.Proofs Go.Proofs.CN
open Gp.Bind (In64)
set_option maxRecDepth 100000
set_option maxHeartbeats 1000000
theorem Ud {α:Type} {l:List α} {i:Nat} (h:i<l.length):l.take (i+1)=l.take i++[l[i]]:=by rw [List.take_succ_eq_append_getElem h]
theorem acZ {w:World} {s t:b_} {l m:List UInt8} (hs:rO w s l) (ht:rO w t m) (hl:l.length<=2^40):jr s t w fun r w'=>r=decide (l=m)/\Ext w w':=by
 apply zY
 have h1:=hs.1
 have h2:=ht.1
 by_cases hn:l.length=m.length
 rotate_left
 ·have:((s.len:Int) !=(t.len:Int))=true:=by rw [bne_iff_ne];omega
  rw [this,cond_true]
  exact⟨(decide_eq_false fun h=>hn (by rw [h])).symm,Ext.refl _⟩
 have:((s.len:Int) !=(t.len:Int))=false:=by rw [bne_eq_false_iff_eq];omega
 rw [this,cond_false]
 refine fE (fun st W=>∃j:Nat,j<=l.length/\st.1=(j:Int)/\Ext w W/\l.take j=m.take j) (fun st _=>l.length - st.1.toNat) ⟨0,by omega,rfl,Ext.refl _,by simp⟩ ?_
 rintro⟨i,⟨⟩⟩ W ⟨j,hj,hi,hx,he⟩ next hnext
 simp only at hi
 subst hi
 by_cases hlt:(j:Int)<(s.len:Int)
 ·simp only [hlt,decide_true,cond_true]
  have xd:=hx.trans (Ext.drew W)
  refine byte_at (hs.ext xd) (i:=j) (by omega) fun a ca _=> ?_
  simp only [sx,ca]
  refine byte_at (ht.ext xd) (i:=j) (by omega) fun b cb _=> ?_
  simp only [sx,cb]
  by_cases hb:l[j]=m[j]
  ·have:(((l[j].toNat:Nat):Int) !=((m[j].toNat:Nat):Int))=false:=by rw [bne_eq_false_iff_eq,hb]
   rw [this,cond_false,wrap_i64 (by omega) (by omega)]
   exact hnext _ _ ⟨j+1,by omega,by simp,xd,by rw [Ud (by omega),Ud (by omega),he,hb]⟩ (by simp only;omega)
  ·have:(((l[j].toNat:Nat):Int) !=((m[j].toNat:Nat):Int))=true:=by
    rw [bne_iff_ne]
    intro h
    exact hb (UInt8.toNat_inj.1 (by omega))
   rw [this,cond_true]
   exact⟨(decide_eq_false fun h=>hb (by subst h;rfl)).symm,xd⟩
 ·simp only [hlt,decide_false,cond_false]
  rw [List.take_of_length_le (by omega),List.take_of_length_le (by omega)] at he
  exact⟨(decide_eq_true he).symm,hx⟩
def pre:List UInt8:=[0,0,0,0,0,0,0,0,0,0,255,255]
theorem VA {b o:Nat} {K:b_->Prop} (h:K ⟨some ⟨b,o,none⟩,12,16⟩):sQ ⟨b,o,none⟩ 16 1 0 12 K:=by
 refine⟨by omega,by omega,by omega,?_⟩
 rw [if_neg (by decide)]
 exact h
theorem aan {w:World} {m:List UInt8} {a0 a1 a2 a3 a4 a5 a6 a7 a8 a9 a10 a11 a12 a13 a14 a15:Int} (hm:m.length=16) (ha:[a0,a1,a2,a3,a4,a5,a6,a7,a8,a9,a10,a11,a12,a13,a14,a15]=bi m) {K:Int->Bool->World->Prop}
  (h:∀n w',Ext w w'->(m.take 12=pre->n=(num m 12 4:Int))->K n (decide (m.take 12=pre)) w'):DR a0 a1 a2 a3 a4 a5 a6 a7 a8 a9 a10 a11 a12 a13 a14 a15 w K:=by
 apply SL
 refine fK fun b w1 r1 e1 z1 f1=> ?_
 refine Qx fun w2 f2=> ?_
 refine fK fun c w3 r3 e3 z3 f3=> ?_
 refine fP r3 rfl rfl fun w4 r4 f4 z4=> ?_
 have x4:Ext w1 w4:=(f2.trans f3).new (f4 (·=c) rfl) fun y hy e=>by have:=f2.size;omega
 refine VA (VA ?_)
 have xd:=x4.trans (Ext.drew w4)
 have hL:bytesV m=iM a0 a1 a2 a3 a4 a5 a6 a7 a8 a9 a10 a11 a12 a13 a14 a15:=by rw [yX,<- ha];rfl
 have hA:∀W,Ext w1 W->rO W ⟨some ⟨b,0,none⟩,16,16⟩ m:=fun W hx=>JD (o:=0) (r1.ext hx) (A:=[]) (C:=[]) (by rw [hL];rfl) rfl hm.symm
 have hs:rO w4.drew ⟨some ⟨b,0,none⟩,12,16⟩ (m.take 12):=by
  have:=hA _ xd
  refine⟨by simp [hm],?_,by simp⟩
  have:=JF this (n:=12) (by omega)
  simpa using this
 have ht:rO w4.drew ⟨some ⟨c,0,none⟩,12,16⟩ pre:=by
  have:rO w4.drew ⟨some ⟨c,0,none⟩,16,16⟩ (pre++[0,0,0,0]):=JD (o:=0) r4.drew (A:=[]) (C:=[]) rfl rfl rfl
  refine⟨rfl,?_,by simp⟩
  have:=JF this (n:=12) (by decide)
  simpa [pre] using this
 refine Aa (acZ hs ht (by simp;omega)) ?_
 rintro _ w5 ⟨rfl,f5⟩
 have x5:=xd.trans f5
 by_cases hp:m.take 12=pre
 rotate_left
 ·rw [decide_eq_false hp,Bool.not_false,cond_true]
  have:=h 0 w5 (f1.trans x5) fun he=>absurd he hp
  rw [decide_eq_false hp] at this
  exact this
 rw [decide_eq_true hp,Bool.not_true,cond_false]
 refine Ea ?_
 refine KL (WT (hA _ x5) (by omega) 12 4) ?_
 rintro n e w6 ⟨rfl,hg⟩
 have hn:=Q8 (at_:=12) (k:=4) (by omega) (by omega) hg
 have he:e=0:=by
  unfold Ql at hg
  rw [if_neg (by unfold sizeOk;omega),if_neg (by omega)] at hg
  exact hg.1
 subst he
 have:=h n _ (f1.trans x5) fun _=>hn
 rw [decide_eq_true hp] at this
 exact this
theorem aeb {l:List UInt8} (h:l.length=12):∃x0 x1 x2 x3 x4 x5 x6 x7 x8 x9 x10 x11:Int,bi l=[x0,x1,x2,x3,x4,x5,x6,x7,x8,x9,x10,x11]:=by
 obtain⟨x0,x1,x2,x3,x4,x5,x6,x7,x8,x9,x10,x11,x12,x13,x14,x15,hb,hv⟩:=acP (l:=l++[0,0,0,0]) (by simp [h])
 refine⟨x0,x1,x2,x3,x4,x5,x6,x7,x8,x9,x10,x11,?_⟩
 have h1:bi l++[0,0,0,0]=[x0,x1,x2,x3,x4,x5,x6,x7,x8,x9,x10,x11]++[x12,x13,x14,x15]:=by
  have:bi (l++[0,0,0,0])=bi l++[0,0,0,0]:=by unfold bi;rw [List.map_append];rfl
  rw [<- this,hb];rfl
 exact(List.append_inj h1 (by simp [bi,h])).1
def jL (l:List UInt8) (k:Int):Int:=
 if l.length<60 then 3 else if 60<l.length then 6 else if ¬((num l 0 1:Int)=2/\(num l 1 1:Int)=k/\(l.drop 44).take 12=pre) then 4 else 0
def yO (l:List UInt8):PA:=⟨(num l 4 4:Int),(num l 36 1:Int),(num l 40 2:Int),(num l 42 2:Int),(num l 56 4:Int)⟩
def ad2 (l:List UInt8) (d0:Int) (c n:List Int) (d29 d30 d31 d32:Int):Prop:=d0=(num l 4 4:Int)/\c=bi ((l.drop 8).take 16)/\n=bi ((l.drop 24).take 12)/\d29=(num l 36 1:Int)/\d30=(num l 40 2:Int)/\d31=(num l 42 2:Int)/\d32=(num l 56 4:Int)
theorem JK {W:World} {a:Nat} {s:b_} {l:List UInt8} (hr:Row W a [.slice s.a s.len s.cap]) (hs:rO W s l) (hl:l.length<=2^40) {at_ k:Nat} (hk:1<=k/\k<=4) (h:at_+k<=l.length) {K:Value->World->Prop} (hK:K (.int .i64 (num l at_ k:Int)) W):
  jI Tryz.prog [.one (.int .i64)] (Value.func (.func SC) #[] #[(Value.pointer (some ⟨a,0,none⟩))]) [(Value.int .i64 (at_:Int)),(Value.int .i64 (k:Int))] W K:=by
 refine lV (by kernel_rfl) ?_
 refine Calls.mono (P6 (a0:=(at_:Int)) (a1:=(k:Int)) (f0:=⟨a,0,none⟩) (w:=W) (K:=fun r W'=>r=(num l at_ k:Int)/\W'=W) ?_) ?_
 ·simp only [sx,hr.cell]
  refine KL (WT hs (by omega) _ _) ?_
  rintro n e w' ⟨rfl,hg⟩
  exact⟨Q8 hk h hg,rfl⟩
 ·rintro e W' ⟨r,he,rfl,rfl⟩
  exact⟨_,he,hK⟩
theorem X4 {w:World} {s:b_} {l:List UInt8} {k:Int} (hs:rO w s l) (hl:l.length<=2^40) {K:Int->Int->Int->Int->Int->Int->Int->Int->Int->Int->Int->Int->Int->Int->Int->Int->Int->Int->Int->Int->Int->Int->Int->Int->Int->Int->Int->Int->Int->Int->Int->Int->Int->Int->World->Prop}
  (h:∀d0 d1 d2 d3 d4 d5 d6 d7 d8 d9 d10 d11 d12 d13 d14 d15 d16 d17 d18 d19 d20 d21 d22 d23 d24 d25 d26 d27 d28 d29 d30 d31 d32 w',Ext w w'->(jL l k=0->ad2 l d0 [d1,d2,d3,d4,d5,d6,d7,d8,d9,d10,d11,d12,d13,d14,d15,d16] [d17,d18,d19,d20,d21,d22,d23,d24,d25,d26,d27,d28] d29 d30 d31 d32)->K d0 d1 d2 d3 d4 d5 d6 d7 d8 d9 d10 d11 d12 d13 d14 d15 d16 d17 d18 d19 d20 d21 d22 d23 d24 d25 d26 d27 d28 d29 d30 d31 d32 (jL l k) w'):Di s k w K:=by
 apply Vu
 have hlen:=hs.1
 refine⟨rfl,?_⟩
 refine fK fun a w1 r1 e1 z1 f1=> ?_
 refine fK fun b w2 r2 e2 z2 f2=> ?_
 have r1':=r1.ext f2
 have x2:=f1.trans f2
 have fail:∀W,Ext w2 W->∀(e:Int),e=jL l k->e≠0->lS (iK 0 0 0 0 0 0 0 0 0 0 0 0 0 0 0 0 0 0 0 0 0 0 0 0 0 0 0 0 0 0 0 0 0) W ⟨b,0,none⟩ 0 fun w8=>jF w8 ⟨b,0,none⟩ fun y0 y1 y2 y3 y4 y5 y6 y7 y8 y9 y10 y11 y12 y13 y14 y15 y16 y17 y18 y19 y20 y21 y22 y23 y24 y25 y26 y27 y28 y29 y30 y31 y32=>K y0 y1 y2 y3 y4 y5 y6 y7 y8 y9 y10 y11 y12 y13 y14 y15 y16 y17 y18 y19 y20 y21 y22 y23 y24 y25 y26 y27 y28 y29 y30 y31 y32 e w8:=by
  intro W hx e he hne
  refine fP (r2.ext hx) rfl rfl fun w3 r3 f3 z3=> ?_
  simp only [sx,r3.cell]
  subst he
  exact h 0 0 0 0 0 0 0 0 0 0 0 0 0 0 0 0 0 0 0 0 0 0 0 0 0 0 0 0 0 0 0 0 0 w3 ((x2.trans hx).new (f3 (·=b) rfl) fun y hy e=>by have:=f1.size;omega) fun h0=>absurd h0 hne
 refine fM (k:= .slice) (x:=s) r1' rfl ?_
 by_cases h60:l.length<60
 ·have e:jL l k=3:=by unfold jL;rw [if_pos h60]
  have:((s.len:Int)<60):=by omega
  rw [decide_eq_true this,cond_true]
  exact fail w2 (Ext.refl _) 3 e.symm (by decide)
 have:¬((s.len:Int)<60):=by omega
 rw [decide_eq_false this,cond_false]
 refine fM (k:= .slice) (x:=s) r1' rfl ?_
 by_cases h61:60<l.length
 ·have e:jL l k=6:=by unfold jL;rw [if_neg h60,if_pos h61]
  have:((s.len:Int)>60):=by omega
  rw [decide_eq_true this,cond_true]
  exact fail w2 (Ext.refl _) 6 e.symm (by decide)
 have:¬((s.len:Int)>60):=by omega
 rw [decide_eq_false this,cond_false]
 have hl60:l.length=60:=by omega
 intro J
 have hJt:¬((num l 0 1:Int)=2/\(num l 1 1:Int)=k)->J true:=by
  intro hn
  simp only [J,cond_true]
  exact fail w2 (Ext.refl _) 4 (by unfold jL;rw [if_neg h60,if_neg h61,if_pos fun hc=>hn ⟨hc.1,hc.2.1⟩]) (by decide)
 have hJf:(num l 0 1:Int)=2->(num l 1 1:Int)=k->J false:=by
  intro hv hk
  simp only [J,cond_false]
  refine fK fun c w3 r3 e3 z3 f3=> ?_
  refine Ea ?_
  have x3:=f3.trans (Ext.drew w3)
  have r1'':=r1'.ext x3
  refine fM (k:= .slice) (x:=s) r1'' rfl ?_
  refine EZ ((hs.ext x2).ext x3) (by omega) (by omega) (by omega) fun s4 hs4 _=> ?_
  rw [Int.toNat_natCast,hlen,List.take_of_length_le (Nat.le_refl _)] at hs4
  have hs4:rO w3.drew s4 (l.drop 44):=hs4
  have ls4:=hs4.1
  rw [List.length_drop] at ls4
  have k16:((l.drop 44).take 16).length=16:=by rw [List.length_take,List.length_drop];omega
  refine CY (m:=16) (vs:=bytesV ((l.drop 44).take 16)) (by show min (_:Nat) _=_;omega) (JF hs4 (by rw [List.length_drop];omega)) r3.drew (by rw [iG,k16];simp) (zG _) fun w4 r4 f4=> ?_
  have x4:Ext w2 w4:=x3.new f4 fun y hy e=>by omega
  refine Fj (A:=[]) (C:=[]) (m:=(l.drop 44).take 16) r4 ?_ rfl k16 fun p0 p1 p2 p3 p4 p5 p6 p7 p8 p9 p10 p11 p12 p13 p14 p15 hp=> ?_
  ·unfold spl;rw [iG,k16];simp
  refine aan k16 hp fun n w5 f5 hn=> ?_
  have x5:=x4.trans f5
  have ht:((l.drop 44).take 16).take 12=(l.drop 44).take 12:=by rw [List.take_take];rfl
  have hnum:num ((l.drop 44).take 16) 12 4=num l 56 4:=by
   unfold num
   rw [List.drop_take,List.drop_drop,List.take_take];rfl
  rw [ht,hnum] at hn
  rw [ht]
  by_cases hpre:(l.drop 44).take 12=pre
  rotate_left
  ·rw [decide_eq_false hpre,Bool.not_false,cond_true]
   exact fail w5 x5 4 (by unfold jL;rw [if_neg h60,if_neg h61,if_pos fun hc=>hpre hc.2.2]) (by decide)
  rw [decide_eq_true hpre,Bool.not_true,cond_false]
  obtain rfl:=hn hpre
  have hs5:=(hs.ext x2).ext x5
  have r5:=r1'.ext x5
  refine JK (at_:=4) (k:=4) r5 hs5 hl (by omega) (by omega) ⟨_,rfl,?_⟩
  refine JK (at_:=36) (k:=1) r5 hs5 hl (by omega) (by omega) ⟨_,rfl,?_⟩
  refine JK (at_:=40) (k:=2) r5 hs5 hl (by omega) (by omega) ⟨_,rfl,?_⟩
  refine JK (at_:=42) (k:=2) r5 hs5 hl (by omega) (by omega) ⟨_,rfl,?_⟩
  refine fK fun d w6 r6 e6 z6 f6=> ?_
  refine fP r6 rfl rfl fun w7 r7 f7 z7=> ?_
  have f7:=f7 (·=d) rfl
  have x7:Ext w2 w7.drew:=((x5.trans f6).new f7 fun y hy e=>by have:=x5.size;omega).trans (Ext.drew w7)
  rw [kC]
  refine Ea ?_
  refine fM (k:= .slice) (x:=s) (r1'.ext x7) rfl ?_
  refine EZ ((hs.ext x2).ext x7) (by omega) (by omega) (by omega) fun s8 hs8 _=> ?_
  rw [Int.toNat_natCast,hlen,List.take_of_length_le (Nat.le_refl _)] at hs8
  have hs8:rO w7.drew s8 (l.drop 8):=hs8
  have ls8:=hs8.1
  rw [List.length_drop] at ls8
  have c16:((l.drop 8).take 16).length=16:=by rw [List.length_take,List.length_drop];omega
  refine CY (m:=16) (vs:=bytesV ((l.drop 8).take 16)) (by show min (_:Nat) _=_;omega) (JF hs8 (by rw [List.length_drop];omega)) r7.drew (by rw [iG,c16];simp) (zG _) fun w8 r8 f8=> ?_
  have x8:Ext w2 w8.drew:=(x7.new f8 fun y hy e=>by have:=x5.size;omega).trans (Ext.drew w8)
  rw [kC]
  refine Oz (n:=12) (by decide) ?_
  refine fM (k:= .slice) (x:=s) (r1'.ext x8) rfl ?_
  refine EZ ((hs.ext x2).ext x8) (by omega) (by omega) (by omega) fun s9 hs9 _=> ?_
  rw [Int.toNat_natCast,hlen,List.take_of_length_le (Nat.le_refl _)] at hs9
  have hs9:rO w8.drew s9 (l.drop 24):=hs9
  have ls9:=hs9.1
  rw [List.length_drop] at ls9
  have n12:((l.drop 24).take 12).length=12:=by rw [List.length_take,List.length_drop];omega
  refine CY (m:=12) (vs:=bytesV ((l.drop 24).take 12)) (by show min (_:Nat) _=_;omega) (JF hs9 (by rw [List.length_drop];omega)) r8.drew (by unfold spl;simp [iG,n12,c16]) (zG _) fun w9 r9 f9=> ?_
  have x9:Ext w2 w9:=x8.new f9 fun y hy e=>by have:=x5.size;omega
  obtain⟨c0,c1,c2,c3,c4,c5,c6,c7,c8,c9,c10,c11,c12,c13,c14,c15,hc,hcv⟩:=acP c16
  obtain⟨q0,q1,q2,q3,q4,q5,q6,q7,q8,q9,q10,q11,hq⟩:=aeb n12
  have hqv:bytesV ((l.drop 24).take 12)=(([q0,q1,q2,q3,q4,q5,q6,q7,q8,q9,q10,q11]:List Int).map fun n=>Value.int .u8 n):=by rw [yX,hq]
  rw [hcv,hqv] at r9
  have r9:Row w9 d (iK (num l 4 4:Int) c0 c1 c2 c3 c4 c5 c6 c7 c8 c9 c10 c11 c12 c13 c14 c15 q0 q1 q2 q3 q4 q5 q6 q7 q8 q9 q10 q11 (num l 36 1:Int) (num l 40 2:Int) (num l 42 2:Int) (num l 56 4:Int)):=r9
  simp only [sx,r9.cell]
  refine fP (r2.ext x9) rfl rfl fun w10 r10 f10 z10=> ?_
  simp only [sx,r10.cell]
  have e:jL l k=0:=by unfold jL;rw [if_neg h60,if_neg h61,if_neg fun hn=>hn ⟨hv,hk,hpre⟩]
  rw [<- e]
  exact h _ c0 c1 c2 c3 c4 c5 c6 c7 c8 c9 c10 c11 c12 c13 c14 c15 q0 q1 q2 q3 q4 q5 q6 q7 q8 q9 q10 q11 _ _ _ _ w10 ((x2.trans x9).new (f10 (·=b) rfl) fun y hy e=>by have:=f1.size;omega) fun _=>⟨rfl,hc.symm,hq.symm,rfl,rfl,rfl,rfl⟩
 clear_value J
 refine fM (k:= .slice) (x:=s) r1' rfl ?_
 refine byte_at (hs.ext x2) (i:=0) (by omega) fun a0 c0 _=> ?_
 simp only [sx,c0]
 have n0:=Q5 (l:=l) (i:=0) (by omega)
 have n1:=Q5 (l:=l) (i:=1) (by omega)
 rw [<- n0]
 by_cases h2:(num l 0 1:Int)=2
 rotate_left
 ·have:((num l 0 1:Int) !=2)=true:=by rw [bne_iff_ne];exact h2
  rw [this,cond_true]
  exact hJt fun hc=>h2 hc.1
 have:((num l 0 1:Int) !=2)=false:=by rw [bne_eq_false_iff_eq];exact h2
 rw [this,cond_false]
 simp only [r1'.cell,List.getElem?_cons_zero,fA,fG]
 refine byte_at (hs.ext x2) (i:=1) (by omega) fun a1 c1 _=> ?_
 simp only [sx,c1]
 rw [<- n1]
 by_cases hk:(num l 1 1:Int)=k
 ·have:((num l 1 1:Int) !=k)=false:=by rw [bne_eq_false_iff_eq];exact hk
  rw [this]
  exact hJf h2 hk
 ·have:((num l 1 1:Int) !=k)=true:=by rw [bne_iff_ne];exact hk
  rw [this]
  exact hJt fun hc=>hk hc.2
theorem ZE {w:World} {s:b_} {l:List UInt8} (hs:rO w s l) (hl:l.length<=2^40) {K:Int->Int->Int->Int->Int->Int->Int->Int->Int->Int->Int->Int->Int->Int->Int->Int->Int->Int->Int->Int->Int->Int->Int->Int->Int->Int->Int->Int->Int->Int->Int->Int->Int->Int->World->Prop}
  (h:∀d0 d1 d2 d3 d4 d5 d6 d7 d8 d9 d10 d11 d12 d13 d14 d15 d16 d17 d18 d19 d20 d21 d22 d23 d24 d25 d26 d27 d28 d29 d30 d31 d32 w',Ext w w'->(jL l 1=0->ad2 l d0 [d1,d2,d3,d4,d5,d6,d7,d8,d9,d10,d11,d12,d13,d14,d15,d16] [d17,d18,d19,d20,d21,d22,d23,d24,d25,d26,d27,d28] d29 d30 d31 d32)->K d0 d1 d2 d3 d4 d5 d6 d7 d8 d9 d10 d11 d12 d13 d14 d15 d16 d17 d18 d19 d20 d21 d22 d23 d24 d25 d26 d27 d28 d29 d30 d31 d32 (jL l 1) w'):D_ s w K:=by
 apply Sz
 refine fK fun a w1 r1 e1 z1 f1=> ?_
 refine X4 (hs.ext f1) hl fun d0 d1 d2 d3 d4 d5 d6 d7 d8 d9 d10 d11 d12 d13 d14 d15 d16 d17 d18 d19 d20 d21 d22 d23 d24 d25 d26 d27 d28 d29 d30 d31 d32 w2 f2 hp=> ?_
 refine fP (r1.ext f2) rfl rfl fun w3 r3 f3 z3=> ?_
 simp only [sx,r3.cell]
 exact h d0 d1 d2 d3 d4 d5 d6 d7 d8 d9 d10 d11 d12 d13 d14 d15 d16 d17 d18 d19 d20 d21 d22 d23 d24 d25 d26 d27 d28 d29 d30 d31 d32 w3 ((f1.trans f2).new (f3 (·=a) rfl) fun y hy e=>by omega) hp
theorem ab1 (l:List UInt8) (i:Nat):num l i 4<4294967296:=by have:=adb (l:=l) (at_:=i) (k:=4) (by omega);omega
end Go.Proofs.PM
end
section
namespace Go.Proofs.PS
open Gp Go.Proofs Go.Proofs.EN
open Gp.Bind (Bnd Slots live GoodB freeN getS In64)
open Gp.Wh (Tm)
set_option maxRecDepth 100000
set_option maxHeartbeats 1000000
variable {w w':World} {A:SA} {c:Cf} {Z:Bnd->Prop} {v:SV}
theorem len_eq {α β γ:Type} {l:List α} {m:List β} {f:α->γ} {g:β->γ} (h1:(l.map f).Nodup) (h2:(m.map g).Nodup) (h:∀k,k∈l.map f↔k∈m.map g):l.length=m.length:=by
 have:=((List.perm_ext_iff_of_nodup h1 h2).2 h).length_eq
 rwa [List.length_map,List.length_map] at this
theorem yJ {α β γ:Type} {l:List α} {f:α->β} {g:α->γ} (h:(l.map f).Nodup) (hi:∀x∈l,∀y∈l,g x=g y->x=y):(l.map g).Nodup:=by
 induction l with
 |nil=>simp
 |cons x l ih=>
  rw [List.map_cons,List.nodup_cons] at h ⊢
  refine⟨fun hm=> ?_,ih h.2 fun a ha b hb=>hi a (List.mem_cons_of_mem _ ha) b (List.mem_cons_of_mem _ hb)⟩
  obtain⟨y,hy,he⟩:=List.mem_map.1 hm
  have:=hi y (List.mem_cons_of_mem _ hy) x List.mem_cons_self he
  subst this
  exact h.1 (List.mem_map.2 ⟨y,hy,rfl⟩)
theorem ZX {α β:Type} [DecidableEq α] {l:List (α×β)} (k:α):k∈l.map (·.1)↔(jl l k).isSome=true:=by
 constructor
 ·intro h
  cases hc:jl l k with
  |some v=>rfl
  |none=>exact absurd h (rM.1 hc)
 ·intro h
  refine Classical.byContradiction fun hn=> ?_
  rw [rM.2 hn] at h
  cases h
theorem Good.adD {P:List Int} (g:Good c Z v P) (h:Srv w A c v):v.LI.length=v.L.length:=by
 refine len_eq (f:=(·.1)) (g:=gW.k) h.nI (yJ h.bn g.kk) fun k=> ?_
 rw [ZX,List.mem_map]
 constructor
 ·intro hs
  obtain⟨n,hn⟩:=Option.isSome_iff_exists.1 hs
  obtain⟨x,hx,h1,_⟩:=(g.li k n).1 hn
  exact⟨x,hx,h1⟩
 ·rintro⟨x,hx,h1⟩
  rw [(g.li k x.blk).2 ⟨x,hx,h1,rfl⟩];rfl
theorem Good.aed (g:Good c Z v []) (h:Srv w A c v):v.l.length=v.L.length:=by
 refine len_eq (f:=(·.1)) (g:=gW.id) h.wh.wm.nd (yJ h.bn g.ii) fun k=> ?_
 rw [ZX,List.mem_map,g.wl]
 constructor
 ·rintro⟨x,hx,h1,_⟩;exact⟨x,hx,h1⟩
 ·rintro⟨x,hx,h1⟩;exact⟨x,hx,h1,by simp⟩
structure Out (c:Cf) (Z:Bnd->Prop) (w:World) (A:SA) (v:SV) (w':World) (A':SA) (v':SV):Prop where
 srv:Srv w' A' c v'
 good:Good c Z v' []
 fr:fD w w' (jy A v.L)
 s:A'.s=A.s
 x:A'.a.x=A.a.x
 sub:∀b,jy A' v'.L b->jy A v.L b\/w.heap.size<=b
 now:v'.now=v.now
 most:v'.most=v.most
 tn:v'.tn<=v.tn+1
 nx:0<=v'.nx/\v'.nx<8192
 en:v'.e.now=v.e.now
theorem Out.same (h:Srv w A c v) (g:Good c Z v []) (hn:0<=v.nx/\v.nx<8192) (hx:Ext w w'):Out c Z w A v w' A v:=
 ⟨h.ext hx,g,hx _,rfl,rfl,fun _ hb=> .inl hb,rfl,rfl,by omega,hn,rfl⟩
theorem MZ {A A':SA} {L L':List gW} {n:Nat} (h0:A'.s=A.s) (h1:A'.a=A.a) (h3:A'.ml=A.ml) (h4:A'.mi=A.mi) (h5:∀b,b∈L'.map (·.blk)->b∈L.map (·.blk)\/n<=b)
  (h2:∀b,WN.mF A'.d A'.m A'.ss b->WN.mF A.d A.m A.ss b\/n<=b):∀b,jy A' L' b->jy A L b\/n<=b:=by
 rintro b ⟨k,hk⟩
 match k,hk with
 |0,ho=>exact .inl ⟨0,(show b=A'.s from ho).trans h0⟩
 |1,ho=>exact .inl ⟨1,(show Gf A.a b from by rw [<- h1];exact ho)⟩
 |2,ho=>exact(h2 b ho).imp_left fun h=>⟨2,h⟩
 |3,ho=>exact .inl ⟨3,(show b=A'.ml from ho).trans h3⟩
 |4,ho=>exact .inl ⟨4,(show b=A'.mi from ho).trans h4⟩
 |5,⟨x,hx,e⟩=>
  refine(h5 b (List.mem_map.2 ⟨x,hx,e⟩)).imp_left fun h=> ?_
  obtain⟨y,hy,e⟩:=List.mem_map.1 h
  exact⟨5,y,hy,e⟩
 |(n+6),ho=>exact ho.elim
theorem aaK (h:Srv w A c v) (g:Good c Z v []) (hnx:0<=v.nx/\v.nx<8192) (ht:v.tn<2^62) {x:gW} (hx:x∈v.L) {o0 o1 o2 d0 d1 d2 d3 d4 d5 d6 d7 d8 d9 d10 d11 d12 d13 d14 d15 d16 d17 d18 d19 d20 d21 d22 d23 d24 d25 d26 d27 d28 d29 d30 d31 d32:Int} (hl:0<d0/\d0<4294967296) {K:Int->Int->Int->Int->Int->Int->Int->Int->Int->Int->Int->Int->Int->Int->Int->Int->Int->Int->Int->Int->Int->Int->Int->Int->Int->Int->Int->Int->Int->Int->Int->Int->Int->Int->World->Prop}
  (h1:(o1≠0\/o2≠0)->¬(o0=x.b.opr/\o1=x.b.oad/\o2=x.b.opo)->∀w',Ext w w'->K 11 d0 d1 d2 d3 d4 d5 d6 d7 d8 d9 d10 d11 d12 d13 d14 d15 d16 d17 d18 d19 d20 d21 d22 d23 d24 d25 d26 d27 d28 d29 d30 d31 d32 w')
  (h2:¬((o1≠0\/o2≠0)/\¬(o0=x.b.opr/\o1=x.b.oad/\o2=x.b.opo))->∀w' A' v',Out c Z w A v w' A' v'->v'.L=Cj x.blk (v.now+min d0 86400) v.L->v'.e=v.e->K 0 (min d0 86400) d1 d2 d3 d4 d5 d6 d7 d8 d9 d10 d11 d12 d13 d14 d15 d16 d17 d18 d19 d20 d21 d22 d23 d24 d25 d26 d27 d28 d29 d30 x.b.opo x.b.oad w'):
  sG (some ⟨A.s,0,none⟩) (some ⟨x.blk,0,none⟩) o0 o1 o2 d0 d1 d2 d3 d4 d5 d6 d7 d8 d9 d10 d11 d12 d13 d14 d15 d16 d17 d18 d19 d20 d21 d22 d23 d24 d25 d26 d27 d28 d29 d30 d31 d32 w K:=by
 apply EO
 refine fK fun a w1 r1 e1 z1 f1=> ?_
 refine fK fun b w2 r2 e2 z2 f2=> ?_
 refine fK fun t w3 r3 e3 z3 f3=> ?_
 have x3:=(f1.trans f2).trans f3
 have r1:=(r1.ext f2).ext f3
 have r2:=r2.ext f3
 have hS:=h.ext x3
 have rx:=hS.rw x hx
 have hle:∀k y,own A v.L k y->y<w.heap.size:=h.lt
 have hxb:x.blk<w.heap.size:=h.lt 5 _ ⟨x,hx,rfl⟩
 have q1:=f1.size
 have q2:=f2.size
 have q3:=f3.size
 intro J
 have hJ:∀q:Bool,(q=true↔(o1≠0\/o2≠0))->J q:=by
  intro q hq
  simp -zeta only [J]
  intro J2
  have hJt:∀W,Ext w3 W->(o1≠0\/o2≠0)->¬(o0=x.b.opr/\o1=x.b.oad/\o2=x.b.opo)->J2 true W:=by
   intro W hW c1 c2
   simp only [J2,cond_true]
   have r2W:=(r2.ext hW).drew
   simp only [sx,r2W.cell]
   refine fP ((r3.ext hW).drew) rfl rfl fun w4 r4 f4 z4=> ?_
   simp only [sx,r4.cell]
   exact h1 c1 c2 w4 (((x3.trans hW).trans (Ext.drew W)).new (f4 (·=t) rfl) fun y hy e=>by omega)
  have hJf:∀W,Ext w3 W->¬((o1≠0\/o2≠0)/\¬(o0=x.b.opr/\o1=x.b.oad/\o2=x.b.opo))->J2 false W:=by
   intro W hW hc
   simp only [J2,cond_false]
   have r2W:=r2.ext hW
   simp only [sx,r2W.cell]
   refine gu r2W rfl (by simp) fun w4 r4 f4' z4=> ?_
   have f4:fD W w4 (·=b):=f4' _ rfl
   simp only [List.set_cons_zero] at r4
   have x4:Ext w w4:=(x3.trans hW).new f4 fun y hy e=>by omega
   simp only [sx,r4.cell]
   have hmin:(if (86400:Int)<d0 then 86400 else d0)=min d0 86400:=by omega
   rw [hmin] at r4 ⊢
   have g1:(jl v.l x.id)≠none:=by
    have:=(g.wl x.id).2 ⟨x,hx,rfl,by simp⟩
    intro hn;rw [hn] at this;cases this
   have hir:=g.ir x hx
   refine yx (X0 (h.ext x4) hx (life:=min d0 86400) (by omega) (by omega) (by omega) (.inl g1) ht g.wn) ?_
   rintro w5 ⟨f5,ss,F,hfp,hS5⟩
   have rx5:=hS5.rw ({x with un:=v.now+min d0 86400}:gW) (qX.2 ⟨x,hx,by rw [if_pos rfl]⟩)
   have rx5:=rx5.drew
   simp only [gW.v] at rx5
   simp only [sx,rx5.cell]
   have hnb:∀y,w.heap.size<=y->¬jy A v.L y:=fun y hy ⟨k,hk⟩=>by have:=h.lt k y hk;omega
   have r5:=(r4.fr f5 (hnb _ (by omega))).drew
   refine gu r5 rfl (by simp) fun w6 r6 f6' z6=> ?_
   have f6:fD w5.drew w6 (·=b):=f6' _ rfl
   have rx6:=rx5.fr f6 (by omega)
   simp only [List.set_cons_zero,List.set_cons_succ] at r6
   simp only [sx,rx6.cell,true_and]
   refine gu r6 rfl (by simp) fun w7 r7 f7' z7=> ?_
   have f7:fD w6 w7 (·=b):=f7' _ rfl
   simp only [List.set_cons_zero,List.set_cons_succ] at r7
   have r7:=r7.drew
   simp only [sx,r7.cell]
   have f67:fD w5 w7.drew (·=b):=(((Ext.drew w5).fr f6).trans f7 fun _ _ e=>e).ext (Ext.drew w7)
   have rt:Row w7.drew t _:=(((r3.ext hW).fr f4 (by omega)).fr f5 (hnb _ (by omega))).fr f67 (by omega)
   refine fP rt rfl rfl fun w8 r8 f8 z8=> ?_
   have f8:=f8 (·=t) rfl
   simp only [sx,r8.cell]
   have f58:fD w5 w8 (fun y=>w.heap.size<=y):=(f67.mono fun y hy=>by omega).trans (f8.mono (S':=fun y=>w.heap.size<=y) fun y hy=>by omega) fun y _ hy=>hy
   have own':∀y,jy {A with ss:=ss} (Cj x.blk (v.now+min d0 86400) v.L) y->jy A v.L y\/w4.heap.size<=y:=MZ rfl rfl rfl rfl (fun y hy=> .inl (by rw [Pj] at hy;exact hy)) hfp
   have zb:b<w4.heap.size/\t<w4.heap.size:=by have:=hW.size;omega
   refine h2 hc w8 _ _ ⟨(hS5.fr f67 fun k y hy e=> ?_).fr f8 fun k y hy e=> ?_,g.arm h hx (by simp) (by omega) (by have:=h.wh.wi.nw;have:=g.wn;omega) (v.tn+1) F,?_,rfl,rfl,?_,rfl,rfl,by simp,hnx,rfl⟩ rfl rfl
   ·rcases own' y ⟨k,hy⟩ with h|h
    ·exact hnb b (by omega) (e ▸ h)
    ·omega
   ·rcases own' y ⟨k,hy⟩ with h|h
    ·exact hnb t (by omega) (e ▸ h)
    ·omega
   ·have g5:fD w w5 (jy A v.L):=x4.fr f5
    refine⟨Nat.le_trans g5.size f58.size,fun y hy hn=> ?_,?_⟩
    ·rw [f58.same y (Nat.lt_of_lt_of_le hy g5.size) (by omega),g5.same y hy hn]
    ·exact⟨f58.io.1.trans g5.io.1,f58.io.2.1.trans g5.io.2.1,f58.io.2.2.trans g5.io.2.2⟩
   ·intro y hy
    rcases own' y hy with h|h
    ·exact .inl h
    ·exact .inr (by have:=x4.size;omega)
  clear_value J2
  simp only [gW.v] at rx
  have rxd:=rx.drew
  have r1d:=r1.drew
  cases q with
  |true=>
   have hq:=hq.1 rfl
   simp only [cond_true,sx,r1d.cell,rxd.cell]
   by_cases he:o0=x.b.opr/\o1=x.b.oad/\o2=x.b.opo
   ·have:((o0==x.b.opr) && ((o1==x.b.oad) && ((o2==x.b.opo) && true)))=true:=by simp [he]
    rw [this]
    exact hJf _ (Ext.drew w3) fun hh=>hh.2 he
   ·have:((o0==x.b.opr) && ((o1==x.b.oad) && ((o2==x.b.opo) && true)))=false:=by
     rw [Bool.eq_false_iff]
     intro hh
     exact he (by simpa using hh)
    rw [this]
    exact hJt _ (Ext.drew w3) hq he
  |false=>
   simp only [cond_false]
   exact hJf _ (Ext.drew w3) fun hh=>by have:=hq.2 hh.1;cases this
 clear_value J
 simp only [sx,r1.cell]
 by_cases h1':o1=0
 ·have:(o1 !=0)=false:=by rw [bne_eq_false_iff_eq];exact h1'
  rw [this,cond_false]
  refine hJ _ ?_
  rw [bne_iff_ne]
  exact⟨fun h=> .inr h,fun h=>h.resolve_left fun hn=>hn h1'⟩
 ·have:(o1 !=0)=true:=by rw [bne_iff_ne];exact h1'
  rw [this,cond_true]
  exact hJ true ⟨fun _=> .inl h1',fun _=>rfl⟩
end Go.Proofs.PS
end
section
namespace Go.Proofs.PS
open Gp Go.Proofs Go.Proofs.EN
open Gp.Bind (Bnd Slots live GoodB freeN getS In64)
open Gp.Wh (Tm)
set_option maxRecDepth 100000
set_option maxHeartbeats 1000000
variable {w w':World} {A:SA} {c:Cf} {Z:Bnd->Prop} {v:SV}
theorem LZ:∀(n:Nat) (l:List Int),l.length<n->∃i:Nat,i<n/\(i:Int)∉l
 |0,l,h=>by omega
 |n+1,l,h=>by
  by_cases hm:(n:Int)∈l
  ·have h1:=List.length_erase_of_mem hm
   have h2:0<l.length:=List.length_pos_of_mem hm
   obtain⟨i,hi,hn⟩:=LZ n (l.erase (n:Int)) (by omega)
   refine⟨i,by omega,fun h=>hn ?_⟩
   exact(List.mem_erase_of_ne (by omega)).2 h
  ·exact⟨n,by omega,hm⟩
theorem Srv.aef (h:Srv w A c v) {x:gW} (hr:Row w x.blk x.v) (hn:¬jy A v.L x.blk):Srv w A c {v with L:=x::v.L}:=by
 have sub:∀k b,own A (x::v.L) k b->own A v.L k b\/(k=5/\b=x.blk):=by
  intro k b ho
  match k,ho with
  |0,ho=>exact .inl ho
  |1,ho=>exact .inl ho
  |2,ho=>exact .inl ho
  |3,ho=>exact .inl ho
  |4,ho=>exact .inl ho
  |5,⟨y,hy,e⟩=>
   rcases List.mem_cons.1 hy with rfl|hy
   ·exact .inr ⟨rfl,e.symm⟩
   ·exact .inl ⟨y,hy,e⟩
  |(n+6),ho=>exact .inl ho
 refine⟨h.hd,h.en,h.wh,h.li,h.ld,h.nI,h.nD,fun y hy=> ?_,fun k k' b h1 h2=> ?_,fun k b hb=> ?_,?_⟩
 ·rcases List.mem_cons.1 hy with rfl|hy
  ·exact hr
  ·exact h.rw y hy
 ·rcases sub k b h1 with g1|⟨rfl,g1⟩<;>rcases sub k' b h2 with g2|⟨rfl,g2⟩
  ·exact h.ap k k' b g1 g2
  ·exact absurd ⟨k,g2 ▸ g1⟩ hn
  ·exact absurd ⟨k',g1 ▸ g2⟩ hn
  ·rfl
 ·rcases sub k b hb with g1|⟨_,g1⟩
  ·exact h.lt k b g1
  ·rw [g1];exact hr.lt
 ·show (x.blk::v.L.map (·.blk)).Nodup
  refine List.nodup_cons.2 ⟨fun hm=>hn ?_,h.bn⟩
  obtain⟨y,hy,e⟩:=List.mem_map.1 hm
  exact⟨5,y,hy,e⟩
theorem Srv.acs (h:Srv w A c v) {n:Int} (hf:fD w w' (·=A.s)) (hr:Row w' A.s [.pointer (some ⟨A.a.x,0,none⟩),.pointer (some ⟨A.d,0,none⟩),.map (some A.ml),.map (some A.mi),.int .i64 (v.now:Int),.int .i64 n,.int .i64 v.most]):Srv w' A c {v with nx:=n}:=by
 have o:∀k b,own A v.L k b->k≠0->¬b=A.s:=fun k b hk hn he=>h.off (j:=0) hk hn he
 exact⟨hr,h.en.fr hf (fun k b hb=>o 1 b ⟨k,hb⟩ (by decide)),h.wh.fr hf (fun b hb=>o 2 b hb (by decide)),h.li.fr hf (o 3 _ rfl (by decide)),h.ld.fr hf (o 4 _ rfl (by decide)),h.nI,h.nD,fun x hx=>(h.rw x hx).fr hf (o 5 _ ⟨x,hx,rfl⟩ (by decide)),h.ap,
  fun k b hb=>Nat.lt_of_lt_of_le (h.lt k b hb) hf.size,h.bn⟩
theorem Good.acs {P:List Int} (g:Good c Z v P) (n:Int):Good c Z {v with nx:=n} P:=⟨g.inv,g.ns,g.wn,g.li,g.ld,g.kk,g.ii,g.eb,g.ex,g.ir,g.wl,g.wt⟩
def codeF (e:Int):Int:=if e=0 then 0 else if e=10 then 8 else if e=7 then 4 else if e=9 then 11 else 3
def kB (b:Bnd):I4:=(b.sw,b.pr,b.ad,b.po)
theorem abg (g:Good c Z v []) {k:I4} (hk:∀y∈v.L,y.k≠k):jl v.LI k=none:=by
 cases hc:jl v.LI k with
 |none=>rfl
 |some n=>
  obtain⟨x,hx,h1,_⟩:=(g.li k n).1 hc
  exact absurd h1 (hk x hx)
theorem Zy {n:Nat} {un:Int} {L:List gW} (h:∀y∈L,y.blk≠n):Cj n un L=L:=by
 unfold Cj
 conv=>rhs;rw [<- List.map_id L]
 refine List.map_congr_left fun y hy=> ?_
 rw [if_neg (h y hy)];rfl
theorem ad1 {n f:Int} (hn:0<=n/\n<8192) (hf:0<=f/\f<8192) (h:n≠f):Int.tmod (IntKind.i64.wrap (n+1)) 8192=(n+1) % 8192/\0<=(n+1) % 8192/\(n+1) % 8192<8192/\((f - (n+1) % 8192) % 8192).toNat<((f - n) % 8192).toNat:=by
 rw [wrap_i64 (by omega) (by omega),Int.tmod_eq_emod_of_nonneg (by omega)]
 refine⟨rfl,by omega,by omega,by omega⟩
theorem aaJ (h:Srv w A c v) (g:Good c Z v []) (hnx:0<=v.nx/\v.nx<8192) (ht:v.tn<2^62) (hm:v.most<=4096) {b:Bnd} (hst:b.st=true) (hk:∀y∈v.L,y.k≠kB b) {d0 d1 d2 d3 d4 d5 d6 d7 d8 d9 d10 d11 d12 d13 d14 d15 d16 d17 d18 d19 d20 d21 d22 d23 d24 d25 d26 d27 d28 d29 d30 d31 d32:Int} (hl:0<d0/\d0<4294967296) {K:Int->Int->Int->Int->Int->Int->Int->Int->Int->Int->Int->Int->Int->Int->Int->Int->Int->Int->Int->Int->Int->Int->Int->Int->Int->Int->Int->Int->Int->Int->Int->Int->Int->Int->World->Prop}
  (h1:(v.L.length:Int)>=v.most->∀w',Ext w w'->K 8 d0 d1 d2 d3 d4 d5 d6 d7 d8 d9 d10 d11 d12 d13 d14 d15 d16 d17 d18 d19 d20 d21 d22 d23 d24 d25 d26 d27 d28 d29 d30 d31 d32 w')
  (h2:(v.L.length:Int)<v.most->AX c v.e b≠0->∀w',Ext w w'->K (codeF (AX c v.e b)) d0 d1 d2 d3 d4 d5 d6 d7 d8 d9 d10 d11 d12 d13 d14 d15 d16 d17 d18 d19 d20 d21 d22 d23 d24 d25 d26 d27 d28 d29 d30 d31 d32 w')
  (h3:(v.L.length:Int)<v.most->AX c v.e b=0->∀w' A' v' n id i,Out c Z w A v w' A' v'->v'.L=⟨n,b,v.now+min d0 86400,id⟩::v.L->freeN v.e.S=some i->v'.e.S=v.e.S.set i (some b)->K 0 (min d0 86400) d1 d2 d3 d4 d5 d6 d7 d8 d9 d10 d11 d12 d13 d14 d15 d16 d17 d18 d19 d20 d21 d22 d23 d24 d25 d26 d27 d28 d29 d30 d31 d32 w'):
  sD (some ⟨A.s,0,none⟩) b.sw b.pr b.ad b.po b.opr b.oad b.opo d0 d1 d2 d3 d4 d5 d6 d7 d8 d9 d10 d11 d12 d13 d14 d15 d16 d17 d18 d19 d20 d21 d22 d23 d24 d25 d26 d27 d28 d29 d30 d31 d32 w K:=by
 apply Ec
 refine fK fun ai w1 r1 e1 z1 f1=> ?_
 refine fK fun ao w2 r2 e2 z2 f2=> ?_
 refine fK fun a w3 r3 e3 z3 f3=> ?_
 refine fK fun t w4 r4 e4 z4 f4=> ?_
 have x4:=((f1.trans f2).trans f3).trans f4
 have r1:=(((r1.ext f2).ext f3).ext f4).drew
 have r2:=((r2.ext f3).ext f4).drew
 have r3:=(r3.ext f4).drew
 have r4:=r4.drew
 have x4:=x4.trans (Ext.drew w4)
 have hS:=h.ext x4
 have zz:ai<w4.heap.size/\ao<w4.heap.size/\a<w4.heap.size/\t<w4.heap.size/\w.heap.size<=ai/\w.heap.size<=ao/\w.heap.size<=a/\w.heap.size<=t/\a≠t/\ai≠a/\ao≠a:=by omega
 obtain⟨y1,y2,y3,y4,y5,y6,y7,y8,y9,y10,y11⟩:=zz
 have hnb:∀y,w.heap.size<=y->¬jy A v.L y:=fun y hy ⟨k,hk⟩=>by have:=h.lt k y hk;omega
 have fail:∀W r,Ext w4.drew W->Row W a (iK d0 d1 d2 d3 d4 d5 d6 d7 d8 d9 d10 d11 d12 d13 d14 d15 d16 d17 d18 d19 d20 d21 d22 d23 d24 d25 d26 d27 d28 d29 d30 d31 d32)->(∀w',Ext w w'->K r d0 d1 d2 d3 d4 d5 d6 d7 d8 d9 d10 d11 d12 d13 d14 d15 d16 d17 d18 d19 d20 d21 d22 d23 d24 d25 d26 d27 d28 d29 d30 d31 d32 w')->jF W ⟨a,0,none⟩ fun y0 y1 y2 y3 y4 y5 y6 y7 y8 y9 y10 y11 y12 y13 y14 y15 y16 y17 y18 y19 y20 y21 y22 y23 y24 y25 y26 y27 y28 y29 y30 y31 y32=>lS (iK y0 y1 y2 y3 y4 y5 y6 y7 y8 y9 y10 y11 y12 y13 y14 y15 y16 y17 y18 y19 y20 y21 y22 y23 y24 y25 y26 y27 y28 y29 y30 y31 y32) W ⟨t,0,none⟩ 0 fun w51=>jF w51 ⟨t,0,none⟩ fun x0 x1 x2 x3 x4 x5 x6 x7 x8 x9 x10 x11 x12 x13 x14 x15 x16 x17 x18 x19 x20 x21 x22 x23 x24 x25 x26 x27 x28 x29 x30 x31 x32=>K r x0 x1 x2 x3 x4 x5 x6 x7 x8 x9 x10 x11 x12 x13 x14 x15 x16 x17 x18 x19 x20 x21 x22 x23 x24 x25 x26 x27 x28 x29 x30 x31 x32 w51:=by
  intro W r hW hr hK
  simp only [sx,hr.cell]
  refine fP (r4.ext hW) rfl rfl fun w5 r5 f5 z5=> ?_
  simp only [sx,r5.cell]
  exact hK w5 ((x4.trans hW).new (f5 (·=t) rfl) fun y hy e=>by omega)
 have hlen:=g.adD h
 refine lu.2 (fM hS.hd (i:=2) (k:= .map) (x:=some A.ml) rfl (lu.2 (fM (k:= .int .i64) (i:=6) (x:=v.most) hS.hd rfl ?_)))
 refine WN.Pm hS.li ⟨by rw [kC,hS.hd.cell];rfl,?_⟩
 rw [hlen]
 by_cases hfull:(v.L.length:Int)>=v.most
 ·rw [decide_eq_true hfull,cond_true]
  exact fail _ 8 (Ext.drew _) r3.drew (h1 hfull)
 rw [decide_eq_false hfull,cond_false]
 have hfl:(v.L.length:Int)<v.most:=by omega
 have hSd:=hS.ext (Ext.drew _)
 refine lu.2 (fM (k:= .ptr) (i:=0) (x:=some ⟨A.a.x,0,none⟩) hSd.hd rfl ?_)
 have r1d:=r1.drew
 have r2d:=r2.drew
 refine fM (k:= .int .i64) (i:=0) (x:=b.sw) r1d rfl (fM (k:= .int .i64) (i:=1) (x:=b.pr) r1d rfl (fM (k:= .int .i64) (i:=2) (x:=b.ad) r1d rfl (fM (k:= .int .i64) (i:=3) (x:=b.po) r1d rfl ?_)))
 refine fM (k:= .int .i64) (i:=0) (x:=b.opr) r2d rfl (fM (k:= .int .i64) (i:=1) (x:=b.oad) r2d rfl (fM (k:= .int .i64) (i:=2) (x:=b.opo) r2d rfl ?_))
 refine zN (map_ok hSd.en g.inv b hst) ?_
 rintro r w5 ⟨rfl,hE⟩
 refine Ob (Yz _ w5) ?_
 rintro _ w6 ⟨rfl,hw6⟩
 subst hw6
 show cond ((codeF (AX c v.e b)) !=0) _ _
 rcases hE with ⟨hne,f5⟩|⟨he0,hmay,f5,aB,i,Mi,Mo,Q,G,hfree,hfpB,hE5,hI5⟩
 ·have hc:codeF (AX c v.e b)≠0:=by
   unfold codeF;rw [if_neg hne]
   split
   ·decide
   split
   ·decide
   split<;>decide
  have:(codeF (AX c v.e b) !=0)=true:=by rw [bne_iff_ne];exact hc
  rw [this,cond_true]
  exact fail _ _ (((Ext.drew _).trans f5).trans (Ext.drew w6)) ((r3.drew).ext (f5.trans (Ext.drew w6))) (h2 hfl hne)
 have:(codeF (AX c v.e b) !=0)=false:=by rw [he0];rfl
 rw [this,cond_false]
 have hnbE:∀y,w.heap.size<=y->¬Gf A.a y:=fun y hy hE=>hnb y hy ⟨1,hE⟩
 have hS5:=hSd.ad3 f5 hE5 rfl (fun y ⟨k,hk⟩=>by
  match k,hk with
  |0,ho=>exact .inl ⟨0,ho⟩
  |1,ho=>exact .inl ⟨1,ho⟩
  |2,ho=>exact .inl ⟨2,ho⟩
  |3,ho=>exact(hfpB y ho).imp_left fun h=>⟨3,h⟩
  |4,ho=>exact .inl ⟨4,ho⟩
  |5,ho=>exact .inl ⟨5,ho⟩
  |(n+6),ho=>exact ho.elim)
 obtain⟨fr,hfr,hfn⟩:=LZ 8192 (v.L.map (·.id)) (by rw [List.length_map];omega)
 have x5:Ext w4.drew.drew w4.drew.drew:=Ext.refl _
 have k1:=(r1d.fr f5 (hnbE _ y5))
 have k2:=(r2d.fr f5 (hnbE _ y6))
 have k3:=(r3.drew.fr f5 (hnbE _ y7))
 have k4:=(r4.drew.fr f5 (hnbE _ y8))
 have hAs:A.s<w.heap.size:=h.lt 0 _ rfl
 have z5:=f5.size
 have zd4:w4.drew.drew.heap.size=w4.heap.size:=rfl
 have zw:w.heap.size<=w4.heap.size:=x4.size
 refine fE (fun _ W=>∃n:Int,(0<=n/\n<8192)/\fD w6 W (·=A.s)/\Srv W {A with a:={A.a with B:=aB}} c {v with e:={v.e with S:=v.e.S.set i (some b),Mi:=Mi,Mo:=Mo,Q:=Q,G:=G},nx:=n})
  (fun _ W=>(((fr:Int) - (match W.cell? ⟨A.s,5,none⟩ with|some (.int _ n)=>n|_=>0)) % 8192).toNat) ⟨v.nx,hnx,fD.refl _ _,hS5⟩ ?_
 rintro⟨⟩ W ⟨n,hn,fW,hW⟩ next hnext
 have hWd:=hW.ext (Ext.drew W)
 have hc5:W.cell? ⟨A.s,5,none⟩=some (.int .i64 n):=by rw [hW.hd.cell];rfl
 rw [hc5] at hnext
 simp only at hnext
 refine lu.2 (fM hWd.hd (i:=3) (k:= .map) (x:=some A.mi) rfl (lu.2 (fM (k:= .int .i64) (i:=5) (x:=n) hWd.hd rfl ?_)))
 refine BP (k:= .ptr) (enc:=zA) (ev:=VG) hWd.ld eqN n (VP _) (fun hnone=> ?_) (fun y hy=> ?_)
 rotate_left
 ·simp only [VG,sx,Bool.not_false,hWd.hd.cell]
  refine⟨by decide,?_⟩
  have hne:n≠(fr:Int):=by
   rintro rfl
   obtain⟨x,hx,h1,_⟩:=(g.ld _ _).1 hy
   exact hfn (List.mem_map.2 ⟨x,hx,h1⟩)
  obtain⟨e1,e2,e3,e4⟩:=ad1 hn ⟨by omega,by omega⟩ hne
  rw [e1]
  refine gu hWd.hd rfl (by simp) fun W2 R2 F2' Z2=> ?_
  have F2:fD W.drew W2 (·=A.s):=F2' _ rfl
  simp only [List.set_cons_zero,List.set_cons_succ] at R2
  refine hnext _ _ ⟨_,⟨e2,e3⟩,(fW.ext (Ext.drew W)).trans F2 fun _ _ e=>e,hWd.acs F2 R2⟩ ?_
  rw [R2.cell]
  exact e4
 simp only [Kind.dec,Option.isNone_none,Bool.not_true,cond_false]
 have hWdd:=hWd.ext (Ext.drew _)
 have nob:∀y,w.heap.size<=y->¬y=A.s:=fun y hy e=>by omega
 have k1:=((k1.fr fW (nob _ y5)).drew).drew
 have k2:=((k2.fr fW (nob _ y6)).drew).drew
 have k3:=((k3.fr fW (nob _ y7)).drew).drew
 have k4:=((k4.fr fW (nob _ y8)).drew).drew
 refine fM (k:= .int .i64) (i:=0) (x:=b.sw) k1 rfl (fM (k:= .int .i64) (i:=1) (x:=b.pr) k1 rfl (fM (k:= .int .i64) (i:=2) (x:=b.ad) k1 rfl (fM (k:= .int .i64) (i:=3) (x:=b.po) k1 rfl ?_)))
 refine fM (k:= .int .i64) (i:=0) (x:=b.opr) k2 rfl (fM (k:= .int .i64) (i:=1) (x:=b.oad) k2 rfl (fM (k:= .int .i64) (i:=2) (x:=b.opo) k2 rfl ?_))
 refine lu.2 (fM (k:= .int .i64) (i:=5) (x:=n) hWdd.hd rfl ?_)
 refine fK fun nb w7 r7 e7 z7 f7=> ?_
 have f7d:=f7.trans (Ext.drew w7)
 have hS7:=hWdd.ext f7d
 have k1:=k1.ext f7d
 have k3:=k3.ext f7d
 have k4:=k4.ext f7d
 have r7:=r7.drew
 have zW:w6.heap.size<=W.heap.size:=fW.size
 have hzd:W.drew.drew.heap.size=W.heap.size:=rfl
 have hz7d:w7.drew.heap.size=w7.heap.size:=rfl
 refine lu.2 (fM hS7.hd (i:=2) (k:= .map) (x:=some A.ml) rfl ?_)
 refine fM (k:= .int .i64) (i:=0) (x:=b.sw) k1 rfl (fM (k:= .int .i64) (i:=1) (x:=b.pr) k1 rfl (fM (k:= .int .i64) (i:=2) (x:=b.ad) k1 rfl (fM (k:= .int .i64) (i:=3) (x:=b.po) k1 rfl ?_)))
 refine lu.2 (fM hS7.hd (i:=3) (k:= .map) (x:=some A.mi) rfl ?_)
 refine lu.2 (fM (k:= .int .i64) (i:=8) (x:=n) r7 rfl ?_)
 refine Pe (enc:=encI) (ev:=VG) hS7.li eqI (kB b) (Yh _) (abg g hk) _ nb fun n8 w8 hst8=>hst8 fun w9 m9 f9 z9=> ?_
 have hml:A.ml<w.heap.size:=h.lt 3 _ rfl
 have hmi:A.mi<w.heap.size:=h.lt 4 _ rfl
 have hS9:=hS7.aco f9 m9 (EY hS7.nI _ _)
 have nml:∀y,w.heap.size<=y->¬y=A.ml:=fun y hy e=>by omega
 have nmi:∀y,w.heap.size<=y->¬y=A.mi:=fun y hy e=>by omega
 have hnbw:w.heap.size<=nb:=by omega
 have r9:=r7.fr f9 (nml _ hnbw)
 have k3:=k3.fr f9 (nml _ y7)
 have k4:=k4.fr f9 (nml _ y8)
 refine Pe (enc:=zA) (ev:=VG) hS9.ld eqN n (VP _) hnone _ nb fun n10 w10 hst10=>hst10 fun w11 m11 f11 z11=> ?_
 have hS11:=hS9.ach f11 m11 (EY hS9.nD _ _)
 have r11:=r9.fr f11 (nmi _ hnbw)
 have k3:=k3.fr f11 (nmi _ y7)
 have k4:=k4.fr f11 (nmi _ y8)
 refine fM (k:= .int .i64) (i:=0) (x:=d0) k3 rfl ?_
 refine gu k3 rfl (by simp) fun w12 r12 f12' z12=> ?_
 have f12:fD w11 w12 (·=a):=f12' _ rfl
 simp only [List.set_cons_zero] at r12
 have hmin:(if (86400:Int)<d0 then 86400 else d0)=min d0 86400:=by omega
 rw [hmin] at r12
 refine fM (k:= .int .i64) (i:=0) (x:=min d0 86400) r12 rfl ?_
 have hown1:∀y,jy {A with a:={A.a with B:=aB}} v.L y->jy A v.L y\/w4.heap.size<=y:=by
  rintro y ⟨k,hk⟩
  match k,hk with
  |0,ho=>exact .inl ⟨0,ho⟩
  |1,⟨j,ho⟩=>
   match j,ho with
   |0,ho=>exact .inl ⟨1,0,ho⟩
   |1,ho=>exact .inl ⟨1,1,ho⟩
   |2,ho=>exact .inl ⟨1,2,ho⟩
   |3,ho=>exact(hfpB y ho).imp (fun h=>⟨1,3,h⟩) fun h=>by omega
   |4,ho=>exact .inl ⟨1,4,ho⟩
   |5,ho=>exact .inl ⟨1,5,ho⟩
   |(n+6),ho=>exact ho.elim
  |2,ho=>exact .inl ⟨2,ho⟩
  |3,ho=>exact .inl ⟨3,ho⟩
  |4,ho=>exact .inl ⟨4,ho⟩
  |5,ho=>exact .inl ⟨5,ho⟩
  |(n+6),ho=>exact ho.elim
 have hna:∀y,w.heap.size<=y->y<w4.heap.size->¬jy {A with a:={A.a with B:=aB}} v.L y:=fun y h1 h2 h3=>by
  rcases hown1 y h3 with h|h
  ·exact hnb y h1 h
  ·omega
 have hS12:=hS11.fr f12 fun k y hy e=>hna a y7 y3 (e ▸ ⟨k,hy⟩)
 have hnbo:¬jy {A with a:={A.a with B:=aB}} v.L nb:=fun⟨k,hk⟩=>by have:=hW.lt k nb hk;omega
 have r12':Row w12 nb ({blk:=nb,b:=b,un:=0,id:=n}:gW).v:=r11.fr f12 (by omega)
 have hSx:=hS12.aef (x:={blk:=nb,b:=b,un:=0,id:=n}) r12' hnbo
 have hlW:=g.aed h
 have hown2:∀y,jy {A with a:={A.a with B:=aB}} (({blk:=nb,b:=b,un:=0,id:=n}:gW)::v.L) y->jy A v.L y\/w4.heap.size<=y:=by
  rintro y ⟨k,hk⟩
  match k,hk with
  |0,ho=>exact hown1 y ⟨0,ho⟩
  |1,ho=>exact hown1 y ⟨1,ho⟩
  |2,ho=>exact hown1 y ⟨2,ho⟩
  |3,ho=>exact hown1 y ⟨3,ho⟩
  |4,ho=>exact hown1 y ⟨4,ho⟩
  |5,⟨x,hx,e⟩=>
   rcases List.mem_cons.1 hx with rfl|hx
   ·exact .inr (by simp only at e;omega)
   ·exact hown1 y ⟨5,x,hx,e⟩
  |(n+6),ho=>exact ho.elim
 refine yx (X0 hSx (x:={blk:=nb,b:=b,un:=0,id:=n}) List.mem_cons_self (life:=min d0 86400) (by omega) (by omega) ⟨hn.1,by simp only;omega⟩ (.inr (by rw [hlW];exact hfl)) ht g.wn) ?_
 rintro w13 ⟨f13,ss,F,hfp,hS13⟩
 have hn2:∀y,w.heap.size<=y->y<w4.heap.size->¬jy {A with a:={A.a with B:=aB}} (({blk:=nb,b:=b,un:=0,id:=n}:gW)::v.L) y:=fun y h1 h2 h3=>by
  rcases hown2 y h3 with h|h
  ·exact hnb y h1 h
  ·omega
 have r13:=(r12.fr f13 (hn2 a y7 y3)).drew
 have k4:=((k4.fr f12 (fun e=>y9 e.symm)).fr f13 (hn2 t y8 y4)).drew
 simp only [sx,r13.cell]
 refine fP k4 rfl rfl fun w14 r14 f14' z14=> ?_
 have f14:fD w13.drew w14 (·=t):=f14' _ rfl
 simp only [sx,r14.cell]
 have ggg:Good c Z {v with e:={v.e with S:=v.e.S.set i (some b),Mi:=Mi,Mo:=Mo,Q:=Q,G:=G},nx:=n,L:=({blk:=nb,b:=b,un:=0,id:=n}:gW)::v.L,LI:=Ej v.LI (kB b) nb,LD:=Ej v.LD n nb} [n]:=
  (g.add (x:={blk:=nb,b:=b,un:=0,id:=n}) hk (fun y hy he=>by
   have:=(g.ld n y.blk).2 ⟨y,hy,he,rfl⟩
   rw [hnone] at this;cases this) hst ⟨hn.1,hn.2⟩ hfree hI5).acs n
 have garm:=ggg.arm hSx (x:={blk:=nb,b:=b,un:=0,id:=n}) List.mem_cons_self (fun id hid=>List.mem_singleton.1 hid) (un:=v.now+min d0 86400) (by simp only;omega) (by have:=h.wh.wi.nw;have:=g.wn;simp only;omega) (v.tn+1) F
 have hL:Cj nb (v.now+min d0 86400) (({blk:=nb,b:=b,un:=0,id:=n}:gW)::v.L)={blk:=nb,b:=b,un:=v.now+min d0 86400,id:=n}::v.L:=by
  have:=Zy (n:=nb) (un:=v.now+min d0 86400) (L:=v.L) fun y hy e=>by have:=h.lt 5 y.blk ⟨y,hy,rfl⟩;omega
  unfold Cj at this ⊢
  rw [List.map_cons,if_pos rfl,this]
 have own3:∀y,jy {A with a:={A.a with B:=aB},ss:=ss} (Cj nb (v.now+min d0 86400) (({blk:=nb,b:=b,un:=0,id:=n}:gW)::v.L)) y->jy {A with a:={A.a with B:=aB}} (({blk:=nb,b:=b,un:=0,id:=n}:gW)::v.L) y\/w12.heap.size<=y:=
  MZ rfl rfl rfl rfl (fun y hy=> .inl (by rw [Pj] at hy;exact hy)) hfp
 have s9:=f9.size
 have s11:=f11.size
 have s12:=f12.size
 refine h3 hfl he0 w14 _ _ nb n i ⟨(hS13.ext (Ext.drew w13)).fr f14 fun k y hy e=> ?_,garm,?_,rfl,rfl,?_,rfl,rfl,by simp,hn,rfl⟩ hL hfree rfl
 ·rcases own3 y ⟨k,hy⟩ with h|h
  ·exact hn2 t y8 y4 (e ▸ h)
  ·omega
 ·have q6:fD w w6 (jy A v.L):=((x4.trans (Ext.drew _)).fr f5).mono fun y hy=>⟨1,hy⟩
  have qW:fD w W (jy A v.L):=q6.trans fW fun y _ hy=>⟨0,hy⟩
  have q7:fD w w7.drew (jy A v.L):=qW.ext (((Ext.drew W).trans (Ext.drew _)).trans f7d)
  have q9:fD w w9 (jy A v.L):=q7.trans f9 fun y _ hy=>⟨3,hy⟩
  have q11:fD w w11 (jy A v.L):=q9.trans f11 fun y _ hy=>⟨4,hy⟩
  have q12:fD w w12 (jy A v.L):=q11.trans f12 fun y h1 hy=>by omega
  have q13:fD w w13 (jy A v.L):=q12.trans f13 fun y h1 hy=>by
   rcases hown2 y hy with h|h
   ·exact h
   ·omega
  exact(q13.ext (Ext.drew w13)).trans f14 fun y h1 hy=>by omega
 ·intro y hy
  rcases own3 y hy with h|h
  ·rcases hown2 y h with h|h
   ·exact .inl h
   ·exact .inr (by omega)
  ·exact .inr (by omega)
end Go.Proofs.PS
end
section
namespace Go.Proofs.PS
open Gp Go.Proofs Go.Proofs.EN
open Gp.Bind (Bnd Slots live GoodB freeN getS In64)
open Gp.Wh (Tm)
set_option maxRecDepth 100000
set_option maxHeartbeats 1000000
variable {w w':World} {A:SA} {c:Cf} {Z:Bnd->Prop} {v:SV}
inductive DJ (c:Cf) (v:SV) (b:Bnd) (lf:Int):Int->Int->Int->Int->SV->Prop
 |none:lf=0->(∀y∈v.L,y.k≠kB b)->DJ c v b lf 0 lf b.opo b.oad v
 |drop {x:gW} {i:Nat} {v':SV}:lf=0->x∈v.L->x.k=kB b->v.e.S[i]? =some (some x.b)->v'.L=(v.L.filter fun y=> !(y.blk==x.blk))->v'.e.S=v.e.S.set i .none->DJ c v b lf 0 lf b.opo b.oad v'
 |ext {x:gW}:lf≠0->x∈v.L->x.k=kB b->(b.oad≠0\/b.opo≠0)->¬(b.opr=x.b.opr/\b.oad=x.b.oad/\b.opo=x.b.opo)->DJ c v b lf 11 lf b.opo b.oad v
 |renew {x:gW} {v':SV}:lf≠0->x∈v.L->x.k=kB b->¬((b.oad≠0\/b.opo≠0)/\¬(b.opr=x.b.opr/\b.oad=x.b.oad/\b.opo=x.b.opo))->v'.L=Cj x.blk (v.now+min lf 86400) v.L->v'.e=v.e->DJ c v b lf 0 (min lf 86400) x.b.opo x.b.oad v'
 |full:lf≠0->(∀y∈v.L,y.k≠kB b)->(v.L.length:Int)>=v.most->DJ c v b lf 8 lf b.opo b.oad v
 |map:lf≠0->(∀y∈v.L,y.k≠kB b)->(v.L.length:Int)<v.most->AX c v.e b≠0->DJ c v b lf (codeF (AX c v.e b)) lf b.opo b.oad v
 |add {n:Nat} {id:Int} {i:Nat} {v':SV}:lf≠0->(∀y∈v.L,y.k≠kB b)->(v.L.length:Int)<v.most->AX c v.e b=0->v'.L=⟨n,b,v.now+min lf 86400,id⟩::v.L->freeN v.e.S=some i->v'.e.S=v.e.S.set i (some b)->DJ c v b lf 0 (min lf 86400) b.opo b.oad v'
theorem XU {A A':SA} {L:List gW} {p:gW->Bool} {n:Nat} (h:∀b,jy A' L b->jy A L b\/n<=b):∀b,jy A' (L.filter p) b->jy A L b\/n<=b:=by
 rintro b ⟨k,hk⟩
 match k,hk with
 |0,ho=>exact h b ⟨0,ho⟩
 |1,ho=>exact h b ⟨1,ho⟩
 |2,ho=>exact h b ⟨2,ho⟩
 |3,ho=>exact h b ⟨3,ho⟩
 |4,ho=>exact h b ⟨4,ho⟩
 |5,⟨x,hx,e⟩=>exact h b ⟨5,x,(List.mem_filter.1 hx).1,e⟩
 |(n+6),ho=>exact ho.elim
theorem acH (h:Srv w A c v) (g:Good c Z v []) (hnx:0<=v.nx/\v.nx<8192) (ht:v.tn<2^62) (hm:v.most<=4096) {sw pr ad po d0 d1 d2 d3 d4 d5 d6 d7 d8 d9 d10 d11 d12 d13 d14 d15 d16 d17 d18 d19 d20 d21 d22 d23 d24 d25 d26 d27 d28 d29 d30 d31 d32:Int} (hl:0<=d0/\d0<4294967296) {K:Int->Int->Int->Int->Int->Int->Int->Int->Int->Int->Int->Int->Int->Int->Int->Int->Int->Int->Int->Int->Int->Int->Int->Int->Int->Int->Int->Int->Int->Int->Int->Int->Int->Int->World->Prop}
  (hK:∀r e0 e31 e32 w' A' v',Out c Z w A v w' A' v'->DJ c v ⟨sw,pr,ad,po,d29,d32,d31,true⟩ d0 r e0 e31 e32 v'->K r e0 d1 d2 d3 d4 d5 d6 d7 d8 d9 d10 d11 d12 d13 d14 d15 d16 d17 d18 d19 d20 d21 d22 d23 d24 d25 d26 d27 d28 d29 d30 e31 e32 w'):
  vk (some ⟨A.s,0,none⟩) sw pr ad po d0 d1 d2 d3 d4 d5 d6 d7 d8 d9 d10 d11 d12 d13 d14 d15 d16 d17 d18 d19 d20 d21 d22 d23 d24 d25 d26 d27 d28 d29 d30 d31 d32 w K:=by
 apply Ie
 refine fK fun ai w1 r1 e1 z1 f1=> ?_
 refine fK fun a w2 r2 e2 z2 f2=> ?_
 refine fK fun t w3 r3 e3 z3 f3=> ?_
 have x3:=((f1.trans f2).trans f3).trans (Ext.drew w3)
 have hS:=h.ext x3
 have r1:=((r1.ext f2).ext f3).drew
 have r2:=(r2.ext f3).drew
 have r3:=r3.drew
 have hwd:w3.drew.heap.size=w3.heap.size:=rfl
 refine lu.2 (fM hS.hd (i:=2) (k:= .map) (x:=some A.ml) rfl ?_)
 refine fM (k:= .int .i64) (i:=0) (x:=sw) r1 rfl (fM (k:= .int .i64) (i:=1) (x:=pr) r1 rfl (fM (k:= .int .i64) (i:=2) (x:=ad) r1 rfl (fM (k:= .int .i64) (i:=3) (x:=po) r1 rfl ?_)))
 have fin:∀W r,Row W a (iK d0 d1 d2 d3 d4 d5 d6 d7 d8 d9 d10 d11 d12 d13 d14 d15 d16 d17 d18 d19 d20 d21 d22 d23 d24 d25 d26 d27 d28 d29 d30 d31 d32)->Row W t (iK 0 0 0 0 0 0 0 0 0 0 0 0 0 0 0 0 0 0 0 0 0 0 0 0 0 0 0 0 0 0 0 0 0)->(∀w',fD W w' (·=t)->K r d0 d1 d2 d3 d4 d5 d6 d7 d8 d9 d10 d11 d12 d13 d14 d15 d16 d17 d18 d19 d20 d21 d22 d23 d24 d25 d26 d27 d28 d29 d30 d31 d32 w')->jF W ⟨a,0,none⟩ fun y0 y1 y2 y3 y4 y5 y6 y7 y8 y9 y10 y11 y12 y13 y14 y15 y16 y17 y18 y19 y20 y21 y22 y23 y24 y25 y26 y27 y28 y29 y30 y31 y32=>lS (iK y0 y1 y2 y3 y4 y5 y6 y7 y8 y9 y10 y11 y12 y13 y14 y15 y16 y17 y18 y19 y20 y21 y22 y23 y24 y25 y26 y27 y28 y29 y30 y31 y32) W ⟨t,0,none⟩ 0 fun w51=>jF w51 ⟨t,0,none⟩ fun x0 x1 x2 x3 x4 x5 x6 x7 x8 x9 x10 x11 x12 x13 x14 x15 x16 x17 x18 x19 x20 x21 x22 x23 x24 x25 x26 x27 x28 x29 x30 x31 x32=>K r x0 x1 x2 x3 x4 x5 x6 x7 x8 x9 x10 x11 x12 x13 x14 x15 x16 x17 x18 x19 x20 x21 x22 x23 x24 x25 x26 x27 x28 x29 x30 x31 x32 w51:=by
  intro W r hr ht hK
  simp only [sx,hr.cell]
  refine fP ht rfl rfl fun w5 r5 f5 z5=> ?_
  simp only [sx,r5.cell]
  exact hK w5 (f5 (·=t) rfl)
 have fin2:∀W r q0 q1 q2 q3 q4 q5 q6 q7 q8 q9 q10 q11 q12 q13 q14 q15 q16 q17 q18 q19 q20 q21 q22 q23 q24 q25 q26 q27 q28 q29 q30 q31 q32,Row W t (iK 0 0 0 0 0 0 0 0 0 0 0 0 0 0 0 0 0 0 0 0 0 0 0 0 0 0 0 0 0 0 0 0 0)->(∀w',fD W w' (·=t)->K r q0 q1 q2 q3 q4 q5 q6 q7 q8 q9 q10 q11 q12 q13 q14 q15 q16 q17 q18 q19 q20 q21 q22 q23 q24 q25 q26 q27 q28 q29 q30 q31 q32 w')->lS (iK q0 q1 q2 q3 q4 q5 q6 q7 q8 q9 q10 q11 q12 q13 q14 q15 q16 q17 q18 q19 q20 q21 q22 q23 q24 q25 q26 q27 q28 q29 q30 q31 q32) W ⟨t,0,none⟩ 0 fun w51=>jF w51 ⟨t,0,none⟩ fun x0 x1 x2 x3 x4 x5 x6 x7 x8 x9 x10 x11 x12 x13 x14 x15 x16 x17 x18 x19 x20 x21 x22 x23 x24 x25 x26 x27 x28 x29 x30 x31 x32=>K r x0 x1 x2 x3 x4 x5 x6 x7 x8 x9 x10 x11 x12 x13 x14 x15 x16 x17 x18 x19 x20 x21 x22 x23 x24 x25 x26 x27 x28 x29 x30 x31 x32 w51:=by
  intro W r q0 q1 q2 q3 q4 q5 q6 q7 q8 q9 q10 q11 q12 q13 q14 q15 q16 q17 q18 q19 q20 q21 q22 q23 q24 q25 q26 q27 q28 q29 q30 q31 q32 ht hK
  refine fP ht rfl rfl fun w5 r5 f5 z5=> ?_
  simp only [sx,r5.cell]
  exact hK w5 (f5 (·=t) rfl)
 have kB0:kB ⟨sw,pr,ad,po,d29,d32,d31,true⟩=(sw,pr,ad,po):=rfl
 have hnb:∀y,w.heap.size<=y->¬jy A v.L y:=fun y hy ⟨k,hk⟩=>by have:=h.lt k y hk;omega
 have outT:∀{W W' A' v'},Out c Z w A v W A' v'->t<W.heap.size->(∀y,jy A' v'.L y->¬y=t)->fD W W' (·=t)->Out c Z w A v W' A' v':=by
  intro W W' A' v' o htW ho hf
  refine⟨o.srv.fr hf fun k y hy e=>ho y ⟨k,hy⟩ e,o.good,?_,o.s,o.x,o.sub,o.now,o.most,o.tn,o.nx,o.en⟩
  exact o.fr.trans hf fun y hy e=>by omega
 have nt:¬jy A v.L t:=hnb t (by omega)
 have rdO:∀W (o:Nat) (Q:Int->Int->Int->Prop),Row W o [.int .i64 d29,.int .i64 d32,.int .i64 d31]->Q d29 d32 d31->Ld (.int .i64) W (Addr.add ⟨o,0,none⟩ 0) fun x=>Ld (.int .i64) W (Addr.add ⟨o,0,none⟩ 1) fun y=>Ld (.int .i64) W (Addr.add ⟨o,0,none⟩ 2) fun z=>Q x y z:=by
  intro W o Q hr hq
  simp only [sx,hr.cell]
  exact hq
 have rdA:∀W (Q:Int->Int->Int->Int->Int->Int->Int->Int->Int->Int->Int->Int->Int->Int->Int->Int->Int->Int->Int->Int->Int->Int->Int->Int->Int->Int->Int->Int->Int->Int->Int->Int->Int->Prop),Row W a (iK d0 d1 d2 d3 d4 d5 d6 d7 d8 d9 d10 d11 d12 d13 d14 d15 d16 d17 d18 d19 d20 d21 d22 d23 d24 d25 d26 d27 d28 d29 d30 d31 d32)->Q d0 d1 d2 d3 d4 d5 d6 d7 d8 d9 d10 d11 d12 d13 d14 d15 d16 d17 d18 d19 d20 d21 d22 d23 d24 d25 d26 d27 d28 d29 d30 d31 d32->jF W ⟨a,0,none⟩ fun y0 y1 y2 y3 y4 y5 y6 y7 y8 y9 y10 y11 y12 y13 y14 y15 y16 y17 y18 y19 y20 y21 y22 y23 y24 y25 y26 y27 y28 y29 y30 y31 y32=>Q y0 y1 y2 y3 y4 y5 y6 y7 y8 y9 y10 y11 y12 y13 y14 y15 y16 y17 y18 y19 y20 y21 y22 y23 y24 y25 y26 y27 y28 y29 y30 y31 y32:=by
  intro W Q hr hq
  simp only [sx,hr.cell]
  exact hq
 refine WN.FQ (enc:=encI) (ev:=VG) hS.li eqI (sw,pr,ad,po) (Yh _) (fun hnone=> ?_) (fun nb hnb'=> ?_)
 ·have hk:∀y∈v.L,y.k≠(sw,pr,ad,po):=fun y hy e=>by
   have:=(g.li _ _).2 ⟨y,hy,e,rfl⟩
   rw [hnone] at this;cases this
  refine⟨_,rfl,?_⟩
  refine fM (k:= .int .i64) (i:=29) (x:=d29) r2 rfl (fM (k:= .int .i64) (i:=32) (x:=d32) r2 rfl (fM (k:= .int .i64) (i:=31) (x:=d31) r2 rfl ?_))
  refine fK fun o w4 r4 e4 z4 f4=> ?_
  refine fP r4 rfl rfl fun w5 r5 f5 z5=> ?_
  have x5:Ext w3.drew w5:=f4.new (f5 (·=o) rfl) fun y hy e=>by omega
  have r1:=r1.ext x5
  have r2:=r2.ext x5
  have r3:=r3.ext x5
  have xw:=x3.trans x5
  intro J
  have hJ:J false:=by
   simp only [J,cond_false]
   refine fM (k:= .int .i64) (i:=0) (x:=d0) r2 rfl ?_
   by_cases h0:d0=0
   ·have:(d0==0)=true:=by simpa using h0
    rw [this,cond_true]
    refine fin _ _ r2.drew r3.drew fun w' f'=>hK 0 d0 d31 d32 w' A v (outT (Out.same h g hnx (xw.trans (Ext.drew w5))) (by have:=r3.lt;exact this) (fun y hy e=>nt (e ▸ hy)) f') (DJ.none h0 hk)
   have:(d0==0)=false:=by simpa using h0
   rw [this,cond_false]
   refine fM (k:= .int .i64) (i:=0) (x:=sw) r1 rfl (fM (k:= .int .i64) (i:=1) (x:=pr) r1 rfl (fM (k:= .int .i64) (i:=2) (x:=ad) r1 rfl (fM (k:= .int .i64) (i:=3) (x:=po) r1 rfl ?_)))
   refine rdO _ _ _ r5 (rdA _ _ r2 ?_)
   have zt:t<w5.heap.size:=r3.lt
   refine aaJ (b:=⟨sw,pr,ad,po,d29,d32,d31,true⟩) (h.ext xw) g hnx ht hm rfl hk (by omega) ?_ ?_ ?_
   ·intro hf w6 f6
    refine fin2 _ _ d0 d1 d2 d3 d4 d5 d6 d7 d8 d9 d10 d11 d12 d13 d14 d15 d16 d17 d18 d19 d20 d21 d22 d23 d24 d25 d26 d27 d28 d29 d30 d31 d32 (r3.ext f6) fun w' f'=>hK 8 d0 d31 d32 w' A v (outT (Out.same h g hnx (xw.trans f6)) (r3.ext f6).lt (fun y hy e=>nt (e ▸ hy)) f') (DJ.full h0 hk hf)
   ·intro hf hme w6 f6
    refine fin2 _ _ d0 d1 d2 d3 d4 d5 d6 d7 d8 d9 d10 d11 d12 d13 d14 d15 d16 d17 d18 d19 d20 d21 d22 d23 d24 d25 d26 d27 d28 d29 d30 d31 d32 (r3.ext f6) fun w' f'=>hK _ d0 d31 d32 w' A v (outT (Out.same h g hnx (xw.trans f6)) (r3.ext f6).lt (fun y hy e=>nt (e ▸ hy)) f') (DJ.map h0 hk hf hme)
   ·intro hf hme w6 A' v' n id i ho hL hfree hS'
    have ho':Out c Z w A v w6 A' v':=⟨ho.srv,ho.good,xw.fr ho.fr,ho.s,ho.x,fun y hy=>(ho.sub y hy).imp_right fun h=>by have:=xw.size;omega,ho.now,ho.most,ho.tn,ho.nx,ho.en⟩
    have rt:=r3.fr ho.fr nt
    refine fin2 _ _ (min d0 86400) d1 d2 d3 d4 d5 d6 d7 d8 d9 d10 d11 d12 d13 d14 d15 d16 d17 d18 d19 d20 d21 d22 d23 d24 d25 d26 d27 d28 d29 d30 d31 d32 rt fun w' f'=>hK 0 _ d31 d32 w' A' v' (outT ho' rt.lt (fun y hy e=> ?_) f') (DJ.add h0 hk hf hme hL hfree hS')
    subst e
    rcases ho.sub _ hy with h|h
    ·exact nt h
    ·omega
  clear_value J
  refine fM (k:= .int .i64) (i:=0) (x:=d0) r2 rfl ?_
  cases (d0==0) with
  |true=>exact hJ
  |false=>exact hJ
 ·obtain⟨x,hx,hxk,hxn⟩:=(g.li _ _).1 hnb'
  subst hxn
  refine⟨some ⟨x.blk,0,none⟩,rfl,?_⟩
  refine fM (k:= .int .i64) (i:=29) (x:=d29) r2 rfl (fM (k:= .int .i64) (i:=32) (x:=d32) r2 rfl (fM (k:= .int .i64) (i:=31) (x:=d31) r2 rfl ?_))
  refine fK fun o w4 r4 e4 z4 f4=> ?_
  refine fP r4 rfl rfl fun w5 r5 f5 z5=> ?_
  have x5:Ext w3.drew w5:=f4.new (f5 (·=o) rfl) fun y hy e=>by omega
  have r1:=r1.ext x5
  have r2:=r2.ext x5
  have r3:=r3.ext x5
  have xw:=x3.trans x5
  have zt:t<w5.heap.size:=r3.lt
  have na:¬jy A v.L a:=hnb a (by have:=f1.size;omega)
  intro J
  have hJf:d0≠0->J false:=by
   intro h0
   simp only [J,cond_false]
   refine fM (k:= .int .i64) (i:=0) (x:=d0) r2 rfl ?_
   have:(d0==0)=false:=by simpa using h0
   rw [this,cond_false,cond_true]
   refine rdO _ _ _ r5 (rdA _ _ r2 ?_)
   refine aaK (h.ext xw) g hnx ht hx (by omega) ?_ ?_
   ·intro c1 c2 w6 f6
    refine fin2 _ _ d0 d1 d2 d3 d4 d5 d6 d7 d8 d9 d10 d11 d12 d13 d14 d15 d16 d17 d18 d19 d20 d21 d22 d23 d24 d25 d26 d27 d28 d29 d30 d31 d32 (r3.ext f6) fun w' f'=>hK 11 d0 d31 d32 w' A v (outT (Out.same h g hnx (xw.trans f6)) (r3.ext f6).lt (fun y hy e=>nt (e ▸ hy)) f') (DJ.ext h0 hx hxk c1 c2)
   ·intro hc w6 A' v' ho hL hE
    have ho':Out c Z w A v w6 A' v':=⟨ho.srv,ho.good,xw.fr ho.fr,ho.s,ho.x,fun y hy=>(ho.sub y hy).imp_right fun h=>by have:=xw.size;omega,ho.now,ho.most,ho.tn,ho.nx,ho.en⟩
    have rt:=r3.fr ho.fr nt
    refine fin2 _ _ (min d0 86400) d1 d2 d3 d4 d5 d6 d7 d8 d9 d10 d11 d12 d13 d14 d15 d16 d17 d18 d19 d20 d21 d22 d23 d24 d25 d26 d27 d28 d29 d30 x.b.opo x.b.oad rt fun w' f'=>hK 0 _ _ _ w' A' v' (outT ho' rt.lt (fun y hy e=> ?_) f') (DJ.renew h0 hx hxk hc hL hE)
    subst e
    rcases ho.sub _ hy with h|h
    ·exact nt h
    ·omega
  have hJt:d0=0->J true:=by
   intro h0
   simp only [J,cond_true]
   obtain⟨hst,i,hi⟩:=g.eb x hx
   refine yw (XQ (h.ext xw) g.inv g.ns hx hi hst) ?_
   rintro w6 ⟨f6,ss,F,Mi,Mo,Q,G,hfp,hinv,hS6⟩
   have gd:=g.drop h hx hi (P':=[]) (fun id hid=>Iff.rfl) F hinv
   have rt:=(r3.fr f6 nt).drew
   have ho':Out c Z w A v w6.drew {A with ss:=ss} _:=⟨hS6.ext (Ext.drew w6),gd,(xw.fr f6).ext (Ext.drew w6),rfl,rfl,XU (MZ rfl rfl rfl rfl (fun y hy=> .inl hy) fun y hy=>(hfp y hy).imp_right fun h=>by have:=xw.size;omega),rfl,rfl,(by show v.tn<=v.tn+1;omega),hnx,rfl⟩
   refine fin _ _ (r2.fr f6 na).drew rt fun w' f'=>hK 0 d0 d31 d32 w' _ _ (outT ho' rt.lt (fun y hy e=> ?_) f') (DJ.drop h0 hx hxk hi rfl rfl)
   subst e
   rcases XU (MZ (A:=A) (A':={A with ss:=ss}) (L:=v.L) (L':=v.L) (n:=w5.heap.size) rfl rfl rfl rfl (fun y hy=> .inl hy) hfp) _ hy with h|h
   ·exact nt h
   ·omega
  clear_value J
  refine fM (k:= .int .i64) (i:=0) (x:=d0) r2 rfl ?_
  by_cases h0:d0=0
  ·have:(d0==0)=true:=by simpa using h0
   rw [this,cond_true]
   exact hJt h0
  ·have:(d0==0)=false:=by simpa using h0
   rw [this,cond_false]
   exact hJf h0
end Go.Proofs.PS
end
section
namespace Go.Proofs.PS
open Gp Go.Proofs Go.Proofs.EN Go.Proofs.PM
open Gp.V4 (num)
open Gp.Bind (Bnd Slots live GoodB freeN getS In64)
open Gp.Wh (Tm)
set_option maxRecDepth 100000
set_option maxHeartbeats 1000000
variable {w w':World} {A:SA} {c:Cf} {Z:Bnd->Prop} {v:SV}
theorem Z_ {x0 x1 x2 x3 x4 x5 x6 x7 x8 x9 x10 x11 x12 x13 x14 x15 y0 y1 y2 y3 y4 y5 y6 y7 y8 y9 y10 y11 y12 y13 y14 y15:Int} {l m:List UInt8} (hx:[x0,x1,x2,x3,x4,x5,x6,x7,x8,x9,x10,x11,x12,x13,x14,x15]=bi l) (hy:[y0,y1,y2,y3,y4,y5,y6,y7,y8,y9,y10,y11,y12,y13,y14,y15]=bi m):
  ((x0==y0) && ((x1==y1) && ((x2==y2) && ((x3==y3) && ((x4==y4) && ((x5==y5) && ((x6==y6) && ((x7==y7) && ((x8==y8) && ((x9==y9) && ((x10==y10) && ((x11==y11) && ((x12==y12) && ((x13==y13) && ((x14==y14) && ((x15==y15) && true))))))))))))))))=decide (l=m):=by
 have h1:(l=m)↔([x0,x1,x2,x3,x4,x5,x6,x7,x8,x9,x10,x11,x12,x13,x14,x15]=[y0,y1,y2,y3,y4,y5,y6,y7,y8,y9,y10,y11,y12,y13,y14,y15]):=⟨fun h=>by rw [hx,hy,h],fun h=>acM (by rw [<- hx,<- hy,h])⟩
 have h2:decide (l=m)=decide ([x0,x1,x2,x3,x4,x5,x6,x7,x8,x9,x10,x11,x12,x13,x14,x15]=[y0,y1,y2,y3,y4,y5,y6,y7,y8,y9,y10,y11,y12,y13,y14,y15]):=decide_eq_decide.2 h1
 rw [h2]
 have ib:∀x y:Int,(x==y)=decide (x=y):=fun _ _=>rfl
 simp only [ib,List.cons.injEq,Bool.decide_and,and_true,decide_true,Bool.and_true]
def aa8 (l:List UInt8) (sw ad:Int):Bnd:=⟨sw,(yO l).pr,ad,(yO l).po,(yO l).pr,(yO l).ad,(yO l).ou,true⟩
def QZ (l:List UInt8):List UInt8:=(l.drop 8).take 16
def Vs (l:List UInt8):List UInt8:=(l.drop 24).take 12
def qm (l:List UInt8) (r e0 e31 e32:Int):PA:=⟨if r=0 then e0 else 30,(yO l).pr,(yO l).po,e31,e32⟩
inductive Nv (c:Cf) (v:SV) (sw ad:Int) (l:List UInt8):Int->List UInt8->SV->Prop
 |bad:jL l 1≠0->Nv c v sw ad l (jL l 1) [] v
 |far:jL l 1=0->QZ l≠mapped ad->Nv c v sw ad l (if Gi 12 ((v.now % 4294967296:Nat):Int) (qm l 12 0 (yO l).ou (yO l).ad) then 0 else 1) (if Gi 12 ((v.now % 4294967296:Nat):Int) (qm l 12 0 (yO l).ou (yO l).ad) then JU 12 ((v.now % 4294967296:Nat):Int) (Vs l) (qm l 12 0 (yO l).ou (yO l).ad) else []) v
 |ans {r e0 e31 e32:Int} {v':SV}:jL l 1=0->QZ l=mapped ad->DJ c v (aa8 l sw ad) (yO l).lf r e0 e31 e32 v'->Nv c v sw ad l (if Gi r ((v.now % 4294967296:Nat):Int) (qm l r e0 e31 e32) then 0 else 1) (if Gi r ((v.now % 4294967296:Nat):Int) (qm l r e0 e31 e32) then JU r ((v.now % 4294967296:Nat):Int) (Vs l) (qm l r e0 e31 e32) else []) v'
theorem aau {n:Nat} (h:n<2^62):wG .i64 (n:Int) 4294967295=((n % 4294967296:Nat):Int):=by
 obtain⟨h1,_⟩:=mask32 (a:=(n:Int)) (by unfold In64;omega)
 rw [h1];omega
theorem Vx (h:Srv w A c v) (g:Good c Z v []) (hnx:0<=v.nx/\v.nx<8192) (ht:v.tn<2^62) (hm:v.most<=4096) {sw ad:Int} (had:In64 ad) {s:b_} {l:List UInt8} (hs:rO w s l) (hl:l.length<=2^40) {K:b_->Int->World->Prop}
  (hK:∀s' e bs w' A' v',Out c Z w A v w' A' v'->Nv c v sw ad l e bs v'->Buf w' s' (bytesV bs)->(∀b,b_.at s' b->w.heap.size<=b/\¬jy A' v'.L b)->K s' e w'):
  kW (some ⟨A.s,0,none⟩) sw ad s w K:=by
 apply Fa
 have hnow:=h.wh.wi.nw
 have hwn:=g.wn
 have hep:=aau (n:=v.now) (by omega)
 refine qO (zh h) ?_
 rintro _ w0 ⟨rfl,hw0⟩
 subst hw0
 rw [Bool.not_true,cond_false]
 refine ZE hs hl fun d0 d1 d2 d3 d4 d5 d6 d7 d8 d9 d10 d11 d12 d13 d14 d15 d16 d17 d18 d19 d20 d21 d22 d23 d24 d25 d26 d27 d28 d29 d30 d31 d32 w1 f1 hp=> ?_
 refine fK fun a w2 r2 e2 z2 f2=> ?_
 refine fP r2 rfl rfl fun w3 r3 f3 z3=> ?_
 have x3:Ext w0 w3:=(f1.trans f2).new (f3 (·=a) rfl) fun y hy e=>by have:=f1.size;omega
 have haw:w0.heap.size<=a:=by have:=f1.size;omega
 have hnb:∀y,w0.heap.size<=y->¬jy A v.L y:=fun y hy ⟨k,hk⟩=>by have:=h.lt k y hk;omega
 by_cases he:jL l 1=0
 rotate_left
 ·have:(jL l 1 !=0)=true:=by rw [bne_iff_ne];exact he
  rw [this,cond_true]
  exact hK _ _ [] w3 A v (Out.same h g hnx x3) (Nv.bad he) Buf.nil fun b ⟨o,hb⟩=>by cases hb
 have:(jL l 1 !=0)=false:=by rw [bne_eq_false_iff_eq];exact he
 rw [this,cond_false]
 obtain⟨p0,pc,pn,p29,p30,p31,p32⟩:=hp he
 have hlen:l.length=60:=by
  unfold jL at he
  split at he
  ·omega
  split at he
  ·omega
  omega
 have c16:(QZ l).length=16:=by unfold QZ;rw [List.length_take,List.length_drop];omega
 have n12:(Vs l).length=12:=by unfold Vs;rw [List.length_take,List.length_drop];omega
 have answ:∀W A' v' r e0 e31 e32,Out c Z w0 A v W A' v'->Row W a (iK (qm l r e0 e31 e32).lf d1 d2 d3 d4 d5 d6 d7 d8 d9 d10 d11 d12 d13 d14 d15 d16 d17 d18 d19 d20 d21 d22 d23 d24 d25 d26 d27 d28 d29 d30 e31 e32)->(∀y,jy A' v'.L y->¬y=a)->v'.now=v.now->
   (Nv c v sw ad l (if Gi r ((v.now % 4294967296:Nat):Int) (qm l r e0 e31 e32) then 0 else 1) (if Gi r ((v.now % 4294967296:Nat):Int) (qm l r e0 e31 e32) then JU r ((v.now % 4294967296:Nat):Int) (Vs l) (qm l r e0 e31 e32) else []) v')->
   Pt (some ⟨A.s,0,none⟩) fun a50=>Ld (.int .i64) W.drew (a50.add 4) fun x51=>jF W.drew ⟨a,0,none⟩ fun x0 x1 x2 x3 x4 x5 x6 x7 x8 x9 x10 x11 x12 x13 x14 x15 x16 x17 x18 x19 x20 x21 x22 x23 x24 x25 x26 x27 x28 x29 x30 x31 x32=>rU r (wG .i64 x51 4294967295) x0 x1 x2 x3 x4 x5 x6 x7 x8 x9 x10 x11 x12 x13 x14 x15 x16 x17 x18 x19 x20 x21 x22 x23 x24 x25 x26 x27 x28 x29 x30 x31 x32 W.drew fun r85 r86 w87=>K r85 r86 w87:=by
  intro W A' v' r e0 e31 e32 ho hr hna hnw hsr
  have hA:A'.s=A.s:=ho.s
  have hd:=ho.srv.hd.drew
  rw [hA] at hd
  have hr:=hr.drew
  refine lu.2 (fM (k:= .int .i64) (i:=4) (x:=(v'.now:Int)) hd rfl ?_)
  simp only [sx,hr.cell]
  rw [hnw,hep]
  refine Qr (YV (no:=Vs l) n12 pn) ?_
  rintro s' e w9 ⟨f9,he9,b9,n9⟩
  have hpa:(⟨(qm l r e0 e31 e32).lf,d29,d30,e31,e32⟩:PA)=qm l r e0 e31 e32:=by
   rw [p29,p30];rfl
  rw [hpa] at he9 b9
  rw [<- he9] at hsr
  have xx:=(Ext.drew W).trans f9
  refine hK s' e _ w9 A' v' ⟨ho.srv.ext xx,ho.good,ho.fr.ext xx,ho.s,ho.x,ho.sub,ho.now,ho.most,ho.tn,ho.nx,ho.en⟩ hsr b9 fun y hy=> ?_
  have h1:=n9 y hy
  have h2:=ho.fr.size
  have h3:W.drew.heap.size=W.heap.size:=rfl
  refine⟨by omega,fun⟨k,hk⟩=> ?_⟩
  have:=ho.srv.lt k y hk
  omega
 intro J
 have hJ:∀W A' v' r e0 e31 e32,Out c Z w0 A v W A' v'->Row W a (iK e0 d1 d2 d3 d4 d5 d6 d7 d8 d9 d10 d11 d12 d13 d14 d15 d16 d17 d18 d19 d20 d21 d22 d23 d24 d25 d26 d27 d28 d29 d30 e31 e32)->(∀y,jy A' v'.L y->¬y=a)->v'.now=v.now->
   (Nv c v sw ad l (if Gi r ((v.now % 4294967296:Nat):Int) (qm l r e0 e31 e32) then 0 else 1) (if Gi r ((v.now % 4294967296:Nat):Int) (qm l r e0 e31 e32) then JU r ((v.now % 4294967296:Nat):Int) (Vs l) (qm l r e0 e31 e32) else []) v')->J r W:=by
  intro W A' v' r e0 e31 e32 ho hr hna hnw hsr
  simp -zeta only [J]
  intro J2
  have hJ2:∀W,Out c Z w0 A v W A' v'->Row W a (iK (qm l r e0 e31 e32).lf d1 d2 d3 d4 d5 d6 d7 d8 d9 d10 d11 d12 d13 d14 d15 d16 d17 d18 d19 d20 d21 d22 d23 d24 d25 d26 d27 d28 d29 d30 e31 e32)->J2 W:=fun W ho hr=>answ W A' v' r e0 e31 e32 ho hr hna hnw hsr
  clear_value J2
  by_cases hr0:r=0
  ·have:(r !=0)=false:=by rw [bne_eq_false_iff_eq];exact hr0
   rw [this,cond_false]
   have et:(qm l r e0 e31 e32).lf=e0:=by unfold qm;rw [if_pos hr0]
   refine hJ2 W ho ?_
   rw [et];exact hr
  ·have:(r !=0)=true:=by rw [bne_iff_ne];exact hr0
   rw [this,cond_true]
   have et:(qm l r e0 e31 e32).lf=30:=by unfold qm;rw [if_neg hr0]
   refine gu hr rfl (by simp) fun w9 r9 f9' z9=> ?_
   have f9:fD W w9 (·=a):=f9' _ rfl
   refine hJ2 w9 ⟨ho.srv.fr f9 fun k y hy e=>hna y ⟨k,hy⟩ e,ho.good,ho.fr.trans f9 fun y hy e=>by omega,ho.s,ho.x,ho.sub,ho.now,ho.most,ho.tn,ho.nx,ho.en⟩ ?_
   rw [et];exact r9
 clear_value J
 have r3d:=r3.drew
 have hcv:bytesV (QZ l)=iM d1 d2 d3 d4 d5 d6 d7 d8 d9 d10 d11 d12 d13 d14 d15 d16:=by rw [yX];unfold QZ;rw [<- pc];rfl
 refine Fj (o:=1) (m:=QZ l) (A:=[.int .i64 d0]) (C:=[.int .u8 d17,.int .u8 d18,.int .u8 d19,.int .u8 d20,.int .u8 d21,.int .u8 d22,.int .u8 d23,.int .u8 d24,.int .u8 d25,.int .u8 d26,.int .u8 d27,.int .u8 d28,.int .i64 d29,.int .i64 d30,.int .i64 d31,.int .i64 d32]) r3d (by rw [hcv];rfl) rfl c16 fun u0 u1 u2 u3 u4 u5 u6 u7 u8 u9 u10 u11 u12 u13 u14 u15 hx=> ?_
 have hxd:[u0,u1,u2,u3,u4,u5,u6,u7,u8,u9,u10,u11,u12,u13,u14,u15]=[d1,d2,d3,d4,d5,d6,d7,d8,d9,d10,d11,d12,d13,d14,d15,d16]:=hx.trans pc.symm
 simp only [List.cons.injEq,and_true] at hxd
 obtain⟨rfl,rfl,rfl,rfl,rfl,rfl,rfl,rfl,rfl,rfl,rfl,rfl,rfl,rfl,rfl,rfl⟩:=hxd
 refine J8 had fun q0 q1 q2 q3 q4 q5 q6 q7 q8 q9 q10 q11 q12 q13 q14 q15 w4 hy f4=> ?_
 have x4:=(x3.trans (Ext.drew w3)).trans f4
 have r4:=r3d.ext f4
 have hck:∀R:Prop,R->CkN (iM u0 u1 u2 u3 u4 u5 u6 u7 u8 u9 u10 u11 u12 u13 u14 u15) w4 (Addr.add ⟨a,0,none⟩ 1) 0 R:=by
  intro R hR
  simp only [sx,Bl,FT,r4.cell,true_and]
  exact hR
 refine hck _ ?_
 rw [Z_ (hx.trans (by rfl)) hy]
 by_cases hc:QZ l=mapped ad
 rotate_left
 ·rw [decide_eq_false hc,cond_false]
  have e:qm l 12 d0 d31 d32=qm l 12 0 (yO l).ou (yO l).ad:=by rw [p31,p32];rfl
  refine hJ w4 A v 12 d0 d31 d32 (Out.same h g hnx x4) r4 (fun y hy e=>hnb a haw (e ▸ hy)) rfl ?_
  rw [e]
  exact Nv.far he hc
 rw [decide_eq_true hc,cond_true]
 simp only [sx,r4.cell]
 refine acH (h.ext x4) g hnx ht hm (by have:=PM.ab1 l 4;omega) fun r e0 e31 e32 w5 A' v' ho hask=> ?_
 have ho':Out c Z w0 A v w5 A' v':=⟨ho.srv,ho.good,x4.fr ho.fr,ho.s,ho.x,fun y hy=>(ho.sub y hy).imp_right fun h=>by have:=x4.size;omega,ho.now,ho.most,ho.tn,ho.nx,ho.en⟩
 have r5:=r4.fr ho.fr (hnb a haw)
 refine fP r5 rfl rfl fun w6 r6 f6' z6=> ?_
 have f6:fD w5 w6 (·=a):=f6' _ rfl
 have hna:∀y,jy A' v'.L y->¬y=a:=fun y hy e=>by
  subst e
  rcases ho.sub _ hy with h|h
  ·exact hnb y haw h
  ·have:=r4.lt;omega
 refine hJ w6 A' v' r e0 e31 e32 ⟨ho'.srv.fr f6 fun k y hy e=>hna y ⟨k,hy⟩ e,ho'.good,ho'.fr.trans f6 fun y hy e=>by omega,ho'.s,ho'.x,ho'.sub,ho'.now,ho'.most,ho'.tn,ho'.nx,ho'.en⟩ r6 hna ho.now (Nv.ans he hc ?_)
 have eb:aa8 l sw ad=⟨sw,d29,ad,d30,d29,d32,d31,true⟩:=by rw [p29,p30,p31,p32];rfl
 have e0':(yO l).lf=d0:=p0.symm
 rw [eb,e0']
 exact hask
end Go.Proofs.PS
end
