import Derived.Test.YtfndjkoiappemaaGreatW10
open List (getElem?_map length_drop length_map length_take map_cons mem_cons mem_cons_self mem_map take_of_length_le)
open Option (map_some)
set_option maxRecDepth 100000
set_option maxHeartbeats 2000000
section
namespace Go.Proofs.PM
open Gp Gp.V4 Go.Proofs Go.Proofs.CN
open Gp.Bind (In64)
theorem aaL {α:Type} {l:List α} {i:Nat} (h:i<l.length):l.take (i+1)=l.take i++[l[i]]:=by rw[List.take_succ_eq_append_getElem h]
theorem aiu {w:World} {s t:iq} {l m:List UInt8} (hs:qy w s l) (ht:qy w t m) (hl:l.length<=2^40):lC s t w λr w'=>r=decide (l=m)/\Ext w w':=by
 apply EM;have h1:=hs.1;have h2:=ht.1;by_cases hn:l.length=m.length;rotate_left
 ·have:((s.len:Int) !=(t.len:Int))=true:=by rw[bne_iff_ne];omega
  rw[this,cond_true];exact⟨(decide_eq_false λh=>hn (by rw[h])).symm,Ext.refl _⟩
 have:((s.len:Int) !=(t.len:Int))=false:=by rw[bne_eq_false_iff_eq];omega
 rw[this,cond_false];refine iE (λst W=>∃j:Nat,j<=l.length/\st.1=(j:Int)/\Ext w W/\l.take j=m.take j) (λst _=>l.length - st.1.toNat) ⟨0,by omega,rfl,Ext.refl _,by simp⟩ ?_;rintro⟨i,⟨⟩⟩ W ⟨j,hj,hi,hx,he⟩ next u
 simp only at hi;subst hi;by_cases I:(j:Int)<(s.len:Int)
 ·simp only[I,decide_true,cond_true];have xd:=hx.trans (Ext.drew W);refine byte_at (hs.ext xd) (i:=j) (by omega) λa ca _=> ?_;simp only[sx,ca];refine byte_at (ht.ext xd) (i:=j) (by omega) λb cb _=> ?_;simp only[sx,cb];by_cases hb:l[j]=m[j]
  ·have:(((l[j].toNat:Nat):Int) !=((m[j].toNat:Nat):Int))=false:=by rw[bne_eq_false_iff_eq,hb]
   rw[this,cond_false,wrap_i64 (by omega) (by omega)];exact u _ _ ⟨j+1,by omega,by simp,xd,by rw[aaL (by omega),aaL (by omega),he,hb]⟩ (by simp only;omega)
  ·have:(((l[j].toNat:Nat):Int) !=((m[j].toNat:Nat):Int))=true:=by
    rw[bne_iff_ne];intro h;exact hb (UInt8.toNat_inj.1 (by omega))
   rw[this,cond_true];exact⟨(decide_eq_false λh=>hb (by subst h;rfl)).symm,xd⟩
 ·simp only[I,decide_false,cond_false];rw[take_of_length_le (by omega),take_of_length_le (by omega)] at he;exact⟨(decide_eq_true he).symm,hx⟩
def pre:List UInt8:=[0,0,0,0,0,0,0,0,0,0,255,255]
theorem Zu {b o:Nat} {K:iq->Prop} (h:K ⟨some ⟨b,o,none⟩,12,16⟩):uP ⟨b,o,none⟩ 16 1 0 12 K:=by
 refine⟨by omega,by omega,by omega,?_⟩;rw[if_neg (by decide)];exact h
theorem afV {w:World} {m:List UInt8} {a0 a1 a2 a3 a4 a5 a6 a7 a8 a9 u I a12 J N O:Int} (hm:m.length=16) (ha:[a0,a1,a2,a3,a4,a5,a6,a7,a8,a9,u,I,a12,J,N,O]=bi m) {K:Int->Bool->b_}
  (h:∀n w',Ext w w'->(m.take 12=pre->n=(num m 12 4:Int))->K n (decide (m.take 12=pre)) w'):Je a0 a1 a2 a3 a4 a5 a6 a7 a8 a9 u I a12 J N O w K:=by
 apply YV;refine iI λb w1 r1 e1 z1 f1=> ?_;refine XI λw2 f2=> ?_;refine iI λc w3 r3 e3 z3 f3=> ?_;refine iJ r3 rfl rfl λw4 r4 f4 z4=> ?_;have x4:Ext w1 w4:=(f2.trans f3).new (f4 (·=c) rfl) λy hy e=>by have:=f2.size;omega
 refine Zu (Zu ?_);have xd:=x4.trans (Ext.drew w4);have hL:bytesV m=jH a0 a1 a2 a3 a4 a5 a6 a7 a8 a9 u I a12 J N O:=by rw[uH,<- ha];rfl
 have hA:∀W,Ext w1 W->qy W ⟨some ⟨b,0,none⟩,16,16⟩ m:=λW hx=>EP (o:=0) (r1.ext hx) (A:=[]) (C:=[]) (by rw[hL];rfl) rfl hm.symm;have hs:qy w4.drew ⟨some ⟨b,0,none⟩,12,16⟩ (m.take 12):=by
  have:=hA _ xd;refine⟨by simp[hm],?_,by simp⟩;have:=OZ this (n:=12) (by omega);simpa using this
 have ht:qy w4.drew ⟨some ⟨c,0,none⟩,12,16⟩ pre:=by
  have:qy w4.drew ⟨some ⟨c,0,none⟩,16,16⟩ (pre++[0,0,0,0]):=EP (o:=0) r4.drew (A:=[]) (C:=[]) rfl rfl rfl;refine⟨rfl,?_,by simp⟩;have:=OZ this (n:=12) (by decide);simpa [pre] using this
 refine EF (aiu hs ht (by simp;omega)) ?_;rintro _ w5 ⟨rfl,f5⟩;have x5:=xd.trans f5;by_cases hp:m.take 12=pre;rotate_left
 ·rw[decide_eq_false hp,Bool.not_false,cond_true];have:=h 0 w5 (f1.trans x5) λhe=>absurd he hp;rw[decide_eq_false hp] at this;exact this
 rw[decide_eq_true hp,Bool.not_true,cond_false];refine F9 ?_;refine QF (abx (hA _ x5) (by omega) 12 4) ?_;rintro n e w6 ⟨rfl,hg⟩;have hn:=TV (at_:=12) (k:=4) (by omega) (by omega) hg;have he:e=0:=by
  unfold Tj at hg;rw[if_neg (by unfold sizeOk;omega),if_neg (by omega)] at hg;exact hg.1
 subst he;have:=h n _ (f1.trans x5) λ_=>hn;rw[decide_eq_true hp] at this;exact this
theorem aju {l:List UInt8} (h:l.length=12):∃x0 x1 x2 x3 x4 x5 x6 x7 x8 x9 u I:Int,bi l=[x0,x1,x2,x3,x4,x5,x6,x7,x8,x9,u,I]:=by
 obtain⟨x0,x1,x2,x3,x4,x5,x6,x7,x8,x9,u,I,J,N,O,R,hb,hv⟩:=ag1 (l:=l++[0,0,0,0]) (by simp[h]);refine⟨x0,x1,x2,x3,x4,x5,x6,x7,x8,x9,u,I,?_⟩;have h1:bi l++[0,0,0,0]=[x0,x1,x2,x3,x4,x5,x6,x7,x8,x9,u,I]++[J,N,O,R]:=by
  have:bi (l++[0,0,0,0])=bi l++[0,0,0,0]:=by unfold bi;rw[List.map_append];rfl
  rw[<- this,hb];rfl
 exact(List.append_inj h1 (by simp[bi,h])).1
def jT (l:List UInt8) (k:Int):Int:=
 if l.length<60 then 3 else if 60<l.length then 6 else if ¬((num l 0 1:Int)=2/\(num l 1 1:Int)=k/\(l.drop 44).take 12=pre) then 4 else 0
def Bc (l:List UInt8):PA:=⟨(num l 4 4:Int),(num l 36 1:Int),(num l 40 2:Int),(num l 42 2:Int),(num l 56 4:Int)⟩
def agI (l:List UInt8) (d0:Int) (c n:List Int) (d29 d30 d31 d32:Int):Prop:=d0=(num l 4 4:Int)/\c=bi ((l.drop 8).take 16)/\n=bi ((l.drop 24).take 12)/\d29=(num l 36 1:Int)/\d30=(num l 40 2:Int)/\d31=(num l 42 2:Int)/\d32=(num l 56 4:Int)
theorem PZ {W:World} {a:Nat} {s:iq} {l:List UInt8} (hr:Row W a [.slice s.a s.len s.cap]) (hs:qy W s l) (hl:l.length<=2^40) {at_ k:Nat} (hk:1<=k/\k<=4) (h:at_+k<=l.length) {K:Value->b_} (hK:K (.int .i64 (num l at_ k:Int)) W):
  lJ Tryz.prog [.one (.int .i64)] (Value.func (.func YM) #[] #[(Value.pointer (some ⟨a,0,none⟩))]) [(Value.int .i64 (at_:Int)),(Value.int .i64 (k:Int))] W K:=by
 refine qj (by kernel_rfl) ?_;refine Calls.mono (WQ (a0:=(at_:Int)) (a1:=(k:Int)) (f0:=⟨a,0,none⟩) (w:=W) (K:=λr W'=>r=(num l at_ k:Int)/\W'=W) ?_) ?_
 ·simp only[sx,hr.cell];refine QF (abx hs (by omega) _ _) ?_;rintro n e w' ⟨rfl,hg⟩;exact⟨TV hk h hg,rfl⟩
 ·rintro e W' ⟨r,he,rfl,rfl⟩;exact⟨_,he,hK⟩
theorem acW {w:World} {s:iq} {l:List UInt8} {k:Int} (hs:qy w s l) (hl:l.length<=2^40) {K:Int->Int->Int->Int->Int->Int->Int->Int->Int->Int->Int->Int->Int->Int->Int->Int->Int->Int->Int->Int->Int->Int->Int->Int->Int->Int->Int->Int->Int->Int->Int->Int->Int->Int->b_}
  (h:∀d0 d1 d2 d3 d4 d5 d6 d7 d8 d9 d10 d11 d12 d13 d14 d15 d16 d17 d18 d19 d20 d21 d22 d23 d24 d25 d26 d27 d28 d29 d30 d31 d32 w',Ext w w'->(jT l k=0->agI l d0 [d1,d2,d3,d4,d5,d6,d7,d8,d9,d10,d11,d12,d13,d14,d15,d16] [d17,d18,d19,d20,d21,d22,d23,d24,d25,d26,d27,d28] d29 d30 d31 d32)->K d0 d1 d2 d3 d4 d5 d6 d7 d8 d9 d10 d11 d12 d13 d14 d15 d16 d17 d18 d19 d20 d21 d22 d23 d24 d25 d26 d27 d28 d29 d30 d31 d32 (jT l k) w'):Hq s k w K:=by
 apply aar;have hlen:=hs.1;refine⟨rfl,?_⟩;refine iI λa w1 r1 e1 z1 f1=> ?_;refine iI λb w2 r2 e2 z2 f2=> ?_;have r1':=r1.ext f2;have x2:=f1.trans f2;have fail:∀W,Ext w2 W->∀(e:Int),e=jT l k->e≠0->lM (iU 0 0 0 0 0 0 0 0 0 0 0 0 0 0 0 0 0 0 0 0 0 0 0 0 0 0 0 0 0 0 0 0 0) W ⟨b,0,none⟩ 0 λw8=>jD w8 ⟨b,0,none⟩ λy0 y1 y2 y3 y4 y5 y6 y7 y8 y9 ai aj ak al am an ao aq ar au av aw ax ay az aA aB aC aD aE aF aG aH=>K y0 y1 y2 y3 y4 y5 y6 y7 y8 y9 ai aj ak al am an ao aq ar au av aw ax ay az aA aB aC aD aE aF aG aH e w8:=by
  intro W hx e he aI;refine iJ (r2.ext hx) rfl rfl λw3 r3 f3 z3=> ?_;simp only[sx,r3.cell];subst he;exact h 0 0 0 0 0 0 0 0 0 0 0 0 0 0 0 0 0 0 0 0 0 0 0 0 0 0 0 0 0 0 0 0 0 w3 ((x2.trans hx).new (f3 (·=b) rfl) λy hy e=>by have:=f1.size;omega) λh0=>absurd h0 aI
 refine iC (k:= .slice) (x:=s) r1' rfl ?_;by_cases I:l.length<60
 ·have e:jT l k=3:=by unfold jT;rw[if_pos I]
  have:((s.len:Int)<60):=by omega
  rw[decide_eq_true this,cond_true];exact fail w2 (Ext.refl _) 3 e.symm (by decide)
 have:¬((s.len:Int)<60):=by omega
 rw[decide_eq_false this,cond_false];refine iC (k:= .slice) (x:=s) r1' rfl ?_;by_cases N:60<l.length
 ·have e:jT l k=6:=by unfold jT;rw[if_neg I,if_pos N]
  have:((s.len:Int)>60):=by omega
  rw[decide_eq_true this,cond_true];exact fail w2 (Ext.refl _) 6 e.symm (by decide)
 have:¬((s.len:Int)>60):=by omega
 rw[decide_eq_false this,cond_false];have hl60:l.length=60:=by omega
 intro J;have aa:¬((num l 0 1:Int)=2/\(num l 1 1:Int)=k)->J true:=by
  intro hn;simp only[J,cond_true];exact fail w2 (Ext.refl _) 4 (by unfold jT;rw[if_neg I,if_neg N,if_pos λhc=>hn ⟨hc.1,hc.2.1⟩]) (by decide)
 have aJ:(num l 0 1:Int)=2->(num l 1 1:Int)=k->J false:=by
  intro hv hk;simp only[J,cond_false];refine iI λc w3 r3 e3 z3 f3=> ?_;refine F9 ?_;have x3:=f3.trans (Ext.drew w3);have r1'':=r1'.ext x3;refine iC (k:= .slice) (x:=s) r1'' rfl ?_;refine I8 ((hs.ext x2).ext x3) (by omega) (by omega) (by omega) λs4 hs4 _=> ?_;rw[Int.toNat_natCast,hlen,take_of_length_le (Nat.le_refl _)] at hs4;have hs4:qy w3.drew s4 (l.drop 44):=hs4;have ls4:=hs4.1;rw[length_drop] at ls4;have O:((l.drop 44).take 16).length=16:=by rw[length_take,length_drop];omega
  refine G8 (m:=16) (vs:=bytesV ((l.drop 44).take 16)) (by show min (_:Nat) _=_;omega) (OZ hs4 (by rw[length_drop];omega)) r3.drew (by rw[jg,O];simp) (Aw _) λw4 r4 f4=> ?_;have x4:Ext w2 w4:=x3.new f4 λy hy e=>by omega
  refine BD (A:=[]) (C:=[]) (m:=(l.drop 44).take 16) r4 ?_ rfl O λp0 p1 p2 p3 p4 p5 p6 p7 p8 p9 p10 p11 p12 p13 p14 p15 hp=> ?_
  ·unfold spl;rw[jg,O];simp
  refine afV O hp λn w5 f5 hn=> ?_;have x5:=x4.trans f5;have ht:((l.drop 44).take 16).take 12=(l.drop 44).take 12:=by rw[List.take_take];rfl
  have R:num ((l.drop 44).take 16) 12 4=num l 56 4:=by
   unfold num;rw[List.drop_take,List.drop_drop,List.take_take];rfl
  rw[ht,R] at hn;rw[ht];by_cases u:(l.drop 44).take 12=pre;rotate_left
  ·rw[decide_eq_false u,Bool.not_false,cond_true];exact fail w5 x5 4 (by unfold jT;rw[if_neg I,if_neg N,if_pos λhc=>u hc.2.2]) (by decide)
  rw[decide_eq_true u,Bool.not_true,cond_false];obtain rfl:=hn u;have hs5:=(hs.ext x2).ext x5;have r5:=r1'.ext x5;refine PZ (at_:=4) (k:=4) r5 hs5 hl (by omega) (by omega) ⟨_,rfl,?_⟩;refine PZ (at_:=36) (k:=1) r5 hs5 hl (by omega) (by omega) ⟨_,rfl,?_⟩;refine PZ (at_:=40) (k:=2) r5 hs5 hl (by omega) (by omega) ⟨_,rfl,?_⟩;refine PZ (at_:=42) (k:=2) r5 hs5 hl (by omega) (by omega) ⟨_,rfl,?_⟩;refine iI λd w6 r6 e6 z6 f6=> ?_;refine iJ r6 rfl rfl λw7 r7 f7 z7=> ?_;have f7:=f7 (·=d) rfl;have x7:Ext w2 w7.drew:=((x5.trans f6).new f7 λy hy e=>by have:=x5.size;omega).trans (Ext.drew w7);rw[kK];refine F9 ?_;refine iC (k:= .slice) (x:=s) (r1'.ext x7) rfl ?_;refine I8 ((hs.ext x2).ext x7) (by omega) (by omega) (by omega) λs8 hs8 _=> ?_;rw[Int.toNat_natCast,hlen,take_of_length_le (Nat.le_refl _)] at hs8;have hs8:qy w7.drew s8 (l.drop 8):=hs8;have ls8:=hs8.1;rw[length_drop] at ls8;have c16:((l.drop 8).take 16).length=16:=by rw[length_take,length_drop];omega
  refine G8 (m:=16) (vs:=bytesV ((l.drop 8).take 16)) (by show min (_:Nat) _=_;omega) (OZ hs8 (by rw[length_drop];omega)) r7.drew (by rw[jg,c16];simp) (Aw _) λw8 r8 f8=> ?_;have x8:Ext w2 w8.drew:=(x7.new f8 λy hy e=>by have:=x5.size;omega).trans (Ext.drew w8);rw[kK];refine Nw (n:=12) (by decide) ?_;refine iC (k:= .slice) (x:=s) (r1'.ext x8) rfl ?_;refine I8 ((hs.ext x2).ext x8) (by omega) (by omega) (by omega) λs9 hs9 _=> ?_;rw[Int.toNat_natCast,hlen,take_of_length_le (Nat.le_refl _)] at hs9;have hs9:qy w8.drew s9 (l.drop 24):=hs9;have ls9:=hs9.1;rw[length_drop] at ls9;have n12:((l.drop 24).take 12).length=12:=by rw[length_take,length_drop];omega
  refine G8 (m:=12) (vs:=bytesV ((l.drop 24).take 12)) (by show min (_:Nat) _=_;omega) (OZ hs9 (by rw[length_drop];omega)) r8.drew (by unfold spl;simp[jg,n12,c16]) (Aw _) λw9 r9 f9=> ?_;have x9:Ext w2 w9:=x8.new f9 λy hy e=>by have:=x5.size;omega
  obtain⟨c0,c1,c2,c3,c4,c5,c6,c7,c8,c9,ab,ac,ae,af,ag,ah,hc,aK⟩:=ag1 c16;obtain⟨q0,q1,q2,q3,q4,q5,q6,q7,q8,q9,U,Y,hq⟩:=aju n12;have aL:bytesV ((l.drop 24).take 12)=(([q0,q1,q2,q3,q4,q5,q6,q7,q8,q9,U,Y]:List Int).map λn=>Value.int .u8 n):=by rw[uH,hq]
  rw[aK,aL] at r9;have r9:Row w9 d (iU (num l 4 4:Int) c0 c1 c2 c3 c4 c5 c6 c7 c8 c9 ab ac ae af ag ah q0 q1 q2 q3 q4 q5 q6 q7 q8 q9 U Y (num l 36 1:Int) (num l 40 2:Int) (num l 42 2:Int) (num l 56 4:Int)):=r9;simp only[sx,r9.cell];refine iJ (r2.ext x9) rfl rfl λaM aN f10 z10=> ?_;simp only[sx,aN.cell];have e:jT l k=0:=by unfold jT;rw[if_neg I,if_neg N,if_neg λhn=>hn ⟨hv,hk,u⟩]
  rw[<- e];exact h _ c0 c1 c2 c3 c4 c5 c6 c7 c8 c9 ab ac ae af ag ah q0 q1 q2 q3 q4 q5 q6 q7 q8 q9 U Y _ _ _ _ aM ((x2.trans x9).new (f10 (·=b) rfl) λy hy e=>by have:=f1.size;omega) λ_=>⟨rfl,hc.symm,hq.symm,rfl,rfl,rfl,rfl⟩
 clear_value J;refine iC (k:= .slice) (x:=s) r1' rfl ?_;refine byte_at (hs.ext x2) (i:=0) (by omega) λa0 c0 _=> ?_;simp only[sx,c0];have n0:=Lp (l:=l) (i:=0) (by omega);have n1:=Lp (l:=l) (i:=1) (by omega);rw[<- n0];by_cases h2:(num l 0 1:Int)=2;rotate_left
 ·have:((num l 0 1:Int) !=2)=true:=by rw[bne_iff_ne];exact h2
  rw[this,cond_true];exact aa λhc=>h2 hc.1
 have:((num l 0 1:Int) !=2)=false:=by rw[bne_eq_false_iff_eq];exact h2
 rw[this,cond_false];simp only[r1'.cell,List.getElem?_cons_zero,iy,iL];refine byte_at (hs.ext x2) (i:=1) (by omega) λa1 c1 _=> ?_;simp only[sx,c1];rw[<- n1];by_cases hk:(num l 1 1:Int)=k
 ·have:((num l 1 1:Int) !=k)=false:=by rw[bne_eq_false_iff_eq];exact hk
  rw[this];exact aJ h2 hk
 ·have:((num l 1 1:Int) !=k)=true:=by rw[bne_iff_ne];exact hk
  rw[this];exact aa λhc=>hk hc.2
theorem afT {w:World} {s:iq} {l:List UInt8} (hs:qy w s l) (hl:l.length<=2^40) {K:Int->Int->Int->Int->Int->Int->Int->Int->Int->Int->Int->Int->Int->Int->Int->Int->Int->Int->Int->Int->Int->Int->Int->Int->Int->Int->Int->Int->Int->Int->Int->Int->Int->Int->b_}
  (h:∀d0 d1 d2 d3 d4 d5 d6 d7 d8 d9 d10 d11 d12 d13 d14 d15 d16 d17 d18 d19 d20 d21 d22 d23 d24 d25 d26 d27 d28 d29 d30 d31 d32 w',Ext w w'->(jT l 1=0->agI l d0 [d1,d2,d3,d4,d5,d6,d7,d8,d9,d10,d11,d12,d13,d14,d15,d16] [d17,d18,d19,d20,d21,d22,d23,d24,d25,d26,d27,d28] d29 d30 d31 d32)->K d0 d1 d2 d3 d4 d5 d6 d7 d8 d9 d10 d11 d12 d13 d14 d15 d16 d17 d18 d19 d20 d21 d22 d23 d24 d25 d26 d27 d28 d29 d30 d31 d32 (jT l 1) w'):Jd s w K:=by
 apply YU;refine iI λa w1 r1 e1 z1 f1=> ?_;refine acW (hs.ext f1) hl λd0 d1 d2 d3 d4 d5 d6 d7 d8 d9 d10 d11 d12 d13 d14 d15 d16 d17 d18 d19 d20 d21 d22 d23 d24 d25 d26 d27 d28 d29 d30 d31 d32 w2 f2 hp=> ?_;refine iJ (r1.ext f2) rfl rfl λw3 r3 f3 z3=> ?_;simp only[sx,r3.cell];exact h d0 d1 d2 d3 d4 d5 d6 d7 d8 d9 d10 d11 d12 d13 d14 d15 d16 d17 d18 d19 d20 d21 d22 d23 d24 d25 d26 d27 d28 d29 d30 d31 d32 w3 ((f1.trans f2).new (f3 (·=a) rfl) λy hy e=>by omega) hp
theorem acQ (l:List UInt8) (i:Nat):num l i 4<4294967296:=by have:=aiM (l:=l) (at_:=i) (k:=4) (by omega);omega
end Go.Proofs.PM
end
section
namespace Go.Proofs.PS
open Gp Go.Proofs Go.Proofs.EN
open Gp.Bind (Bnd Slots live GoodB freeN getS In64)
open Gp.Wh (Tm)
variable {w w':World} {A:SA} {c:Cf} {Z:Bnd->Prop} {v:SV}
theorem len_eq {α β γ:Type} {l:List α} {m:List β} {f:α->γ} {g:β->γ} (h1:(l.map f).Nodup) (h2:(m.map g).Nodup) (h:∀k,k∈l.map f↔k∈m.map g):l.length=m.length:=by
 have:=((List.perm_ext_iff_of_nodup h1 h2).2 h).length_eq
 rwa [length_map,length_map] at this
theorem Dv {α β γ:Type} {l:List α} {f:α->β} {g:α->γ} (h:(l.map f).Nodup) (hi:∀x∈l,∀y∈l,g x=g y->x=y):(l.map g).Nodup:=by
 induction l with
 |nil=>simp
 |cons x l ih=>
  rw[map_cons,List.nodup_cons] at h ⊢;refine⟨λhm=> ?_,ih h.2 λa ha b hb=>hi a (List.mem_cons_of_mem _ ha) b (List.mem_cons_of_mem _ hb)⟩;obtain⟨y,hy,he⟩:=List.mem_map.1 hm;have:=hi y (List.mem_cons_of_mem _ hy) x mem_cons_self he;subst this;exact h.1 (List.mem_map.2 ⟨y,hy,rfl⟩)
theorem afK {α β:Type} [DecidableEq α] {l:List (α×β)} (k:α):k∈l.map (·.1)↔(kT l k).isSome=true:=by
 constructor
 ·intro h
  cases hc:kT l k with
  |some v=>rfl
  |none=>exact absurd h (wK.1 hc)
 ·intro h;refine Classical.byContradiction λhn=> ?_;rw[wK.2 hn] at h
  cases h
theorem Good.akk {P:List Int} (g:Good c Z v P) (h:Srv w A c v):v.LI.length=v.L.length:=by
 refine len_eq (f:=(·.1)) (g:=iR.k) h.nI (Dv h.bn g.kk) λk=> ?_;rw[afK,mem_map];constructor
 ·intro hs;obtain⟨n,hn⟩:=Option.isSome_iff_exists.1 hs;obtain⟨x,hx,h1,_⟩:=(g.li k n).1 hn;exact⟨x,hx,h1⟩
 ·rintro⟨x,hx,h1⟩;rw[(g.li k x.blk).2 ⟨x,hx,h1,rfl⟩];rfl
theorem Good.akl (g:Good c Z v []) (h:Srv w A c v):v.l.length=v.L.length:=by
 refine len_eq (f:=(·.1)) (g:=iR.id) h.wh.wm.nd (Dv h.bn g.ii) λk=> ?_;rw[afK,mem_map,g.wl];constructor
 ·rintro⟨x,hx,h1,_⟩;exact⟨x,hx,h1⟩
 ·rintro⟨x,hx,h1⟩;exact⟨x,hx,h1,by simp⟩
structure Out (c:Cf) (Z:Bnd->Prop) (w:World) (A:SA) (v:SV) (w':World) (A':SA) (v':SV):Prop where
 srv:Srv w' A' c v'
 good:Good c Z v' []
 fr:iG w w' (jS A v.L)
 s:A'.s=A.s
 x:A'.a.x=A.a.x
 sub:∀b,jS A' v'.L b->jS A v.L b\/w.heap.size<=b
 now:v'.now=v.now
 most:v'.most=v.most
 tn:v'.tn<=v.tn+1
 nx:0<=v'.nx/\v'.nx<8192
 en:v'.e.now=v.e.now
 el:v'.e.l=v.e.l
theorem Out.same (h:Srv w A c v) (g:Good c Z v []) (hn:0<=v.nx/\v.nx<8192) (hx:Ext w w'):Out c Z w A v w' A v:=
 ⟨h.ext hx,g,hx _,rfl,rfl,λ_ hb=> .inl hb,rfl,rfl,by omega,hn,rfl,rfl⟩
theorem TY {A A':SA} {L L':List iR} {n:Nat} (h0:A'.s=A.s) (h1:A'.a=A.a) (h3:A'.ml=A.ml) (h4:A'.mi=A.mi) (h5:∀b,b∈L'.map (·.blk)->b∈L.map (·.blk)\/n<=b)
  (h2:∀b,WN.pz A'.d A'.m A'.ss b->WN.pz A.d A.m A.ss b\/n<=b):∀b,jS A' L' b->jS A L b\/n<=b:=by
 rintro b ⟨k,hk⟩
 match k,hk with
 |0,ho=>exact .inl ⟨0,(show b=A'.s from ho).trans h0⟩
 |1,ho=>exact .inl ⟨1,(show GU A.a b from by rw[<- h1];exact ho)⟩
 |2,ho=>exact(h2 b ho).imp_left λh=>⟨2,h⟩
 |3,ho=>exact .inl ⟨3,(show b=A'.ml from ho).trans h3⟩
 |4,ho=>exact .inl ⟨4,(show b=A'.mi from ho).trans h4⟩
 |5,⟨x,hx,e⟩=>
  refine(h5 b (List.mem_map.2 ⟨x,hx,e⟩)).imp_left λh=> ?_;obtain⟨y,hy,e⟩:=List.mem_map.1 h;exact⟨5,y,hy,e⟩
 |(n+6),ho=>exact ho.elim
theorem af6 (h:Srv w A c v) (g:Good c Z v []) (O:0<=v.nx/\v.nx<8192) (ht:v.tn<2^62) {x:iR} (hx:x∈v.L) {o0 o1 o2 d0 d1 d2 d3 d4 d5 d6 d7 d8 d9 d10 d11 d12 d13 d14 d15 d16 d17 d18 d19 d20 d21 d22 d23 d24 d25 d26 d27 d28 d29 d30 d31 d32:Int} (hl:0<d0/\d0<4294967296) {K:Int->Int->Int->Int->Int->Int->Int->Int->Int->Int->Int->Int->Int->Int->Int->Int->Int->Int->Int->Int->Int->Int->Int->Int->Int->Int->Int->Int->Int->Int->Int->Int->Int->Int->b_}
  (h1:(o1≠0\/o2≠0)->¬(o0=x.b.opr/\o1=x.b.oad/\o2=x.b.opo)->∀w',Ext w w'->K 11 d0 d1 d2 d3 d4 d5 d6 d7 d8 d9 d10 d11 d12 d13 d14 d15 d16 d17 d18 d19 d20 d21 d22 d23 d24 d25 d26 d27 d28 d29 d30 d31 d32 w')
  (h2:¬((o1≠0\/o2≠0)/\¬(o0=x.b.opr/\o1=x.b.oad/\o2=x.b.opo))->∀w' A' v',Out c Z w A v w' A' v'->v'.L=GX x.blk (v.now+min d0 86400) v.L->v'.e=v.e->K 0 (min d0 86400) d1 d2 d3 d4 d5 d6 d7 d8 d9 d10 d11 d12 d13 d14 d15 d16 d17 d18 d19 d20 d21 d22 d23 d24 d25 d26 d27 d28 d29 d30 x.b.opo x.b.oad w'):
  wZ (some ⟨A.s,0,none⟩) (some ⟨x.blk,0,none⟩) o0 o1 o2 d0 d1 d2 d3 d4 d5 d6 d7 d8 d9 d10 d11 d12 d13 d14 d15 d16 d17 d18 d19 d20 d21 d22 d23 d24 d25 d26 d27 d28 d29 d30 d31 d32 w K:=by
 apply Kt;refine iI λa w1 r1 e1 z1 f1=> ?_;refine iI λb w2 r2 e2 z2 f2=> ?_;refine iI λt w3 r3 e3 z3 f3=> ?_;have x3:=(f1.trans f2).trans f3;have r1:=(r1.ext f2).ext f3;have r2:=r2.ext f3;have hS:=h.ext x3;have rx:=hS.rw x hx;have hle:∀k y,own A v.L k y->y<w.heap.size:=h.lt;have hxb:x.blk<w.heap.size:=h.lt 5 _ ⟨x,hx,rfl⟩;have q1:=f1.size;have q2:=f2.size;have q3:=f3.size;intro J;have hJ:∀q:Bool,(q=true↔(o1≠0\/o2≠0))->J q:=by
  intro q hq;simp -zeta only[J];intro J2;have R:∀W,Ext w3 W->(o1≠0\/o2≠0)->¬(o0=x.b.opr/\o1=x.b.oad/\o2=x.b.opo)->J2 true W:=by
   intro W hW c1 c2;simp only[J2,cond_true];have r2W:=(r2.ext hW).drew;simp only[sx,r2W.cell];refine iJ ((r3.ext hW).drew) rfl rfl λw4 r4 f4 z4=> ?_;simp only[sx,r4.cell];exact h1 c1 c2 w4 (((x3.trans hW).trans (Ext.drew W)).new (f4 (·=t) rfl) λy hy e=>by omega)
  have N:∀W,Ext w3 W->¬((o1≠0\/o2≠0)/\¬(o0=x.b.opr/\o1=x.b.oad/\o2=x.b.opo))->J2 false W:=by
   intro W hW hc;simp only[J2,cond_false];have r2W:=r2.ext hW;simp only[sx,r2W.cell];refine iK r2W rfl (by simp) λw4 r4 f4' z4=> ?_;have f4:iG W w4 (·=b):=f4' _ rfl;simp only[List.set_cons_zero] at r4;have x4:Ext w w4:=(x3.trans hW).new f4 λy hy e=>by omega
   simp only[sx,r4.cell];have I:(if (86400:Int)<d0 then 86400 else d0)=min d0 86400:=by omega
   rw[I] at r4 ⊢;have g1:(kT v.l x.id)≠none:=by
    have:=(g.wl x.id).2 ⟨x,hx,rfl,by simp⟩;intro hn;rw[hn] at this;cases this
   have hir:=g.ir x hx;refine C_ (acK (h.ext x4) hx (life:=min d0 86400) (by omega) (by omega) (by omega) (.inl g1) ht g.wn) ?_;rintro w5 ⟨f5,ss,F,U,hS5⟩;have rx5:=hS5.rw ({x with un:=v.now+min d0 86400}:iR) (yA.2 ⟨x,hx,by rw[if_pos rfl]⟩);have rx5:=rx5.drew;simp only[iR.v] at rx5;simp only[sx,rx5.cell];have u:∀y,w.heap.size<=y->¬jS A v.L y:=λy hy ⟨k,hk⟩=>by have:=h.lt k y hk;omega
   have r5:=(r4.fr f5 (u _ (by omega))).drew;refine iK r5 rfl (by simp) λw6 r6 f6' z6=> ?_;have f6:iG w5.drew w6 (·=b):=f6' _ rfl;have rx6:=rx5.fr f6 (by omega);simp only[List.set_cons_zero,List.set_cons_succ] at r6;simp only[sx,rx6.cell,true_and];refine iK r6 rfl (by simp) λw7 r7 f7' z7=> ?_;have f7:iG w6 w7 (·=b):=f7' _ rfl;simp only[List.set_cons_zero,List.set_cons_succ] at r7;have r7:=r7.drew;simp only[sx,r7.cell];have f67:iG w5 w7.drew (·=b):=(((Ext.drew w5).fr f6).trans f7 λ_ _ e=>e).ext (Ext.drew w7);have rt:Row w7.drew t _:=(((r3.ext hW).fr f4 (by omega)).fr f5 (u _ (by omega))).fr f67 (by omega);refine iJ rt rfl rfl λw8 r8 f8 z8=> ?_;have f8:=f8 (·=t) rfl;simp only[sx,r8.cell];have f58:iG w5 w8 (λy=>w.heap.size<=y):=(f67.mono λy hy=>by omega).trans (f8.mono (S':=λy=>w.heap.size<=y) λy hy=>by omega) λy _ hy=>hy;have own':∀y,jS {A with ss:=ss} (GX x.blk (v.now+min d0 86400) v.L) y->jS A v.L y\/w4.heap.size<=y:=TY rfl rfl rfl rfl (λy hy=> .inl (by rw[VN] at hy;exact hy)) U;have zb:b<w4.heap.size/\t<w4.heap.size:=by have:=hW.size;omega
   refine h2 hc w8 _ _ ⟨(hS5.fr f67 λk y hy e=> ?_).fr f8 λk y hy e=> ?_,g.arm h hx (by simp) (by omega) (by have:=h.wh.wi.nw;have:=g.wn;omega) (v.tn+1) F,?_,rfl,rfl,?_,rfl,rfl,by simp,O,rfl,rfl⟩ rfl rfl
   ·rcases own' y ⟨k,hy⟩ with h|h
    ·exact u b (by omega) (e ▸ h)
    ·omega
   ·rcases own' y ⟨k,hy⟩ with h|h
    ·exact u t (by omega) (e ▸ h)
    ·omega
   ·have g5:iG w w5 (jS A v.L):=x4.fr f5;refine⟨Nat.le_trans g5.size f58.size,λy hy hn=> ?_,?_⟩
    ·rw[f58.same y (Nat.lt_of_lt_of_le hy g5.size) (by omega),g5.same y hy hn]
    ·exact⟨f58.io.1.trans g5.io.1,f58.io.2.1.trans g5.io.2.1,f58.io.2.2.trans g5.io.2.2⟩
   ·intro y hy;rcases own' y hy with h|h
    ·exact .inl h
    ·exact .inr (by have:=x4.size;omega)
  clear_value J2;simp only[iR.v] at rx;have rxd:=rx.drew;have r1d:=r1.drew
  cases q with
  |true=>
   have hq:=hq.1 rfl;simp only[cond_true,sx,r1d.cell,rxd.cell];by_cases he:o0=x.b.opr/\o1=x.b.oad/\o2=x.b.opo
   ·have:((o0==x.b.opr) && ((o1==x.b.oad) && ((o2==x.b.opo) && true)))=true:=by simp[he]
    rw[this];exact N _ (Ext.drew w3) λhh=>hh.2 he
   ·have:((o0==x.b.opr) && ((o1==x.b.oad) && ((o2==x.b.opo) && true)))=false:=by
     rw[Bool.eq_false_iff];intro hh;exact he (by simpa using hh)
    rw[this];exact R _ (Ext.drew w3) hq he
  |false=>
   simp only[cond_false];exact N _ (Ext.drew w3) λhh=>by have:=hq.2 hh.1;cases this
 clear_value J;simp only[sx,r1.cell];by_cases h1':o1=0
 ·have:(o1 !=0)=false:=by rw[bne_eq_false_iff_eq];exact h1'
  rw[this,cond_false];refine hJ _ ?_;rw[bne_iff_ne];exact⟨λh=> .inr h,λh=>h.resolve_left λhn=>hn h1'⟩
 ·have:(o1 !=0)=true:=by rw[bne_iff_ne];exact h1'
  rw[this,cond_true];exact hJ true ⟨λ_=> .inl h1',λ_=>rfl⟩
end Go.Proofs.PS
end
section
namespace Go.Proofs.PS
open Gp Go.Proofs Go.Proofs.EN
open Gp.Bind (Bnd Slots live GoodB freeN getS In64)
open Gp.Wh (Tm)
variable {w w':World} {A:SA} {c:Cf} {Z:Bnd->Prop} {v:SV}
theorem RY:∀(n:Nat) (l:List Int),l.length<n->∃i:Nat,i<n/\(i:Int)∉l
 |0,l,h=>by omega
 |n+1,l,h=>by
  by_cases hm:(n:Int)∈l
  ·have h1:=List.length_erase_of_mem hm;have h2:0<l.length:=List.length_pos_of_mem hm;obtain⟨i,hi,hn⟩:=RY n (l.erase (n:Int)) (by omega);refine⟨i,by omega,λh=>hn ?_⟩;exact(List.mem_erase_of_ne (by omega)).2 h
  ·exact⟨n,by omega,hm⟩
theorem Srv.aj2 (h:Srv w A c v) {x:iR} (hr:Row w x.blk x.v) (hn:¬jS A v.L x.blk):Srv w A c {v with L:=x::v.L}:=by
 have sub:∀k b,own A (x::v.L) k b->own A v.L k b\/(k=5/\b=x.blk):=by
  intro k b ho
  match k,ho with
  |0,ho=>exact .inl ho
  |1,ho=>exact .inl ho
  |2,ho=>exact .inl ho
  |3,ho=>exact .inl ho
  |4,ho=>exact .inl ho
  |5,⟨y,hy,e⟩=>
   rcases List.mem_cons.1 hy with rfl|hy
   ·exact .inr ⟨rfl,e.symm⟩
   ·exact .inl ⟨y,hy,e⟩
  |(n+6),ho=>exact .inl ho
 refine⟨h.hd,h.en,h.wh,h.li,h.ld,h.nI,h.nD,λy hy=> ?_,λk k' b h1 h2=> ?_,λk b hb=> ?_,?_⟩
 ·rcases List.mem_cons.1 hy with rfl|hy
  ·exact hr
  ·exact h.rw y hy
 ·rcases sub k b h1 with g1|⟨rfl,g1⟩<;>rcases sub k' b h2 with g2|⟨rfl,g2⟩
  ·exact h.ap k k' b g1 g2
  ·exact absurd ⟨k,g2 ▸ g1⟩ hn
  ·exact absurd ⟨k',g1 ▸ g2⟩ hn
  ·rfl
 ·rcases sub k b hb with g1|⟨_,g1⟩
  ·exact h.lt k b g1
  ·rw[g1];exact hr.lt
 ·show (x.blk::v.L.map (·.blk)).Nodup;refine List.nodup_cons.2 ⟨λhm=>hn ?_,h.bn⟩;obtain⟨y,hy,e⟩:=List.mem_map.1 hm;exact⟨5,y,hy,e⟩
theorem Srv.aiR (h:Srv w A c v) {n:Int} (hf:iG w w' (·=A.s)) (hr:Row w' A.s [.pointer (some ⟨A.a.x,0,none⟩),.pointer (some ⟨A.d,0,none⟩),.map (some A.ml),.map (some A.mi),.int .i64 (v.now:Int),.int .i64 n,.int .i64 v.most]):Srv w' A c {v with nx:=n}:=by
 have o:∀k b,own A v.L k b->k≠0->¬b=A.s:=λk b hk hn he=>h.off (j:=0) hk hn he;exact⟨hr,h.en.fr hf (λk b hb=>o 1 b ⟨k,hb⟩ (by decide)),h.wh.fr hf (λb hb=>o 2 b hb (by decide)),h.li.fr hf (o 3 _ rfl (by decide)),h.ld.fr hf (o 4 _ rfl (by decide)),h.nI,h.nD,λx hx=>(h.rw x hx).fr hf (o 5 _ ⟨x,hx,rfl⟩ (by decide)),h.ap,
  λk b hb=>Nat.lt_of_lt_of_le (h.lt k b hb) hf.size,h.bn⟩
theorem Good.aiR {P:List Int} (g:Good c Z v P) (n:Int):Good c Z {v with nx:=n} P:=⟨g.inv,g.ns,g.wn,g.li,g.ld,g.kk,g.ii,g.eb,g.ex,g.ir,g.wl,g.wt⟩
def codeF (e:Int):Int:=if e=0 then 0 else if e=10 then 8 else if e=7 then 4 else if e=9 then 11 else 3
def kB (b:Bnd):I4:=(b.sw,b.pr,b.ad,b.po)
theorem ahk (g:Good c Z v []) {k:I4} (hk:∀y∈v.L,y.k≠k):kT v.LI k=none:=by
 cases hc:kT v.LI k with
 |none=>rfl
 |some n=>
  obtain⟨x,hx,h1,_⟩:=(g.li k n).1 hc;exact absurd h1 (hk x hx)
theorem aga {n:Nat} {un:Int} {L:List iR} (h:∀y∈L,y.blk≠n):GX n un L=L:=by
 unfold GX
 conv=>rhs;rw[<- List.map_id L]
 refine List.map_congr_left λy hy=> ?_;rw[if_neg (h y hy)];rfl
theorem ajP {n f:Int} (hn:0<=n/\n<8192) (hf:0<=f/\f<8192) (h:n≠f):Int.tmod (IntKind.i64.wrap (n+1)) 8192=(n+1) % 8192/\0<=(n+1) % 8192/\(n+1) % 8192<8192/\((f - (n+1) % 8192) % 8192).toNat<((f - n) % 8192).toNat:=by
 rw[wrap_i64 (by omega) (by omega),Int.tmod_eq_emod_of_nonneg (by omega)];refine⟨rfl,by omega,by omega,by omega⟩
theorem aeO (h:Srv w A c v) (g:Good c Z v []) (aE:0<=v.nx/\v.nx<8192) (ht:v.tn<2^62) (hm:v.most<=4096) {b:Bnd} (aw:b.st=true) (hk:∀y∈v.L,y.k≠kB b) {d0 d1 d2 d3 d4 d5 d6 d7 d8 d9 d10 d11 d12 d13 d14 d15 d16 d17 d18 d19 d20 d21 d22 d23 d24 d25 d26 d27 d28 d29 d30 d31 d32:Int} (hl:0<d0/\d0<4294967296) {K:Int->Int->Int->Int->Int->Int->Int->Int->Int->Int->Int->Int->Int->Int->Int->Int->Int->Int->Int->Int->Int->Int->Int->Int->Int->Int->Int->Int->Int->Int->Int->Int->Int->Int->b_}
  (h1:(v.L.length:Int)>=v.most->∀w',Ext w w'->K 8 d0 d1 d2 d3 d4 d5 d6 d7 d8 d9 d10 d11 d12 d13 d14 d15 d16 d17 d18 d19 d20 d21 d22 d23 d24 d25 d26 d27 d28 d29 d30 d31 d32 w')
  (h2:(v.L.length:Int)<v.most->Cj c v.e b≠0->∀w',Ext w w'->K (codeF (Cj c v.e b)) d0 d1 d2 d3 d4 d5 d6 d7 d8 d9 d10 d11 d12 d13 d14 d15 d16 d17 d18 d19 d20 d21 d22 d23 d24 d25 d26 d27 d28 d29 d30 d31 d32 w')
  (h3:(v.L.length:Int)<v.most->Cj c v.e b=0->∀w' A' v' n id i,Out c Z w A v w' A' v'->v'.L=⟨n,b,v.now+min d0 86400,id⟩::v.L->freeN v.e.S=some i->v'.e.S=v.e.S.set i (some b)->K 0 (min d0 86400) d1 d2 d3 d4 d5 d6 d7 d8 d9 d10 d11 d12 d13 d14 d15 d16 d17 d18 d19 d20 d21 d22 d23 d24 d25 d26 d27 d28 d29 d30 d31 d32 w'):
  wY (some ⟨A.s,0,none⟩) b.sw b.pr b.ad b.po b.opr b.oad b.opo d0 d1 d2 d3 d4 d5 d6 d7 d8 d9 d10 d11 d12 d13 d14 d15 d16 d17 d18 d19 d20 d21 d22 d23 d24 d25 d26 d27 d28 d29 d30 d31 d32 w K:=by
 apply Ko;refine iI λai w1 r1 e1 z1 f1=> ?_;refine iI λao w2 r2 e2 z2 f2=> ?_;refine iI λa w3 r3 e3 z3 f3=> ?_;refine iI λt w4 r4 e4 z4 f4=> ?_;have x4:=((f1.trans f2).trans f3).trans f4;have r1:=(((r1.ext f2).ext f3).ext f4).drew;have r2:=((r2.ext f3).ext f4).drew;have r3:=(r3.ext f4).drew;have r4:=r4.drew;have x4:=x4.trans (Ext.drew w4);have hS:=h.ext x4;have zz:ai<w4.heap.size/\ao<w4.heap.size/\a<w4.heap.size/\t<w4.heap.size/\w.heap.size<=ai/\w.heap.size<=ao/\w.heap.size<=a/\w.heap.size<=t/\a≠t/\ai≠a/\ao≠a:=by omega
 obtain⟨y1,y2,y3,y4,y5,y6,y7,y8,y9,ax,ay⟩:=zz;have aj:∀y,w.heap.size<=y->¬jS A v.L y:=λy hy ⟨k,hk⟩=>by have:=h.lt k y hk;omega
 have fail:∀W r,Ext w4.drew W->Row W a (iU d0 d1 d2 d3 d4 d5 d6 d7 d8 d9 d10 d11 d12 d13 d14 d15 d16 d17 d18 d19 d20 d21 d22 d23 d24 d25 d26 d27 d28 d29 d30 d31 d32)->(∀w',Ext w w'->K r d0 d1 d2 d3 d4 d5 d6 d7 d8 d9 d10 d11 d12 d13 d14 d15 d16 d17 d18 d19 d20 d21 d22 d23 d24 d25 d26 d27 d28 d29 d30 d31 d32 w')->jD W ⟨a,0,none⟩ λy0 y1 y2 y3 y4 y5 y6 y7 y8 y9 ax ay aF aG aH aI aJ aK aL aM aN aO aP aQ aR aS aT aU aV aW aX aY aZ=>lM (iU y0 y1 y2 y3 y4 y5 y6 y7 y8 y9 ax ay aF aG aH aI aJ aK aL aM aN aO aP aQ aR aS aT aU aV aW aX aY aZ) W ⟨t,0,none⟩ 0 λaz=>jD az ⟨t,0,none⟩ λx0 x1 x2 x3 x4 x5 x6 x7 x8 x9 a6 a7 a8 ba bc be bf bg bh bj bk bl bm bo bp bq br bt bu bv bw bx bz=>K r x0 x1 x2 x3 x4 x5 x6 x7 x8 x9 a6 a7 a8 ba bc be bf bg bh bj bk bl bm bo bp bq br bt bu bv bw bx bz az:=by
  intro W r hW hr hK;simp only[sx,hr.cell];refine iJ (r4.ext hW) rfl rfl λw5 r5 f5 z5=> ?_;simp only[sx,r5.cell];exact hK w5 ((x4.trans hW).new (f5 (·=t) rfl) λy hy e=>by omega)
 have hlen:=g.akk h;refine jc.2 (iC hS.hd (i:=2) (k:= .map) (x:=some A.ml) rfl (jc.2 (iC (k:= .int .i64) (i:=6) (x:=v.most) hS.hd rfl ?_)));refine WN.Uf hS.li ⟨by rw[kK,hS.hd.cell];rfl,?_⟩;rw[hlen];by_cases I:(v.L.length:Int)>=v.most
 ·rw[decide_eq_true I,cond_true];exact fail _ 8 (Ext.drew _) r3.drew (h1 I)
 rw[decide_eq_false I,cond_false];have ak:(v.L.length:Int)<v.most:=by omega
 have al:=hS.ext (Ext.drew _);refine jc.2 (iC (k:= .ptr) (i:=0) (x:=some ⟨A.a.x,0,none⟩) al.hd rfl ?_);have r1d:=r1.drew;have r2d:=r2.drew;refine iC (k:= .int .i64) (i:=0) (x:=b.sw) r1d rfl (iC (k:= .int .i64) (i:=1) (x:=b.pr) r1d rfl (iC (k:= .int .i64) (i:=2) (x:=b.ad) r1d rfl (iC (k:= .int .i64) (i:=3) (x:=b.po) r1d rfl ?_)));refine iC (k:= .int .i64) (i:=0) (x:=b.opr) r2d rfl (iC (k:= .int .i64) (i:=1) (x:=b.oad) r2d rfl (iC (k:= .int .i64) (i:=2) (x:=b.opo) r2d rfl ?_));refine Eb (map_ok al.en g.inv b aw) ?_;rintro r w5 ⟨rfl,hE⟩;refine Uy (ad6 _ w5) ?_;rintro _ w6 ⟨rfl,hw6⟩;subst hw6;show cond ((codeF (Cj c v.e b)) !=0) _ _;rcases hE with ⟨ae,f5⟩|⟨he0,hmay,f5,aB,i,Mi,Mo,Q,G,R,aa,hE5,hI5⟩
 ·have hc:codeF (Cj c v.e b)≠0:=by
   unfold codeF;rw[if_neg ae];split
   ·decide
   split
   ·decide
   split<;>decide
  have:(codeF (Cj c v.e b) !=0)=true:=by rw[bne_iff_ne];exact hc
  rw[this,cond_true];exact fail _ _ (((Ext.drew _).trans f5).trans (Ext.drew w6)) ((r3.drew).ext (f5.trans (Ext.drew w6))) (h2 ak ae)
 have:(codeF (Cj c v.e b) !=0)=false:=by rw[he0];rfl
 rw[this,cond_false];have O:∀y,w.heap.size<=y->¬GU A.a y:=λy hy hE=>aj y hy ⟨1,hE⟩;have hS5:=al.ab5 f5 hE5 rfl (λy ⟨k,hk⟩=>by
  match k,hk with
  |0,ho=>exact .inl ⟨0,ho⟩
  |1,ho=>exact .inl ⟨1,ho⟩
  |2,ho=>exact .inl ⟨2,ho⟩
  |3,ho=>exact(aa y ho).imp_left λh=>⟨3,h⟩
  |4,ho=>exact .inl ⟨4,ho⟩
  |5,ho=>exact .inl ⟨5,ho⟩
  |(n+6),ho=>exact ho.elim)
 obtain⟨fr,hfr,bA⟩:=RY 8192 (v.L.map (·.id)) (by rw[length_map];omega);have x5:Ext w4.drew.drew w4.drew.drew:=Ext.refl _;have k1:=(r1d.fr f5 (O _ y5));have k2:=(r2d.fr f5 (O _ y6));have k3:=(r3.drew.fr f5 (O _ y7));have k4:=(r4.drew.fr f5 (O _ y8));have hAs:A.s<w.heap.size:=h.lt 0 _ rfl;have z5:=f5.size;have zd4:w4.drew.drew.heap.size=w4.heap.size:=rfl;have zw:w.heap.size<=w4.heap.size:=x4.size;refine iE (λ_ W=>∃n:Int,(0<=n/\n<8192)/\iG w6 W (·=A.s)/\Srv W {A with a:={A.a with B:=aB}} c {v with e:={v.e with S:=v.e.S.set i (some b),Mi:=Mi,Mo:=Mo,Q:=Q,G:=G},nx:=n})
  (λ_ W=>(((fr:Int) - (match W.cell? ⟨A.s,5,none⟩ with|some (.int _ n)=>n|_=>0)) % 8192).toNat) ⟨v.nx,aE,iG.refl _ _,hS5⟩ ?_
 rintro⟨⟩ W ⟨n,hn,fW,hW⟩ next J
 have Y:=hW.ext (Ext.drew W);have hc5:W.cell? ⟨A.s,5,none⟩=some (.int .i64 n):=by rw[hW.hd.cell];rfl
 rw[hc5] at J;simp only at J;refine jc.2 (iC Y.hd (i:=3) (k:= .map) (x:=some A.mi) rfl (jc.2 (iC (k:= .int .i64) (i:=5) (x:=n) Y.hd rfl ?_)));refine DX (k:= .ptr) (enc:=Dq) (ev:=Xp) Y.ld eqN n (Z_ _) (λU=> ?_) (λy hy=> ?_);rotate_left
 ·simp only[Xp,sx,Bool.not_false,Y.hd.cell];refine⟨by decide,?_⟩;have ae:n≠(fr:Int):=by
   rintro rfl;obtain⟨x,hx,h1,_⟩:=(g.ld _ _).1 hy;exact bA (List.mem_map.2 ⟨x,hx,h1⟩)
  obtain⟨e1,e2,e3,e4⟩:=ajP hn ⟨by omega,by omega⟩ ae;rw[e1];refine iK Y.hd rfl (by simp) λW2 R2 F2' Z2=> ?_;have F2:iG W.drew W2 (·=A.s):=F2' _ rfl;simp only[List.set_cons_zero,List.set_cons_succ] at R2;refine J _ _ ⟨_,⟨e2,e3⟩,(fW.ext (Ext.drew W)).trans F2 λ_ _ e=>e,Y.aiR F2 R2⟩ ?_;rw[R2.cell];exact e4
 simp only[Kind.dec,Option.isNone_none,Bool.not_true,cond_false];have ab:=Y.ext (Ext.drew _);have nob:∀y,w.heap.size<=y->¬y=A.s:=λy hy e=>by omega
 have k1:=((k1.fr fW (nob _ y5)).drew).drew;have k2:=((k2.fr fW (nob _ y6)).drew).drew;have k3:=((k3.fr fW (nob _ y7)).drew).drew;have k4:=((k4.fr fW (nob _ y8)).drew).drew;refine iC (k:= .int .i64) (i:=0) (x:=b.sw) k1 rfl (iC (k:= .int .i64) (i:=1) (x:=b.pr) k1 rfl (iC (k:= .int .i64) (i:=2) (x:=b.ad) k1 rfl (iC (k:= .int .i64) (i:=3) (x:=b.po) k1 rfl ?_)));refine iC (k:= .int .i64) (i:=0) (x:=b.opr) k2 rfl (iC (k:= .int .i64) (i:=1) (x:=b.oad) k2 rfl (iC (k:= .int .i64) (i:=2) (x:=b.opo) k2 rfl ?_));refine jc.2 (iC (k:= .int .i64) (i:=5) (x:=n) ab.hd rfl ?_);refine iI λnb w7 r7 e7 z7 f7=> ?_;have f7d:=f7.trans (Ext.drew w7);have hS7:=ab.ext f7d;have k1:=k1.ext f7d;have k3:=k3.ext f7d;have k4:=k4.ext f7d;have r7:=r7.drew;have zW:w6.heap.size<=W.heap.size:=fW.size;have hzd:W.drew.drew.heap.size=W.heap.size:=rfl;have hz7d:w7.drew.heap.size=w7.heap.size:=rfl;refine jc.2 (iC hS7.hd (i:=2) (k:= .map) (x:=some A.ml) rfl ?_);refine iC (k:= .int .i64) (i:=0) (x:=b.sw) k1 rfl (iC (k:= .int .i64) (i:=1) (x:=b.pr) k1 rfl (iC (k:= .int .i64) (i:=2) (x:=b.ad) k1 rfl (iC (k:= .int .i64) (i:=3) (x:=b.po) k1 rfl ?_)));refine jc.2 (iC hS7.hd (i:=3) (k:= .map) (x:=some A.mi) rfl ?_);refine jc.2 (iC (k:= .int .i64) (i:=8) (x:=n) r7 rfl ?_);refine Ue (enc:=encI) (ev:=Xp) hS7.li eqI (kB b) (afy _) (ahk g hk) _ nb λn8 w8 am=>am λw9 m9 f9 z9=> ?_;have hml:A.ml<w.heap.size:=h.lt 3 _ rfl;have hmi:A.mi<w.heap.size:=h.lt 4 _ rfl;have hS9:=hS7.aia f9 m9 (Qv hS7.nI _ _);have nml:∀y,w.heap.size<=y->¬y=A.ml:=λy hy e=>by omega
 have nmi:∀y,w.heap.size<=y->¬y=A.mi:=λy hy e=>by omega
 have ac:w.heap.size<=nb:=by omega
 have r9:=r7.fr f9 (nml _ ac);have k3:=k3.fr f9 (nml _ y7);have k4:=k4.fr f9 (nml _ y8);refine Ue (enc:=Dq) (ev:=Xp) hS9.ld eqN n (Z_ _) U _ nb λn10 w10 hst10=>hst10 λaA m11 f11 z11=> ?_;have hS11:=hS9.ah_ f11 m11 (Qv hS9.nD _ _);have bB:=r9.fr f11 (nmi _ ac);have k3:=k3.fr f11 (nmi _ y7);have k4:=k4.fr f11 (nmi _ y8);refine iC (k:= .int .i64) (i:=0) (x:=d0) k3 rfl ?_;refine iK k3 rfl (by simp) λaf ag an z12=> ?_;have f12:iG aA af (·=a):=an _ rfl;simp only[List.set_cons_zero] at ag;have aq:(if (86400:Int)<d0 then 86400 else d0)=min d0 86400:=by omega
 rw[aq] at ag;refine iC (k:= .int .i64) (i:=0) (x:=min d0 86400) ag rfl ?_;have u:∀y,jS {A with a:={A.a with B:=aB}} v.L y->jS A v.L y\/w4.heap.size<=y:=by
  rintro y ⟨k,hk⟩
  match k,hk with
  |0,ho=>exact .inl ⟨0,ho⟩
  |1,⟨j,ho⟩=>
   match j,ho with
   |0,ho=>exact .inl ⟨1,0,ho⟩
   |1,ho=>exact .inl ⟨1,1,ho⟩
   |2,ho=>exact .inl ⟨1,2,ho⟩
   |3,ho=>exact(aa y ho).imp (λh=>⟨1,3,h⟩) λh=>by omega
   |4,ho=>exact .inl ⟨1,4,ho⟩
   |5,ho=>exact .inl ⟨1,5,ho⟩
   |(n+6),ho=>exact ho.elim
  |2,ho=>exact .inl ⟨2,ho⟩
  |3,ho=>exact .inl ⟨3,ho⟩
  |4,ho=>exact .inl ⟨4,ho⟩
  |5,ho=>exact .inl ⟨5,ho⟩
  |(n+6),ho=>exact ho.elim
 have bC:∀y,w.heap.size<=y->y<w4.heap.size->¬jS {A with a:={A.a with B:=aB}} v.L y:=λy h1 h2 h3=>by
  rcases u y h3 with h|h
  ·exact aj y h1 h
  ·omega
 have hS12:=hS11.fr f12 λk y hy e=>bC a y7 y3 (e ▸ ⟨k,hy⟩);have ar:¬jS {A with a:={A.a with B:=aB}} v.L nb:=λ⟨k,hk⟩=>by have:=hW.lt k nb hk;omega
 have au:Row af nb ({blk:=nb,b:=b,un:=0,id:=n}:iR).v:=bB.fr f12 (by omega);have aC:=hS12.aj2 (x:={blk:=nb,b:=b,un:=0,id:=n}) au ar;have bD:=g.akl h;have N:∀y,jS {A with a:={A.a with B:=aB}} (({blk:=nb,b:=b,un:=0,id:=n}:iR)::v.L) y->jS A v.L y\/w4.heap.size<=y:=by
  rintro y ⟨k,hk⟩
  match k,hk with
  |0,ho=>exact u y ⟨0,ho⟩
  |1,ho=>exact u y ⟨1,ho⟩
  |2,ho=>exact u y ⟨2,ho⟩
  |3,ho=>exact u y ⟨3,ho⟩
  |4,ho=>exact u y ⟨4,ho⟩
  |5,⟨x,hx,e⟩=>
   rcases List.mem_cons.1 hx with rfl|hx
   ·exact .inr (by simp only at e;omega)
   ·exact u y ⟨5,x,hx,e⟩
  |(n+6),ho=>exact ho.elim
 refine C_ (acK aC (x:={blk:=nb,b:=b,un:=0,id:=n}) mem_cons_self (life:=min d0 86400) (by omega) (by omega) ⟨hn.1,by simp only;omega⟩ (.inr (by rw[bD];exact ak)) ht g.wn) ?_;rintro ah ⟨f13,ss,F,bE,hS13⟩;have hn2:∀y,w.heap.size<=y->y<w4.heap.size->¬jS {A with a:={A.a with B:=aB}} (({blk:=nb,b:=b,un:=0,id:=n}:iR)::v.L) y:=λy h1 h2 h3=>by
  rcases N y h3 with h|h
  ·exact aj y h1 h
  ·omega
 have bF:=(ag.fr f13 (hn2 a y7 y3)).drew;have k4:=((k4.fr f12 (λe=>y9 e.symm)).fr f13 (hn2 t y8 y4)).drew;simp only[sx,bF.cell];refine iJ k4 rfl rfl λaD bG av z14=> ?_;have f14:iG ah.drew aD (·=t):=av _ rfl;simp only[sx,bG.cell];have ggg:Good c Z {v with e:={v.e with S:=v.e.S.set i (some b),Mi:=Mi,Mo:=Mo,Q:=Q,G:=G},nx:=n,L:=({blk:=nb,b:=b,un:=0,id:=n}:iR)::v.L,LI:=IB v.LI (kB b) nb,LD:=IB v.LD n nb} [n]:=
  (g.add (x:={blk:=nb,b:=b,un:=0,id:=n}) hk (λy hy he=>by
   have:=(g.ld n y.blk).2 ⟨y,hy,he,rfl⟩;rw[U] at this;cases this) aw ⟨hn.1,hn.2⟩ R hI5).aiR n
 have garm:=ggg.arm aC (x:={blk:=nb,b:=b,un:=0,id:=n}) mem_cons_self (λid bH=>List.mem_singleton.1 bH) (un:=v.now+min d0 86400) (by simp only;omega) (by have:=h.wh.wi.nw;have:=g.wn;simp only;omega) (v.tn+1) F;have hL:GX nb (v.now+min d0 86400) (({blk:=nb,b:=b,un:=0,id:=n}:iR)::v.L)={blk:=nb,b:=b,un:=v.now+min d0 86400,id:=n}::v.L:=by
  have:=aga (n:=nb) (un:=v.now+min d0 86400) (L:=v.L) λy hy e=>by have:=h.lt 5 y.blk ⟨y,hy,rfl⟩;omega
  unfold GX at this ⊢;rw[map_cons,if_pos rfl,this]
 have own3:∀y,jS {A with a:={A.a with B:=aB},ss:=ss} (GX nb (v.now+min d0 86400) (({blk:=nb,b:=b,un:=0,id:=n}:iR)::v.L)) y->jS {A with a:={A.a with B:=aB}} (({blk:=nb,b:=b,un:=0,id:=n}:iR)::v.L) y\/af.heap.size<=y:=
  TY rfl rfl rfl rfl (λy hy=> .inl (by rw[VN] at hy;exact hy)) bE
 have s9:=f9.size;have s11:=f11.size;have s12:=f12.size;refine h3 ak he0 aD _ _ nb n i ⟨(hS13.ext (Ext.drew ah)).fr f14 λk y hy e=> ?_,garm,?_,rfl,rfl,?_,rfl,rfl,by simp,hn,rfl,rfl⟩ hL R rfl
 ·rcases own3 y ⟨k,hy⟩ with h|h
  ·exact hn2 t y8 y4 (e ▸ h)
  ·omega
 ·have q6:iG w w6 (jS A v.L):=((x4.trans (Ext.drew _)).fr f5).mono λy hy=>⟨1,hy⟩;have qW:iG w W (jS A v.L):=q6.trans fW λy _ hy=>⟨0,hy⟩;have q7:iG w w7.drew (jS A v.L):=qW.ext (((Ext.drew W).trans (Ext.drew _)).trans f7d);have q9:iG w w9 (jS A v.L):=q7.trans f9 λy _ hy=>⟨3,hy⟩;have bI:iG w aA (jS A v.L):=q9.trans f11 λy _ hy=>⟨4,hy⟩;have bJ:iG w af (jS A v.L):=bI.trans f12 λy h1 hy=>by omega
  have bK:iG w ah (jS A v.L):=bJ.trans f13 λy h1 hy=>by
   rcases N y hy with h|h
   ·exact h
   ·omega
  exact(bK.ext (Ext.drew ah)).trans f14 λy h1 hy=>by omega
 ·intro y hy;rcases own3 y hy with h|h
  ·rcases N y h with h|h
   ·exact .inl h
   ·exact .inr (by omega)
  ·exact .inr (by omega)
end Go.Proofs.PS
end
section
namespace Go.Proofs.PS
open Gp Go.Proofs Go.Proofs.EN
open Gp.Bind (Bnd Slots live GoodB freeN getS In64)
open Gp.Wh (Tm)
variable {w w':World} {A:SA} {c:Cf} {Z:Bnd->Prop} {v:SV}
inductive Fq (c:Cf) (v:SV) (b:Bnd) (lf:Int):Int->Int->Int->Int->SV->Prop
 |none:lf=0->(∀y∈v.L,y.k≠kB b)->Fq c v b lf 0 lf b.opo b.oad v
 |drop {x:iR} {i:Nat} {v':SV}:lf=0->x∈v.L->x.k=kB b->v.e.S[i]? =some (some x.b)->v'.L=(v.L.filter λy=> !(y.blk==x.blk))->v'.e.S=v.e.S.set i .none->Fq c v b lf 0 lf b.opo b.oad v'
 |ext {x:iR}:lf≠0->x∈v.L->x.k=kB b->(b.oad≠0\/b.opo≠0)->¬(b.opr=x.b.opr/\b.oad=x.b.oad/\b.opo=x.b.opo)->Fq c v b lf 11 lf b.opo b.oad v
 |renew {x:iR} {v':SV}:lf≠0->x∈v.L->x.k=kB b->¬((b.oad≠0\/b.opo≠0)/\¬(b.opr=x.b.opr/\b.oad=x.b.oad/\b.opo=x.b.opo))->v'.L=GX x.blk (v.now+min lf 86400) v.L->v'.e=v.e->Fq c v b lf 0 (min lf 86400) x.b.opo x.b.oad v'
 |full:lf≠0->(∀y∈v.L,y.k≠kB b)->(v.L.length:Int)>=v.most->Fq c v b lf 8 lf b.opo b.oad v
 |map:lf≠0->(∀y∈v.L,y.k≠kB b)->(v.L.length:Int)<v.most->Cj c v.e b≠0->Fq c v b lf (codeF (Cj c v.e b)) lf b.opo b.oad v
 |add {n:Nat} {id:Int} {i:Nat} {v':SV}:lf≠0->(∀y∈v.L,y.k≠kB b)->(v.L.length:Int)<v.most->Cj c v.e b=0->v'.L=⟨n,b,v.now+min lf 86400,id⟩::v.L->freeN v.e.S=some i->v'.e.S=v.e.S.set i (some b)->Fq c v b lf 0 (min lf 86400) b.opo b.oad v'
theorem acT {A A':SA} {L:List iR} {p:iR->Bool} {n:Nat} (h:∀b,jS A' L b->jS A L b\/n<=b):∀b,jS A' (L.filter p) b->jS A L b\/n<=b:=by
 rintro b ⟨k,hk⟩
 match k,hk with
 |0,ho=>exact h b ⟨0,ho⟩
 |1,ho=>exact h b ⟨1,ho⟩
 |2,ho=>exact h b ⟨2,ho⟩
 |3,ho=>exact h b ⟨3,ho⟩
 |4,ho=>exact h b ⟨4,ho⟩
 |5,⟨x,hx,e⟩=>exact h b ⟨5,x,(List.mem_filter.1 hx).1,e⟩
 |(n+6),ho=>exact ho.elim
theorem aio (h:Srv w A c v) (g:Good c Z v []) (u:0<=v.nx/\v.nx<8192) (ht:v.tn<2^62) (hm:v.most<=4096) {sw pr ad po d0 d1 d2 d3 d4 d5 d6 d7 d8 d9 d10 d11 d12 d13 d14 d15 d16 d17 d18 d19 d20 d21 d22 d23 d24 d25 d26 d27 d28 d29 d30 d31 d32:Int} (hl:0<=d0/\d0<4294967296) {K:Int->Int->Int->Int->Int->Int->Int->Int->Int->Int->Int->Int->Int->Int->Int->Int->Int->Int->Int->Int->Int->Int->Int->Int->Int->Int->Int->Int->Int->Int->Int->Int->Int->Int->b_}
  (hK:∀r e0 bA bB w' A' v',Out c Z w A v w' A' v'->Fq c v ⟨sw,pr,ad,po,d29,d32,d31,true⟩ d0 r e0 bA bB v'->K r e0 d1 d2 d3 d4 d5 d6 d7 d8 d9 d10 d11 d12 d13 d14 d15 d16 d17 d18 d19 d20 d21 d22 d23 d24 d25 d26 d27 d28 d29 d30 bA bB w'):
  zB (some ⟨A.s,0,none⟩) sw pr ad po d0 d1 d2 d3 d4 d5 d6 d7 d8 d9 d10 d11 d12 d13 d14 d15 d16 d17 d18 d19 d20 d21 d22 d23 d24 d25 d26 d27 d28 d29 d30 d31 d32 w K:=by
 apply Oy;refine iI λai w1 r1 e1 z1 f1=> ?_;refine iI λa w2 r2 e2 z2 f2=> ?_;refine iI λt w3 r3 e3 z3 f3=> ?_;have x3:=((f1.trans f2).trans f3).trans (Ext.drew w3);have hS:=h.ext x3;have r1:=((r1.ext f2).ext f3).drew;have r2:=(r2.ext f3).drew;have r3:=r3.drew;have hwd:w3.drew.heap.size=w3.heap.size:=rfl;refine jc.2 (iC hS.hd (i:=2) (k:= .map) (x:=some A.ml) rfl ?_);refine iC (k:= .int .i64) (i:=0) (x:=sw) r1 rfl (iC (k:= .int .i64) (i:=1) (x:=pr) r1 rfl (iC (k:= .int .i64) (i:=2) (x:=ad) r1 rfl (iC (k:= .int .i64) (i:=3) (x:=po) r1 rfl ?_)));have fin:∀W r,Row W a (iU d0 d1 d2 d3 d4 d5 d6 d7 d8 d9 d10 d11 d12 d13 d14 d15 d16 d17 d18 d19 d20 d21 d22 d23 d24 d25 d26 d27 d28 d29 d30 d31 d32)->Row W t (iU 0 0 0 0 0 0 0 0 0 0 0 0 0 0 0 0 0 0 0 0 0 0 0 0 0 0 0 0 0 0 0 0 0)->(∀w',iG W w' (·=t)->K r d0 d1 d2 d3 d4 d5 d6 d7 d8 d9 d10 d11 d12 d13 d14 d15 d16 d17 d18 d19 d20 d21 d22 d23 d24 d25 d26 d27 d28 d29 d30 d31 d32 w')->jD W ⟨a,0,none⟩ λy0 y1 y2 y3 y4 y5 y6 y7 y8 y9 R U Y aa ab ac ae af ag ah aj ak al am an ao aq ar au av aw ax ay=>lM (iU y0 y1 y2 y3 y4 y5 y6 y7 y8 y9 R U Y aa ab ac ae af ag ah aj ak al am an ao aq ar au av aw ax ay) W ⟨t,0,none⟩ 0 λI=>jD I ⟨t,0,none⟩ λx0 x1 x2 x3 x4 x5 x6 x7 x8 x9 az aA aB aC aD aE aF aG aH aI aJ aK aL aM aN aO aP aQ aR aS aT aU aV=>K r x0 x1 x2 x3 x4 x5 x6 x7 x8 x9 az aA aB aC aD aE aF aG aH aI aJ aK aL aM aN aO aP aQ aR aS aT aU aV I:=by
  intro W r hr ht hK;simp only[sx,hr.cell];refine iJ ht rfl rfl λw5 r5 f5 z5=> ?_;simp only[sx,r5.cell];exact hK w5 (f5 (·=t) rfl)
 have fin2:∀W r q0 q1 q2 q3 q4 q5 q6 q7 q8 q9 aW aX aY aZ a6 a7 a8 ba bc be bf bg bh bj bk bl bm bo bp bq br bt bu,Row W t (iU 0 0 0 0 0 0 0 0 0 0 0 0 0 0 0 0 0 0 0 0 0 0 0 0 0 0 0 0 0 0 0 0 0)->(∀w',iG W w' (·=t)->K r q0 q1 q2 q3 q4 q5 q6 q7 q8 q9 aW aX aY aZ a6 a7 a8 ba bc be bf bg bh bj bk bl bm bo bp bq br bt bu w')->lM (iU q0 q1 q2 q3 q4 q5 q6 q7 q8 q9 aW aX aY aZ a6 a7 a8 ba bc be bf bg bh bj bk bl bm bo bp bq br bt bu) W ⟨t,0,none⟩ 0 λI=>jD I ⟨t,0,none⟩ λx0 x1 x2 x3 x4 x5 x6 x7 x8 x9 az aA aB aC aD aE aF aG aH aI aJ aK aL aM aN aO aP aQ aR aS aT aU aV=>K r x0 x1 x2 x3 x4 x5 x6 x7 x8 x9 az aA aB aC aD aE aF aG aH aI aJ aK aL aM aN aO aP aQ aR aS aT aU aV I:=by
  intro W r q0 q1 q2 q3 q4 q5 q6 q7 q8 q9 aW aX aY aZ a6 a7 a8 ba bc be bf bg bh bj bk bl bm bo bp bq br bt bu ht hK;refine iJ ht rfl rfl λw5 r5 f5 z5=> ?_;simp only[sx,r5.cell];exact hK w5 (f5 (·=t) rfl)
 have kB0:kB ⟨sw,pr,ad,po,d29,d32,d31,true⟩=(sw,pr,ad,po):=rfl;have bC:∀y,w.heap.size<=y->¬jS A v.L y:=λy hy ⟨k,hk⟩=>by have:=h.lt k y hk;omega
 have outT:∀{W W' A' v'},Out c Z w A v W A' v'->t<W.heap.size->(∀y,jS A' v'.L y->¬y=t)->iG W W' (·=t)->Out c Z w A v W' A' v':=by
  intro W W' A' v' o htW ho hf;refine⟨o.srv.fr hf λk y hy e=>ho y ⟨k,hy⟩ e,o.good,?_,o.s,o.x,o.sub,o.now,o.most,o.tn,o.nx,o.en,o.el⟩;exact o.fr.trans hf λy hy e=>by omega
 have nt:¬jS A v.L t:=bC t (by omega);have rdO:∀W (o:Nat) (Q:Int->Int->Int->Prop),Row W o [.int .i64 d29,.int .i64 d32,.int .i64 d31]->Q d29 d32 d31->Ld (.int .i64) W (Addr.add ⟨o,0,none⟩ 0) λx=>Ld (.int .i64) W (Addr.add ⟨o,0,none⟩ 1) λy=>Ld (.int .i64) W (Addr.add ⟨o,0,none⟩ 2) λz=>Q x y z:=by
  intro W o Q hr hq;simp only[sx,hr.cell];exact hq
 have rdA:∀W (Q:Int->Int->Int->Int->Int->Int->Int->Int->Int->Int->Int->Int->Int->Int->Int->Int->Int->Int->Int->Int->Int->Int->Int->Int->Int->Int->Int->Int->Int->Int->Int->Int->Int->Prop),Row W a (iU d0 d1 d2 d3 d4 d5 d6 d7 d8 d9 d10 d11 d12 d13 d14 d15 d16 d17 d18 d19 d20 d21 d22 d23 d24 d25 d26 d27 d28 d29 d30 d31 d32)->Q d0 d1 d2 d3 d4 d5 d6 d7 d8 d9 d10 d11 d12 d13 d14 d15 d16 d17 d18 d19 d20 d21 d22 d23 d24 d25 d26 d27 d28 d29 d30 d31 d32->jD W ⟨a,0,none⟩ λy0 y1 y2 y3 y4 y5 y6 y7 y8 y9 R U Y aa ab ac ae af ag ah aj ak al am an ao aq ar au av aw ax ay=>Q y0 y1 y2 y3 y4 y5 y6 y7 y8 y9 R U Y aa ab ac ae af ag ah aj ak al am an ao aq ar au av aw ax ay:=by
  intro W Q hr hq;simp only[sx,hr.cell];exact hq
 refine WN.KQ (enc:=encI) (ev:=Xp) hS.li eqI (sw,pr,ad,po) (afy _) (λN=> ?_) (λnb bv=> ?_)
 ·have hk:∀y∈v.L,y.k≠(sw,pr,ad,po):=λy hy e=>by
   have:=(g.li _ _).2 ⟨y,hy,e,rfl⟩;rw[N] at this;cases this
  refine⟨_,rfl,?_⟩;refine iC (k:= .int .i64) (i:=29) (x:=d29) r2 rfl (iC (k:= .int .i64) (i:=32) (x:=d32) r2 rfl (iC (k:= .int .i64) (i:=31) (x:=d31) r2 rfl ?_));refine iI λo w4 r4 e4 z4 f4=> ?_;refine iJ r4 rfl rfl λw5 r5 f5 z5=> ?_;have x5:Ext w3.drew w5:=f4.new (f5 (·=o) rfl) λy hy e=>by omega
  have r1:=r1.ext x5;have r2:=r2.ext x5;have r3:=r3.ext x5;have xw:=x3.trans x5;intro J;have hJ:J false:=by
   simp only[J,cond_false];refine iC (k:= .int .i64) (i:=0) (x:=d0) r2 rfl ?_;by_cases h0:d0=0
   ·have:(d0==0)=true:=by simpa using h0
    rw[this,cond_true];refine fin _ _ r2.drew r3.drew λw' f'=>hK 0 d0 d31 d32 w' A v (outT (Out.same h g u (xw.trans (Ext.drew w5))) (by have:=r3.lt;exact this) (λy hy e=>nt (e ▸ hy)) f') (Fq.none h0 hk)
   have:(d0==0)=false:=by simpa using h0
   rw[this,cond_false];refine iC (k:= .int .i64) (i:=0) (x:=sw) r1 rfl (iC (k:= .int .i64) (i:=1) (x:=pr) r1 rfl (iC (k:= .int .i64) (i:=2) (x:=ad) r1 rfl (iC (k:= .int .i64) (i:=3) (x:=po) r1 rfl ?_)));refine rdO _ _ _ r5 (rdA _ _ r2 ?_);have zt:t<w5.heap.size:=r3.lt;refine aeO (b:=⟨sw,pr,ad,po,d29,d32,d31,true⟩) (h.ext xw) g u ht hm rfl hk (by omega) ?_ ?_ ?_
   ·intro hf w6 f6;refine fin2 _ _ d0 d1 d2 d3 d4 d5 d6 d7 d8 d9 d10 d11 d12 d13 d14 d15 d16 d17 d18 d19 d20 d21 d22 d23 d24 d25 d26 d27 d28 d29 d30 d31 d32 (r3.ext f6) λw' f'=>hK 8 d0 d31 d32 w' A v (outT (Out.same h g u (xw.trans f6)) (r3.ext f6).lt (λy hy e=>nt (e ▸ hy)) f') (Fq.full h0 hk hf)
   ·intro hf bw w6 f6;refine fin2 _ _ d0 d1 d2 d3 d4 d5 d6 d7 d8 d9 d10 d11 d12 d13 d14 d15 d16 d17 d18 d19 d20 d21 d22 d23 d24 d25 d26 d27 d28 d29 d30 d31 d32 (r3.ext f6) λw' f'=>hK _ d0 d31 d32 w' A v (outT (Out.same h g u (xw.trans f6)) (r3.ext f6).lt (λy hy e=>nt (e ▸ hy)) f') (Fq.map h0 hk hf bw)
   ·intro hf bw w6 A' v' n id i ho hL O hS';have ho':Out c Z w A v w6 A' v':=⟨ho.srv,ho.good,xw.fr ho.fr,ho.s,ho.x,λy hy=>(ho.sub y hy).imp_right λh=>by have:=xw.size;omega,ho.now,ho.most,ho.tn,ho.nx,ho.en,ho.el⟩;have rt:=r3.fr ho.fr nt;refine fin2 _ _ (min d0 86400) d1 d2 d3 d4 d5 d6 d7 d8 d9 d10 d11 d12 d13 d14 d15 d16 d17 d18 d19 d20 d21 d22 d23 d24 d25 d26 d27 d28 d29 d30 d31 d32 rt λw' f'=>hK 0 _ d31 d32 w' A' v' (outT ho' rt.lt (λy hy e=> ?_) f') (Fq.add h0 hk hf bw hL O hS');subst e;rcases ho.sub _ hy with h|h
    ·exact nt h
    ·omega
  clear_value J;refine iC (k:= .int .i64) (i:=0) (x:=d0) r2 rfl ?_
  cases (d0==0) with
  |true=>exact hJ
  |false=>exact hJ
 ·obtain⟨x,hx,bx,bE⟩:=(g.li _ _).1 bv;subst bE;refine⟨some ⟨x.blk,0,none⟩,rfl,?_⟩;refine iC (k:= .int .i64) (i:=29) (x:=d29) r2 rfl (iC (k:= .int .i64) (i:=32) (x:=d32) r2 rfl (iC (k:= .int .i64) (i:=31) (x:=d31) r2 rfl ?_));refine iI λo w4 r4 e4 z4 f4=> ?_;refine iJ r4 rfl rfl λw5 r5 f5 z5=> ?_;have x5:Ext w3.drew w5:=f4.new (f5 (·=o) rfl) λy hy e=>by omega
  have r1:=r1.ext x5;have r2:=r2.ext x5;have r3:=r3.ext x5;have xw:=x3.trans x5;have zt:t<w5.heap.size:=r3.lt;have na:¬jS A v.L a:=bC a (by have:=f1.size;omega);intro J;have bF:d0≠0->J false:=by
   intro h0;simp only[J,cond_false];refine iC (k:= .int .i64) (i:=0) (x:=d0) r2 rfl ?_;have:(d0==0)=false:=by simpa using h0
   rw[this,cond_false,cond_true];refine rdO _ _ _ r5 (rdA _ _ r2 ?_);refine af6 (h.ext xw) g u ht hx (by omega) ?_ ?_
   ·intro c1 c2 w6 f6;refine fin2 _ _ d0 d1 d2 d3 d4 d5 d6 d7 d8 d9 d10 d11 d12 d13 d14 d15 d16 d17 d18 d19 d20 d21 d22 d23 d24 d25 d26 d27 d28 d29 d30 d31 d32 (r3.ext f6) λw' f'=>hK 11 d0 d31 d32 w' A v (outT (Out.same h g u (xw.trans f6)) (r3.ext f6).lt (λy hy e=>nt (e ▸ hy)) f') (Fq.ext h0 hx bx c1 c2)
   ·intro hc w6 A' v' ho hL hE;have ho':Out c Z w A v w6 A' v':=⟨ho.srv,ho.good,xw.fr ho.fr,ho.s,ho.x,λy hy=>(ho.sub y hy).imp_right λh=>by have:=xw.size;omega,ho.now,ho.most,ho.tn,ho.nx,ho.en,ho.el⟩;have rt:=r3.fr ho.fr nt;refine fin2 _ _ (min d0 86400) d1 d2 d3 d4 d5 d6 d7 d8 d9 d10 d11 d12 d13 d14 d15 d16 d17 d18 d19 d20 d21 d22 d23 d24 d25 d26 d27 d28 d29 d30 x.b.opo x.b.oad rt λw' f'=>hK 0 _ _ _ w' A' v' (outT ho' rt.lt (λy hy e=> ?_) f') (Fq.renew h0 hx bx hc hL hE);subst e;rcases ho.sub _ hy with h|h
    ·exact nt h
    ·omega
  have bG:d0=0->J true:=by
   intro h0;simp only[J,cond_true];obtain⟨bH,i,hi⟩:=g.eb x hx;refine xB (La (h.ext xw) g.inv g.ns hx hi bH) ?_;rintro w6 ⟨f6,ss,F,Mi,Mo,Q,G,bD,bz,hS6⟩;have gd:=g.drop h hx hi (P':=[]) (λid hid=>Iff.rfl) F bz;have rt:=(r3.fr f6 nt).drew;have ho':Out c Z w A v w6.drew {A with ss:=ss} _:=⟨hS6.ext (Ext.drew w6),gd,(xw.fr f6).ext (Ext.drew w6),rfl,rfl,acT (TY rfl rfl rfl rfl (λy hy=> .inl hy) λy hy=>(bD y hy).imp_right λh=>by have:=xw.size;omega),rfl,rfl,(by show v.tn<=v.tn+1;omega),u,rfl,rfl⟩;refine fin _ _ (r2.fr f6 na).drew rt λw' f'=>hK 0 d0 d31 d32 w' _ _ (outT ho' rt.lt (λy hy e=> ?_) f') (Fq.drop h0 hx bx hi rfl rfl);subst e;rcases acT (TY (A:=A) (A':={A with ss:=ss}) (L:=v.L) (L':=v.L) (n:=w5.heap.size) rfl rfl rfl rfl (λy hy=> .inl hy) bD) _ hy with h|h
   ·exact nt h
   ·omega
  clear_value J;refine iC (k:= .int .i64) (i:=0) (x:=d0) r2 rfl ?_;by_cases h0:d0=0
  ·have:(d0==0)=true:=by simpa using h0
   rw[this,cond_true];exact bG h0
  ·have:(d0==0)=false:=by simpa using h0
   rw[this,cond_false];exact bF h0
end Go.Proofs.PS
end
section
namespace Go.Proofs.PS
open Gp Go.Proofs Go.Proofs.EN Go.Proofs.PM
open Gp.V4 (num)
open Gp.Bind (Bnd Slots live GoodB freeN getS In64)
open Gp.Wh (Tm)
variable {w w':World} {A:SA} {c:Cf} {Z:Bnd->Prop} {v:SV}
theorem Yw {x0 x1 x2 x3 x4 x5 x6 x7 x8 x9 u I J N O R y0 y1 y2 y3 y4 y5 y6 y7 y8 y9 U Y aa ab ac ae:Int} {l m:List UInt8} (hx:[x0,x1,x2,x3,x4,x5,x6,x7,x8,x9,u,I,J,N,O,R]=bi l) (hy:[y0,y1,y2,y3,y4,y5,y6,y7,y8,y9,U,Y,aa,ab,ac,ae]=bi m):
  ((x0==y0) && ((x1==y1) && ((x2==y2) && ((x3==y3) && ((x4==y4) && ((x5==y5) && ((x6==y6) && ((x7==y7) && ((x8==y8) && ((x9==y9) && ((u==U) && ((I==Y) && ((J==aa) && ((N==ab) && ((O==ac) && ((R==ae) && true))))))))))))))))=decide (l=m):=by
 have h1:(l=m)↔([x0,x1,x2,x3,x4,x5,x6,x7,x8,x9,u,I,J,N,O,R]=[y0,y1,y2,y3,y4,y5,y6,y7,y8,y9,U,Y,aa,ab,ac,ae]):=⟨λh=>by rw[hx,hy,h],λh=>aip (by rw[<- hx,<- hy,h])⟩;have h2:decide (l=m)=decide ([x0,x1,x2,x3,x4,x5,x6,x7,x8,x9,u,I,J,N,O,R]=[y0,y1,y2,y3,y4,y5,y6,y7,y8,y9,U,Y,aa,ab,ac,ae]):=decide_eq_decide.2 h1;rw[h2];have ib:∀x y:Int,(x==y)=decide (x=y):=λ_ _=>rfl;simp only[ib,List.cons.injEq,Bool.decide_and,and_true,decide_true,Bool.and_true]
def aeL (l:List UInt8) (sw ad:Int):Bnd:=⟨sw,(Bc l).pr,ad,(Bc l).po,(Bc l).pr,(Bc l).ad,(Bc l).ou,true⟩
def NH (l:List UInt8):List UInt8:=(l.drop 8).take 16
def Q7 (l:List UInt8):List UInt8:=(l.drop 24).take 12
def mg (l:List UInt8) (r e0 e31 e32:Int):PA:=⟨if r=0 then e0 else 30,(Bc l).pr,(Bc l).po,e31,e32⟩
inductive Qx (c:Cf) (v:SV) (sw ad:Int) (l:List UInt8):Int->List UInt8->SV->Prop
 |bad:jT l 1≠0->Qx c v sw ad l (jT l 1) [] v
 |far:jT l 1=0->NH l≠mapped ad->Qx c v sw ad l (if Dj 12 ((v.now % 4294967296:Nat):Int) (mg l 12 0 (Bc l).ou (Bc l).ad) then 0 else 1) (if Dj 12 ((v.now % 4294967296:Nat):Int) (mg l 12 0 (Bc l).ou (Bc l).ad) then Hg 12 ((v.now % 4294967296:Nat):Int) (Q7 l) (mg l 12 0 (Bc l).ou (Bc l).ad) else []) v
 |ans {r e0 e31 e32:Int} {v':SV}:jT l 1=0->NH l=mapped ad->Fq c v (aeL l sw ad) (Bc l).lf r e0 e31 e32 v'->Qx c v sw ad l (if Dj r ((v.now % 4294967296:Nat):Int) (mg l r e0 e31 e32) then 0 else 1) (if Dj r ((v.now % 4294967296:Nat):Int) (mg l r e0 e31 e32) then Hg r ((v.now % 4294967296:Nat):Int) (Q7 l) (mg l r e0 e31 e32) else []) v'
theorem afI {n:Nat} (h:n<2^62):DY .i64 (n:Int) 4294967295=((n % 4294967296:Nat):Int):=by
 obtain⟨h1,_⟩:=mask32 (a:=(n:Int)) (by unfold In64;omega);rw[h1];omega
theorem aaE (h:Srv w A c v) (g:Good c Z v []) (U:0<=v.nx/\v.nx<8192) (ht:v.tn<2^62) (hm:v.most<=4096) {sw ad:Int} (aq:In64 ad) {s:iq} {l:List UInt8} (hs:qy w s l) (hl:l.length<=2^40) {K:iq->Int->b_}
  (hK:∀s' e bs w' A' v',Out c Z w A v w' A' v'->Qx c v sw ad l e bs v'->Buf w' s' (bytesV bs)->(∀b,iq.at s' b->w.heap.size<=b/\¬jS A' v'.L b)->K s' e w'):
  ni (some ⟨A.s,0,none⟩) sw ad s w K:=by
 apply J_;have hnow:=h.wh.wi.nw;have hwn:=g.wn;have ar:=afI (n:=v.now) (by omega);refine nV (Ad h) ?_;rintro _ w0 ⟨rfl,hw0⟩;subst hw0;rw[Bool.not_true,cond_false];refine afT hs hl λd0 d1 d2 d3 d4 d5 d6 d7 d8 d9 d10 d11 d12 d13 d14 d15 d16 d17 d18 d19 d20 d21 d22 d23 d24 d25 d26 d27 d28 d29 d30 d31 d32 w1 f1 hp=> ?_;refine iI λa w2 r2 e2 z2 f2=> ?_;refine iJ r2 rfl rfl λw3 r3 f3 z3=> ?_;have x3:Ext w0 w3:=(f1.trans f2).new (f3 (·=a) rfl) λy hy e=>by have:=f1.size;omega
 have Y:w0.heap.size<=a:=by have:=f1.size;omega
 have aa:∀y,w0.heap.size<=y->¬jS A v.L y:=λy hy ⟨k,hk⟩=>by have:=h.lt k y hk;omega
 by_cases he:jT l 1=0;rotate_left
 ·have:(jT l 1 !=0)=true:=by rw[bne_iff_ne];exact he
  rw[this,cond_true];exact hK _ _ [] w3 A v (Out.same h g U x3) (Qx.bad he) Buf.nil λb ⟨o,hb⟩=>by cases hb
 have:(jT l 1 !=0)=false:=by rw[bne_eq_false_iff_eq];exact he
 rw[this,cond_false];obtain⟨p0,pc,pn,ae,af,ag,ah⟩:=hp he;have hlen:l.length=60:=by
  unfold jT at he;split at he
  ·omega
  split at he
  ·omega
  omega
 have c16:(NH l).length=16:=by unfold NH;rw[length_take,length_drop];omega
 have n12:(Q7 l).length=12:=by unfold Q7;rw[length_take,length_drop];omega
 have answ:∀W A' v' r e0 u I,Out c Z w0 A v W A' v'->Row W a (iU (mg l r e0 u I).lf d1 d2 d3 d4 d5 d6 d7 d8 d9 d10 d11 d12 d13 d14 d15 d16 d17 d18 d19 d20 d21 d22 d23 d24 d25 d26 d27 d28 d29 d30 u I)->(∀y,jS A' v'.L y->¬y=a)->v'.now=v.now->
   (Qx c v sw ad l (if Dj r ((v.now % 4294967296:Nat):Int) (mg l r e0 u I) then 0 else 1) (if Dj r ((v.now % 4294967296:Nat):Int) (mg l r e0 u I) then Hg r ((v.now % 4294967296:Nat):Int) (Q7 l) (mg l r e0 u I) else []) v')->
   Pt (some ⟨A.s,0,none⟩) λa50=>Ld (.int .i64) W.drew (a50.add 4) λau=>jD W.drew ⟨a,0,none⟩ λx0 x1 x2 x3 x4 x5 x6 x7 x8 x9 av aw ax ay az aA aB aC aD aE aF aG aH aI aJ aK aL aM aN aO aP aQ aR=>wC r (DY .i64 au 4294967295) x0 x1 x2 x3 x4 x5 x6 x7 x8 x9 av aw ax ay az aA aB aC aD aE aF aG aH aI aJ aK aL aM aN aO aP aQ aR W.drew λaS aT aU=>K aS aT aU:=by
  intro W A' v' r e0 u I ho hr N ab O;have hA:A'.s=A.s:=ho.s;have hd:=ho.srv.hd.drew;rw[hA] at hd;have hr:=hr.drew;refine jc.2 (iC (k:= .int .i64) (i:=4) (x:=(v'.now:Int)) hd rfl ?_);simp only[sx,hr.cell];rw[ab,ar];refine Wi (adr (no:=Q7 l) n12 pn) ?_;rintro s' e w9 ⟨f9,he9,b9,n9⟩;have aV:(⟨(mg l r e0 u I).lf,d29,d30,u,I⟩:PA)=mg l r e0 u I:=by
   rw[ae,af];rfl
  rw[aV] at he9 b9;rw[<- he9] at O;have xx:=(Ext.drew W).trans f9;refine hK s' e _ w9 A' v' ⟨ho.srv.ext xx,ho.good,ho.fr.ext xx,ho.s,ho.x,ho.sub,ho.now,ho.most,ho.tn,ho.nx,ho.en,ho.el⟩ O b9 λy hy=> ?_;have h1:=n9 y hy;have h2:=ho.fr.size;have h3:W.drew.heap.size=W.heap.size:=rfl;refine⟨by omega,λ⟨k,hk⟩=> ?_⟩;have:=ho.srv.lt k y hk;omega
 intro J;have hJ:∀W A' v' r e0 u I,Out c Z w0 A v W A' v'->Row W a (iU e0 d1 d2 d3 d4 d5 d6 d7 d8 d9 d10 d11 d12 d13 d14 d15 d16 d17 d18 d19 d20 d21 d22 d23 d24 d25 d26 d27 d28 d29 d30 u I)->(∀y,jS A' v'.L y->¬y=a)->v'.now=v.now->
   (Qx c v sw ad l (if Dj r ((v.now % 4294967296:Nat):Int) (mg l r e0 u I) then 0 else 1) (if Dj r ((v.now % 4294967296:Nat):Int) (mg l r e0 u I) then Hg r ((v.now % 4294967296:Nat):Int) (Q7 l) (mg l r e0 u I) else []) v')->J r W:=by
  intro W A' v' r e0 u I ho hr N ab O;simp -zeta only[J];intro J2;have hJ2:∀W,Out c Z w0 A v W A' v'->Row W a (iU (mg l r e0 u I).lf d1 d2 d3 d4 d5 d6 d7 d8 d9 d10 d11 d12 d13 d14 d15 d16 d17 d18 d19 d20 d21 d22 d23 d24 d25 d26 d27 d28 d29 d30 u I)->J2 W:=λW ho hr=>answ W A' v' r e0 u I ho hr N ab O;clear_value J2;by_cases hr0:r=0
  ·have:(r !=0)=false:=by rw[bne_eq_false_iff_eq];exact hr0
   rw[this,cond_false];have et:(mg l r e0 u I).lf=e0:=by unfold mg;rw[if_pos hr0]
   refine hJ2 W ho ?_;rw[et];exact hr
  ·have:(r !=0)=true:=by rw[bne_iff_ne];exact hr0
   rw[this,cond_true];have et:(mg l r e0 u I).lf=30:=by unfold mg;rw[if_neg hr0]
   refine iK hr rfl (by simp) λw9 r9 f9' z9=> ?_;have f9:iG W w9 (·=a):=f9' _ rfl;refine hJ2 w9 ⟨ho.srv.fr f9 λk y hy e=>N y ⟨k,hy⟩ e,ho.good,ho.fr.trans f9 λy hy e=>by omega,ho.s,ho.x,ho.sub,ho.now,ho.most,ho.tn,ho.nx,ho.en,ho.el⟩ ?_;rw[et];exact r9
 clear_value J;have r3d:=r3.drew;have aW:bytesV (NH l)=jH d1 d2 d3 d4 d5 d6 d7 d8 d9 d10 d11 d12 d13 d14 d15 d16:=by rw[uH];unfold NH;rw[<- pc];rfl
 refine BD (o:=1) (m:=NH l) (A:=[.int .i64 d0]) (C:=[.int .u8 d17,.int .u8 d18,.int .u8 d19,.int .u8 d20,.int .u8 d21,.int .u8 d22,.int .u8 d23,.int .u8 d24,.int .u8 d25,.int .u8 d26,.int .u8 d27,.int .u8 d28,.int .i64 d29,.int .i64 d30,.int .i64 d31,.int .i64 d32]) r3d (by rw[aW];rfl) rfl c16 λu0 u1 u2 u3 u4 u5 u6 u7 u8 u9 ai aj ak al am an hx=> ?_;have ao:[u0,u1,u2,u3,u4,u5,u6,u7,u8,u9,ai,aj,ak,al,am,an]=[d1,d2,d3,d4,d5,d6,d7,d8,d9,d10,d11,d12,d13,d14,d15,d16]:=hx.trans pc.symm;simp only[List.cons.injEq,and_true] at ao;obtain⟨rfl,rfl,rfl,rfl,rfl,rfl,rfl,rfl,rfl,rfl,rfl,rfl,rfl,rfl,rfl,rfl⟩:=ao;refine QV aq λq0 q1 q2 q3 q4 q5 q6 q7 q8 q9 q10 q11 q12 q13 q14 q15 w4 hy f4=> ?_;have x4:=(x3.trans (Ext.drew w3)).trans f4;have r4:=r3d.ext f4;have aX:∀R:Prop,R->CkN (jH u0 u1 u2 u3 u4 u5 u6 u7 u8 u9 ai aj ak al am an) w4 (Addr.add ⟨a,0,none⟩ 1) 0 R:=by
  intro R hR;simp only[sx,zo,Di,r4.cell,true_and];exact hR
 refine aX _ ?_;rw[Yw (hx.trans (by rfl)) hy];by_cases hc:NH l=mapped ad;rotate_left
 ·rw[decide_eq_false hc,cond_false];have e:mg l 12 d0 d31 d32=mg l 12 0 (Bc l).ou (Bc l).ad:=by rw[ag,ah];rfl
  refine hJ w4 A v 12 d0 d31 d32 (Out.same h g U x4) r4 (λy hy e=>aa a Y (e ▸ hy)) rfl ?_;rw[e];exact Qx.far he hc
 rw[decide_eq_true hc,cond_true];simp only[sx,r4.cell];refine aio (h.ext x4) g U ht hm (by have:=PM.acQ l 4;omega) λr e0 u I w5 A' v' ho ac=> ?_;have ho':Out c Z w0 A v w5 A' v':=⟨ho.srv,ho.good,x4.fr ho.fr,ho.s,ho.x,λy hy=>(ho.sub y hy).imp_right λh=>by have:=x4.size;omega,ho.now,ho.most,ho.tn,ho.nx,ho.en,ho.el⟩;have r5:=r4.fr ho.fr (aa a Y);refine iJ r5 rfl rfl λw6 r6 f6' z6=> ?_;have f6:iG w5 w6 (·=a):=f6' _ rfl;have N:∀y,jS A' v'.L y->¬y=a:=λy hy e=>by
  subst e;rcases ho.sub _ hy with h|h
  ·exact aa y Y h
  ·have:=r4.lt;omega
 refine hJ w6 A' v' r e0 u I ⟨ho'.srv.fr f6 λk y hy e=>N y ⟨k,hy⟩ e,ho'.good,ho'.fr.trans f6 λy hy e=>by omega,ho'.s,ho'.x,ho'.sub,ho'.now,ho'.most,ho'.tn,ho'.nx,ho'.en,ho'.el⟩ r6 N ho.now (Qx.ans he hc ?_);have eb:aeL l sw ad=⟨sw,d29,ad,d30,d29,d32,d31,true⟩:=by rw[ae,af,ag,ah];rfl
 have e0':(Bc l).lf=d0:=p0.symm;rw[eb,e0'];exact ac
end Go.Proofs.PS
end
section
namespace Go.Proofs.EN
open Gp Go.Proofs
open Gp.Bind (Bnd Slots live GoodB freeN getS In64)
variable {w w':World} {a:EA} {c:Cf} {e:ES}
def eB (b:Bnd):List Value:=[.int .i64 b.sw,.int .i64 b.pr,.int .i64 b.ad,.int .i64 b.po,.int .i64 b.opr,.int .i64 b.oad,.int .i64 b.opo,.bool b.st]
theorem Ei (b:Bnd):(eB b).length=8:=rfl
theorem ae6 (b:Bnd):∀v∈eB b,jr v=true:=by
 intro v hv;simp only[eB,mem_cons,List.not_mem_nil,or_false] at hv;rcases hv with rfl|rfl|rfl|rfl|rfl|rfl|rfl|rfl<;>rfl
def eS (b:Gp.Ses.Ses):List Value:=[.int .i64 b.bd,.int .i64 b.st,.int .i64 b.un,.int .i64 b.ra,.int .i64 b.rp]
theorem abq (b:Gp.Ses.Ses):(eS b).length=5:=rfl
theorem ais (b:Gp.Ses.Ses):∀v∈eS b,jr v=true:=by
 intro v hv;simp only[eS,mem_cons,List.not_mem_nil,or_false] at hv;rcases hv with rfl|rfl|rfl|rfl|rfl<;>rfl
def Dq (x:Int):Value:= .int .i64 x
theorem eqN (a b:Int):FH Tryz.prog 16 3 (Dq a) (Dq b)=some (decide (a=b)):=WN.eqW a b
theorem Z_ (a:Int):oQ Tryz.prog 3 (Dq a)=true:=WN.abD a
def plk (l:List (Int×Bnd)) (k:Int):Option Int:=(l.zipIdx.reverse.find? λx=>x.1.1==k).map λx=>(x.2:Int)
theorem afW (l:List (Int×Bnd)) (x:Int×Bnd) (k:Int):plk (l++[x]) k=if k=x.1 then some (l.length:Int) else plk l k:=by
 unfold plk;rw[List.zipIdx_append,List.reverse_append];simp only[List.zipIdx_cons,List.zipIdx_nil,List.reverse_cons,List.reverse_nil,List.nil_append,List.singleton_append,List.find?_cons];by_cases h:k=x.1
 ·subst h;simp
 ·have:(x.1==k)=false:=by simpa using λe=>h e.symm
  simp[this,h]
def SE (e:ES):List Gp.Ses.Ses:=(Gp.Ses.live 0 e.SS).map λx=>{x.2 with bd:=(plk (live 0 e.S) x.2.bd).getD 0}
theorem acA (d:Nat) (w:World) {K:Value->b_} (h:∀f w',Row w' f [.pointer (some ⟨d,0,none⟩)]->f=w.heap.size->w'.heap.size=f+1->Ext w w'->K (Value.func (.func Iu) #[] #[(Value.pointer (some ⟨f,0,none⟩))]) w'):Bl (some ⟨d,0,none⟩) w K:=by
 apply Ve;exact⟨rfl,iI λf w1 r1 e1 z1 f1=>h f w1 r1 e1 z1 f1⟩
theorem ahI (d:Nat) (w:World) {K:Value->b_} (h:∀f w',Row w' f [.pointer (some ⟨d,0,none⟩)]->f=w.heap.size->w'.heap.size=f+1->Ext w w'->K (Value.func (.func Aq) #[] #[(Value.pointer (some ⟨f,0,none⟩))]) w'):w_ (some ⟨d,0,none⟩) w K:=by
 apply KC;exact⟨rfl,iI λf w1 r1 e1 z1 f1=>h f w1 r1 e1 z1 f1⟩
theorem aaQ (h:wQ w a c e):mO (some ⟨a.d,0,none⟩) w λn w'=>n=(e.l.length:Int)/\w'=w:=WN.ahN h.wh.wm
def vwC (now:Nat) (bs ss:iq) (t:Nat):List Value:=[.int .i64 (now:Int),.slice bs.a bs.len bs.cap,.slice ss.a ss.len ss.cap,.int .i64 0,.int .i64 0,.int .i64 (t:Int),.slice none 0 0]
def FM:iq:=⟨none,0,0⟩
theorem take_succ {α:Type} {l:List α} {i:Nat} {x:α} (h:l[i]? =some x):l.take (i+1)=l.take i++[x]:=by
 obtain⟨hi,hx⟩:=List.getElem?_eq_some_iff.1 h;rw[List.take_succ_eq_append_getElem hi,hx]
theorem ac3 (h:wQ w a c e) (hsz:e.S.length<=4096/\e.SS.length<=4096) {K:Int->iq->iq->Int->Int->Int->iq->b_}
  (hK:∀bs ss w',Ext w w'->iW 8 eB w' bs ((live 0 e.S).map (·.2))->iW 5 eS w' ss (SE e)->(∀b,iq.at bs b->w.heap.size<=b)->(∀b,iq.at ss b->w.heap.size<=b)->K (e.now:Int) bs ss 0 0 (e.l.length:Int) FM w'):
  lH (some ⟨a.x,0,none⟩) w K:=by
 apply MF;refine iI λr w1 r1 e1 z1 f1=> ?_;have h1:=h.ext f1;refine lV (DN h1) ?_;rintro _ w1 ⟨rfl,hw⟩;subst hw;rw[Bool.not_true,cond_false];intro J;have hJ:∀vb W,Ext w1 W->Row W vb (vwC e.now FM FM e.l.length)->w1.heap.size<=vb->J ⟨vb,0,none⟩ W:=by
  intro vb W hW hv hvb;simp only[J];refine SN.G7 (enc:=Dq) (ev:=Dq) λw2 m2 z2 f2=> ?_;refine iI λq w3 r3 e3 z3 f3=> ?_;refine iK r3 rfl (by simp) λw4 r4 f4' z4=> ?_;have f4:iG w3 w4 (·=q):=f4' _ rfl;simp only[List.set_cons_zero] at r4;have hvl:=hv.lt;have x4:Ext W w4:=(f2.trans f3).new f4 λy hy e=>by omega
  have m4:=(m2.ext f3).fr f4 (by omega);have h4:=h1.ext (hW.trans x4);have v4:=hv.ext x4;refine jc.2 (iC (k:= .ptr) (i:=2) (x:=some ⟨a.B.d,0,none⟩) h4.hd rfl ?_);refine acA a.B.d w4 λf w5 r5 e5 z5 f5=> ?_;have h5:=h4.ext f5;have m5:=m4.ext f5;have v5:=v4.ext f5;have q5:=r4.ext f5;have zW:w1.heap.size<=W.heap.size:=hW.size;have z14:W.heap.size+2<=w4.heap.size/\q<w4.heap.size/\W.heap.size<q:=by omega
  have I:∀k b,own a k b->b<w1.heap.size:=λk b hb=>Nat.lt_of_lt_of_le (h.lt k b hb) f1.size;have hla:mV none w5=w5.heap.size+1:=rfl;have hmp:W.heap.size≠q/\W.heap.size≠vb/\q≠vb:=by omega
  refine CQ (Go.Proofs.O5 c.nb.toNat e.S e.Mi e.Mo a.B f) (λi X=>∃bs M,Row X vb (vwC e.now bs FM e.l.length)/\iW 8 eB X bs (((live 0 e.S).map (·.2)).take i)/\rH Dq Dq X W.heap.size M/\(∀k,kT M k=plk ((live 0 e.S).take i) k)/\
    iG w5 X (λb=>b=vb\/b=W.heap.size)/\(∀b,iq.at bs b->mV none w5<b)/\w5.heap.size+2<=X.heap.size)
   (λ_ _=>False) (by simp) ?_ ?_ ?_ (by intro e W W' h;exact h.elim) (by intro e W h;exact h.elim) ?_ ?_ (by intro W h;exact h.elim) (by intro id W h;exact h.elim)
  ·intro X hX hz;refine⟨FM,[],v5.ext hX,by simpa [FM] using iW.nil,m5.ext hX,λk=>rfl,hX _,(λb ⟨o,hb⟩=>by cases hb),by omega⟩
  ·rintro i X ⟨bs,M,h1,h2,h3,h4',h5',h6,h7⟩;have hn:∀b,b<w1.heap.size->¬(b=vb\/b=W.heap.size):=λb hb e=>by omega
   exact⟨r5.fr h5' (by omega),(h5.db).fr h5' λb hb=>hn b (I 3 b hb)⟩
  ·rintro i X X' ⟨bs,M,h1,h2,h3,h4',h5',h6,h7⟩ hf;exact⟨bs,M,h1.fr hf (by omega),h2.fr hf λb hb e=>by have:=h6 b hb;omega,h3.fr hf (by omega),h4',h5'.trans hf λb hb e=>by omega,h6,by have:=hf.size;omega⟩
  ·rintro i x X Kb hx ⟨bs,M,h1,h2,h3,h4',h5',h6,h7⟩ aa hk _;rw[show yD (live 0 e.S)=(live 0 e.S).map _ from rfl,getElem?_map] at hx
   cases hb:(live 0 e.S)[i]? with
   |none=>rw[hb] at hx;simp at hx
   |some p=>
   rw[hb] at hx;simp only[map_some,Option.some.injEq] at hx;subst hx;have am:i<(live 0 e.S).length:=(List.getElem?_eq_some_iff.1 hb).1;have an:=Gp.Bind.lX e.S 0;have ak:bs.len=i:=by rw[(h2.sl Ei (by omega)).len,length_take,length_map];omega
   refine iI λu w6 r6 e6 z6 f6=> ?_;refine iJ r6 rfl rfl λw7 r7 f7' z7=> ?_;have x7:Ext X w7:=f6.new (f7' (·=u) rfl) λy hy e=>by omega
   refine⟨(x7 λ_=>False).same _ aa (by simp),?_⟩;have fb:=iG.iD w7 (mV none w5);have zb:(iD w7 (mV none w5)).heap.size=w7.heap.size:=by simp[iD]
   have hX7:=x7.size;have v8:=(h1.ext x7).fr fb (by omega);have b8:=(h2.ext x7).fr fb λb hb e=>by have:=h6 b hb;omega
   have m8:=(h3.ext x7).fr fb (by omega);have q8:=((q5.fr h5' (by omega)).ext x7).fr fb (by omega);have u8:=r7.fr fb (by omega);refine iC (k:= .map) (i:=0) (x:=some W.heap.size) q8 rfl (iC (k:= .slice) (i:=1) (x:=bs) v8 rfl ?_);refine Ug (enc:=Dq) (ev:=Dq) m8 eqN p.1 (bs.len:Int) (Z_ _) λw9 m9 f9 z9=> ?_;have v9:=v8.fr f9 (by omega);have b9:=b8.fr f9 λb hb e=>by have:=h6 b hb;omega
   have u9:=u8.fr f9 (by omega);refine iC (k:= .slice) (i:=1) (x:=bs) v9 rfl ?_;simp only[sx,u9.cell];refine iI λy R U e10 ao f10=> ?_;have sl:mY 8 eB R ⟨some ⟨y,0,none⟩,1,1⟩ [p.2]:=(iW.row (xs:=[p.2]) (by simpa [eB] using U)).sl Ei (by omega);refine iV Ei (b9.ext f10) sl rfl (by omega) ae6 (by simp;omega) (by simp;omega) λs' ab aq f11 ar=> ?_;have ac:¬iq.at bs vb:=λhb=>by have:=h6 vb hb;omega
   have au:¬iq.at bs W.heap.size:=λhb=>by have:=h6 _ hb;omega
   have av:=(v9.ext f10).fr f11 ac;have m11:=(m9.ext f10).fr f11 au;refine iK av rfl (by simp[vwC]) λO aw ae z12=> ?_;have f12:iG ab O (·=vb):=ae _ rfl;have hs':∀b,iq.at s' b->mV none w5<b:=λb hb=>by
    rcases ar b hb with h|h
    ·exact h6 b h
    ·omega
   have fr:iG (iD X (mV none w5)) O (λb=>b=vb\/b=W.heap.size\/iq.at bs b):=by
    have g1:iG (iD X (mV none w5)) w9 (λb=>b=vb\/b=W.heap.size\/iq.at bs b):=(CN.zu (x7 _) _).trans f9 λb _ hb=> .inr (.inl hb);exact((g1.ext f10).trans f11 λb _ hb=> .inr (.inr hb)).trans f12 λb _ hb=> .inl hb
   refine hk O _ fr ?_ ⟨s',_,?_,?_,m11.fr f12 (by omega),?_,?_,hs',?_⟩
   ·rintro b hb1 hb2 (h|h|h)
    ·omega
    ·omega
    ·have:=h6 b h;omega
   ·exact aw
   ·have af:((live 0 e.S).map (·.2)).take (i+1)=((live 0 e.S).map (·.2)).take i++[p.2]:=take_succ (by rw[getElem?_map,hb];rfl);rw[af];exact aq.fr f12 λb hb e=>by have:=hs' b hb;omega
   ·intro k;rw[Np,take_succ hb,afW,h4',length_take,ak,Nat.min_eq_left (by omega)]
   ·refine(h5'.trans (iG.iD X _) λb hb e=>by omega).trans fr ?_;rintro b hb (h|h|h)
    ·exact .inl h
    ·exact .inr h
    ·have:=h6 b h;omega
   ·have:=fr.size;have ax:(iD X (mV none w5)).heap.size=X.heap.size:=by simp[iD]
    omega
  ·rintro X ⟨bs,M,b1,b2,b3,b4,b5,b6,b7⟩ hm;have ag:(yD (live 0 e.S)).length=(live 0 e.S).length:=by simp[yD]
   rw[ag] at b2 b4;rw[take_of_length_le (by simp)] at b2;rw[List.take_length] at b4;have hn:∀b,b<w1.heap.size->¬(b=vb\/b=W.heap.size):=λb hb e=>by omega
   have hX:=h5.fr b5 λk b hb=>hn b (I k b hb);refine jc.2 (iC (k:= .ptr) (i:=3) (x:=some ⟨a.T.d,0,none⟩) hX.hd rfl ?_);refine ahI a.T.d X λf' w6 r6 e6 z6 f6=> ?_;have hla':mV none w6=w6.heap.size+1:=rfl;have h6:=hX.ext f6;have m6:=b3.ext f6;have v6:=b1.ext f6;have q6:=(q5.fr b5 (by omega)).ext f6;have hm6:w6.heap[w5.heap.size]? =some (.deferred (some [])):=by
    rw[(f6 λ_=>False).same _ (by omega) (by simp)];exact hm rfl
   have hviewl:(SE e).length=(Gp.Ses.live 0 e.SS).length:=by simp[SE]
   have hlen6:X.heap.size<=w6.heap.size:=f6.size;refine CQ (SN.O5 c.ns.toNat e.SS e.M a.T f') (λi Y=>∃ss,Row Y vb (vwC e.now bs ss e.l.length)/\iW 5 eS Y ss ((SE e).take i)/\iG w6 Y (λb=>b=vb)/\(∀b,iq.at ss b->mV none w6<b)/\w6.heap.size+2<=Y.heap.size)
    (λ_ _=>False) (by simp) ?_ ?_ ?_ (by intro e W W' h;exact h.elim) (by intro e W h;exact h.elim) ?_ ?_ (by intro W h;exact h.elim) (by intro id W h;exact h.elim)
   ·intro Y hY hz;exact⟨FM,v6.ext hY,by simpa [FM] using iW.nil,hY _,(λb ⟨o,hb⟩=>by cases hb),by omega⟩
   ·rintro i Y ⟨ss,g1,g2,g3,g4,g5⟩;exact⟨r6.fr g3 (by omega),(h6.se).fr g3 λb hb e=>by have:=I 4 b hb;omega⟩
   ·rintro i Y Y' ⟨ss,g1,g2,g3,g4,g5⟩ hf;exact⟨ss,g1.fr hf (by omega),g2.fr hf λb hb e=>by have:=g4 b hb;omega,g3.trans hf λb hb e=>by omega,g4,by have:=hf.size;omega⟩
   ·rintro i x Y Kb hx ⟨ss,g1,g2,g3,g4,g5⟩ aa hk _;rw[show SN.yS (Gp.Ses.live 0 e.SS)=(Gp.Ses.live 0 e.SS).map _ from rfl,getElem?_map] at hx
    cases hb:(Gp.Ses.live 0 e.SS)[i]? with
    |none=>rw[hb] at hx;simp at hx
    |some p=>
    rw[hb] at hx;simp only[map_some,Option.some.injEq] at hx;subst hx;have am:i<(Gp.Ses.live 0 e.SS).length:=(List.getElem?_eq_some_iff.1 hb).1;have an:=Gp.Ses.lX e.SS 0;have ak:ss.len=i:=by rw[(g2.sl abq (by omega)).len,length_take];omega
    refine iI λu w7 r7 e7 z7 f7=> ?_;refine iJ r7 rfl rfl λw8 r8 f8' z8=> ?_;have x8:Ext Y w8:=f7.new (f8' (·=u) rfl) λy hy e=>by omega
    refine⟨(x8 λ_=>False).same _ aa (by simp),?_⟩;have fb:=iG.iD w8 (mV none w6);have zb:(iD w8 (mV none w6)).heap.size=w8.heap.size:=by simp[iD]
    have hY8:=x8.size;have v9:=(g1.ext x8).fr fb (by omega);have b9:=(g2.ext x8).fr fb λb hb e=>by have:=g4 b hb;omega
    have m9:=((m6.fr g3 (by omega)).ext x8).fr fb (by omega);have q9:=((q6.fr g3 (by omega)).ext x8).fr fb (by omega);have u9:=r8.fr fb (by omega);refine iC (k:= .map) (i:=0) (x:=some W.heap.size) q9 rfl (iC (k:= .int .i64) (i:=0) (x:=p.2.bd) u9 rfl ?_);have N:∀Q:Int->Prop,Q ((plk (live 0 e.S) p.2.bd).getD 0)->wV Tryz.prog 3 (.int .i64) (some W.heap.size) (Value.int .i64 p.2.bd) (Value.int .i64 0) (iD w8 (mV none w6)) Q:=by
     intro Q hQ;refine DX (k:= .int .i64) (enc:=Dq) (ev:=Dq) m9 eqN p.2.bd (Z_ _) (λhn=> ?_) (λb hb=> ?_)
     ·rw[b4] at hn;rw[hn] at hQ;simp only[iF];exact hQ
     ·rw[b4] at hb;rw[hb] at hQ;simp only[Dq,iF];exact hQ
    refine N _ ?_;refine iK u9 rfl (by simp) λR U ah ao=> ?_;have f10:iG (iD w8 (mV none w6)) R (·=u):=ah _ rfl;simp only[List.set_cons_zero] at U;have al:=v9.fr f10 (by omega);have ay:=b9.fr f10 λb hb e=>by have:=g2.lt hb;omega
    refine iC (k:= .slice) (i:=2) (x:=ss) al rfl ?_;simp only[sx,U.cell];refine iI λy ab az e11 z11 f11=> ?_;have sl:mY 5 eS ab ⟨some ⟨y,0,none⟩,1,1⟩ [({p.2 with bd:=(plk (live 0 e.S) p.2.bd).getD 0}:Gp.Ses.Ses)]:=(iW.row (xs:=[({p.2 with bd:=(plk (live 0 e.S) p.2.bd).getD 0}:Gp.Ses.Ses)]) (by simpa [eS] using az)).sl abq (by omega);refine iV abq (ay.ext f11) sl rfl (by omega) ais (by simp;omega) (by simp;omega) λs' O aA f12 aB=> ?_;have ac:¬iq.at ss vb:=λhb=>by have:=g4 vb hb;omega
    have v12:=(al.ext f11).fr f12 ac;refine iK v12 rfl (by simp[vwC]) λai aC aj z13=> ?_;have f13:iG O ai (·=vb):=aj _ rfl;have hs':∀b,iq.at s' b->mV none w6<b:=λb hb=>by
     rcases aB b hb with h|h
     ·exact g4 b h
     ·omega
    have fr:iG (iD Y (mV none w6)) ai (λb=>b=vb\/iq.at ss b):=by
     have g1:iG (iD Y (mV none w6)) R (λb=>b=vb\/iq.at ss b):=(CN.zu (x8 _) _).trans f10 λb hb e=>by(have:(iD Y (mV none w6)).heap.size=Y.heap.size:=by simp[iD]);omega
     exact((g1.ext f11).trans f12 λb _ hb=> .inr hb).trans f13 λb _ hb=> .inl hb
    refine hk ai _ fr ?_ ⟨s',aC,?_,?_,hs',?_⟩
    ·rintro b hb1 hb2 (h|h)
     ·omega
     ·have:=g4 b h;omega
    ·have af:(SE e).take (i+1)=(SE e).take i++[({p.2 with bd:=(plk (live 0 e.S) p.2.bd).getD 0}:Gp.Ses.Ses)]:=take_succ (by unfold SE;rw[getElem?_map,hb];rfl);rw[af];exact aA.fr f13 λb hb e=>by have:=hs' b hb;omega
    ·refine(g3.trans (iG.iD Y _) λb hb e=>by omega).trans fr ?_;rintro b hb (h|h)
     ·exact h
     ·have:=g4 b h;omega
    ·have:=fr.size;have ax:(iD Y (mV none w6)).heap.size=Y.heap.size:=by simp[iD]
     omega
   ·rintro Y ⟨ss,g1,g2,g3,g4,g5⟩ hm';have ag:(SN.yS (Gp.Ses.live 0 e.SS)).length=(Gp.Ses.live 0 e.SS).length:=by simp[SN.yS]
    rw[ag,take_of_length_le (by omega)] at g2;simp only[sx,g1.cell,vwC];have zz:=x4.size;have rr:Row Y r _:=((((r1.ext hW).ext (x4.trans f5)).fr b5 (by omega)).ext f6).fr g3 (by omega);refine iJ rr rfl rfl λw7 r7 f7' z7=> ?_;have f7:iG Y w7 (·=r):=f7' _ rfl;have hm7:w7.heap[w6.heap.size]? =some (.deferred (some [])):=by
     rw[f7.same _ (by omega) (by omega)];exact hm' rfl
    have fp1:=iG.kU w7 w6.heap.size (.deferred none);have fp2:=iG.kU (w7.putObj w6.heap.size (.deferred none)) w5.heap.size (.deferred none);refine⟨hm7,?_,?_⟩
    ·have e1:(w7.putObj w6.heap.size (.deferred none)).heap[w5.heap.size]? =w7.heap[w5.heap.size]? :=fp1.same _ (by omega) (by omega);rw[e1,f7.same _ (by omega) (by omega),g3.same _ (by omega) (by omega)];exact hm6
    have r9:=(r7.fr fp1 (by omega)).fr fp2 (by omega);simp only[sx,r9.cell];refine hK bs ss _ ?_ ?_ ?_ ?_ ?_
    ·have q1:Ext w w5:=(f1.trans hW).trans (x4.trans f5);have q2:Ext w X:=q1.new b5 λb hb e=>by have:=f1.size;omega
     have q3:Ext w Y:=(q2.trans f6).new g3 λb hb e=>by have:=f1.size;omega
     have q4:Ext w w7:=q3.new f7 λb hb e=>by omega
     exact(q4.new fp1 λb hb e=>by have:=q2.size;omega).new fp2 λb hb e=>by have:=q1.size;omega
    ·have t1:=(b2.ext f6).fr g3 λb hb e=>by have:=b6 b hb;omega
     exact((t1.fr f7 λb hb e=>by have:=b6 b hb;omega).fr fp1 λb hb e=>by have:=b2.lt hb;omega).fr fp2 λb hb e=>by have:=b6 b hb;omega
    ·exact((g2.fr f7 λb hb e=>by have:=g4 b hb;omega).fr fp1 λb hb e=>by have:=g4 b hb;omega).fr fp2 λb hb e=>by have:=g4 b hb;omega
    ·intro b hb;have:=b6 b hb;have:=f1.size;omega
    ·intro b hb;have:=g4 b hb;have:=f1.size;omega
 clear_value J;have hd:=h1.ext (Ext.drew w1);have c41:=hd.c41;have c4:=hd.c4;simp only[sx,c41,c4];refine⟨?_,?_⟩
 ·refine Ee (aaQ hd) ?_;rintro n w2 ⟨rfl,hw2⟩;subst hw2;refine⟨c41,iI λvb w3 r3 e3 z3 f3=> ?_⟩;refine⟨zJ c4 f3,zJ c41 f3,?_⟩;refine iJ r3 rfl rfl λw4 r4 f4' z4=> ?_;have aD:w1.drew.heap.size=w1.heap.size:=rfl;exact hJ vb w4 (((Ext.drew w1).trans f3).new (f4' (·=vb) rfl) λy hy e=>by omega) r4 (by omega)
 ·refine iI λvb w3 r3 e3 z3 f3=> ?_;refine⟨zJ c4 f3,zJ c41 f3,?_⟩;refine Ee (aaQ (hd.ext f3)) ?_;rintro n w2 ⟨rfl,hw2⟩;subst hw2;refine⟨zJ c41 f3,?_⟩;refine iJ r3 rfl rfl λw4 r4 f4' z4=> ?_;have aD:w1.drew.heap.size=w1.heap.size:=rfl;exact hJ vb w4 (((Ext.drew w1).trans f3).new (f4' (·=vb) rfl) λy hy e=>by omega) r4 (by omega)
end Go.Proofs.EN
end
