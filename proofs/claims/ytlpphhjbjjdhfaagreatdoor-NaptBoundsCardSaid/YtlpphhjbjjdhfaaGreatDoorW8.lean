import Derived.Test.YtlpphhjbjjdhfaaGreatDoorW7
import Derived.Shelf.SlSortCmp.WholeK
import Derived.Test.YtlpphhjbjjdhfaaGreatDoorW3
import Derived.Test.YtlpphhjbjjdhfaaGreatDoorW2
set_option maxRecDepth 100000
section
namespace Go.Proofs.WN
open Gp Gp.Wh
theorem ZU {a b:Nat} (ha:a<2^63) (hb:b<2^63):VG .i64 (a:Int) (b:Int)=((a^^^b:Nat):Int):=by
 unfold VG;have h1:(BitVec.ofInt (IntKind.bits .i64) (a:Int)).toNat=a:=by rw[H7,als];omega
 have h2:(BitVec.ofInt (IntKind.bits .i64) (b:Int)).toNat=b:=by rw[H7,als];omega
 rw[BitVec.toNat_xor,h1,h2];have:=amM ha hb;rw[Α]
theorem p64 (n:Nat):2^(6 * n)=64^n:=by rw[Nat.pow_mul]
theorem ac_ (a b n:Nat):(a^^^b) / 64^n=(a / 64^n)^^^(b / 64^n):=by
 rw[<- p64,<- amR,<- amR,<- amR,Nat.shiftRight_xor_distrib]
theorem xor_zero {a b:Nat}:a^^^b=0↔a=b:=by
 constructor
 ·intro h;refine Nat.eq_of_testBit_eq λi=> ?_;have:=congrArg (λx=>Nat.testBit x i) h
  grind
 simp_all
theorem ϣ {now a:Nat} (h1:now<=2^40) (h2:a<=2^40) (w:θ):yM now a w λr w'=>(∃n:Nat,r=(n:Int)/\Lv now a n)/\w'=w:=by
 apply Vb;rw[ZU (by omega) (by omega)];have hx:now^^^a<2^41:=amM (by omega) (by omega);refine gI (λst W=>W=w/\∃n:Nat,st.1=(n:Int)/\st.2.1=(((now^^^a) / 64^n:Nat):Int)/\n<=7/\(n=0\/now / 64^n≠a / 64^n)) (λst _=>st.2.1.toNat) ⟨rfl,0,rfl,by simp,by omega,.inl rfl⟩ ?_;rintro⟨i,d,⟨⟩⟩ W ⟨rfl,n,hi,hd,hn,I⟩ next h
 simp only at hi hd;subst hi hd;generalize hD:(now^^^a) / 64^n=D;have e1:(now^^^a) / 64^(n+1)=D / 64:=by rw[wQ,hD]
 by_cases u:(D:Int)>=64
 ·rw[aeJ u,aaU];refine⟨by omega,?_⟩;have hD7:n<7:=by
   grind
  rw[Α,show (6:Int)=((6:Nat):Int) from rfl,DC (by omega)];refine h _ _ ⟨rfl,n+1,by simp,by rw[e1],by omega,.inr λhe=> ?_⟩ (by grind);rw[ac_,he,Nat.xor_self] at e1;omega
 ·rw[adn u,aaT];refine⟨⟨n,rfl,?_,I⟩,rfl⟩;have:D / 64=0:=Nat.div_eq_of_lt (by omega);rw[this,ac_,xor_zero] at e1;exact e1
def ϑ (k:Int):Value:= Β k
def slV (s:fU):Value:= Δ s
def evT (t:Tm):Value:= .agg ⟨eT t⟩
theorem eqW (a b:Int):EZ υ 16 3 (ϑ a) (ϑ b)=some (decide (a=b)):=by
 have h:EZ υ 16 3 (Β a) (Β b)=some (a==b):=by kernel_rfl
 rw[ϑ,ϑ,h];congr 1
theorem YP (a:Int):nX υ 3 (ϑ a)=true:=by
 have h:nX υ 3 (Β a)=true:=by kernel_rfl
 exact h
theorem Xn {α β:Type} [DecidableEq α] {enc:α->Value} {ev:β->Value} {w:θ} {r:Nat} {l:List (α×β)} {P:Program} {kt:TypeId} (h:qX enc ev w r l) (hE:∀a b:α,EZ P 16 kt (enc a) (enc b)=some (decide (a=b))) (a:α) (hk:nX P kt (enc a)=true) {z:Value} {K:Value->Bool->Prop}
  (h0:lC l a=none->K z false) (h1:∀b,lC l a=some b->K (ev b) true):E8 P kt (some r) (enc a) z w K:=by
 obtain⟨es,c,g1,g2,_⟩:=h;refine⟨hk,.inr ⟨r,es,c,rfl,g1,?_⟩⟩
 cases hl:lC l a with
 |none=>
  cases l with
  |nil=>
   have:es.toList=[]:=by simp_all
   exact⟨none,by rw[this];rfl,h0 hl⟩
  |cons x l'=>
   rcases N9 hE a x.2 es.toList _ 0 g2 with ⟨_,q2,_⟩|⟨j,v,e,q1,_⟩
   ·simp_all
   simp_all
 |some b=>
  rcases N9 hE a b es.toList _ 0 g2 with ⟨q1,_,_⟩|⟨j,v,e,q1,q2,_⟩
  ·simp_all
  simp_all
theorem Z8 {α β:Type} {enc:α->Value} {ev:β->Value} {w:θ} {r:Nat} {l:List (α×β)} (h:qX enc ev w r l) {K:Int->Prop} (hK:K (l.length:Int)):S_ w (some r) K:=by
 obtain⟨es,c,h1,h2,_⟩:=h;refine⟨es,c,h1,?_⟩;have:es.size=l.length:=by
  have:=congrArg List.length h2
  grind
 rw[this];exact hK
abbrev PL:=List (Int×Tm)
def atS (ss:List fU) (b:Nat):Prop:=∃(i:Nat) (s:fU),ss[i]? =some s/\fU.at s b
def qF (d m:Nat) (ss:List fU) (b:Nat):Prop:=b=d\/b=m\/atS ss b
structure WM (w:θ) (d m:Nat) (ss:List fU) (l:PL) (now:Nat) (tn most:Int) (F:Fs):Prop where
 hd:Row w d (ss.map slV++[.map (some m),Β (now:Int),Β tn,Β most])
 len:ss.length=448
 mp:qX ϑ evT w m l
 nd:(l.map (·.1)).Nodup
 buf:∀n k,n<7->k<64->∃s,ss[n * 64+k]? =some s/\iQ 3 eT w s (F n k)
 ap:∀(i j:Nat) s s' b,i≠j->ss[i]? =some s->ss[j]? =some s'->fU.at s b->¬fU.at s' b
 ne:∀b,atS ss b->b≠d/\b≠m
 dm:d≠m
 sm:∀n k,n<7->k<64->(F n k).length<=2^21
section
variable {w w':θ} {d m:Nat} {ss:List fU} {l:PL} {now:Nat} {tn most:Int} {F:Fs}
theorem WM.fr {S:Nat->Prop} (h:WM w d m ss l now tn most F) (hf:gV w w' S) (hs:∀b,qF d m ss b->¬S b):WM w' d m ss l now tn most F:=
 ⟨h.hd.fr hf (hs _ (.inl rfl)),h.len,h.mp.fr hf (hs _ (.inr (.inl rfl))),h.nd,λn k hn hk=>by
  obtain⟨s,h1,h2⟩:=h.buf n k hn hk;exact⟨s,h1,h2.fr hf λb hb=>hs b (.inr (.inr ⟨_,s,h1,hb⟩))⟩,h.ap,h.ne,h.dm,h.sm⟩
theorem WM.ext (h:WM w d m ss l now tn most F) (hf:Ext w w'):WM w' d m ss l now tn most F:=h.fr (hf λ_=>False) (λ_ _=>by simp)
theorem WM.ah7 (h:WM w d m ss l now tn most F) {b:Nat} (hb:atS ss b):∃n k s,n<7/\k<64/\ss[n * 64+k]? =some s/\fU.at s b/\iQ 3 eT w s (F n k):=by
 obtain⟨i,s,hi,hs⟩:=hb;have hlt:=(aeK.1 hi).1;have hl:=h.len;obtain⟨s',h1,h2⟩:=h.buf (i / 64) (i % 64) (by omega) (by omega)
 grind
theorem WM.lt (h:WM w d m ss l now tn most F) {b:Nat} (hb:qF d m ss b):b<w.heap.size:=by
 rcases hb with rfl|rfl|hb
 ·exact h.hd.lt
 ·exact h.mp.lt
 ·obtain⟨n,k,s,_,_,_,h1,h2⟩:=h.ah7 hb;exact h2.lt h1
theorem WM.Ω (h:WM w d m ss l now tn most F):w.cell? ⟨d,448,none⟩=some (.map (some m)):=by
 rw[h.hd.cell,akQ (by rw[ahc,h.len];omega),ahc,h.len];rfl
theorem WM.Yp (h:WM w d m ss l now tn most F):w.cell? ⟨d,449,none⟩=some (Β (now:Int)):=by
 rw[h.hd.cell,akQ (by rw[ahc,h.len];omega),ahc,h.len];rfl
theorem WM.ai3 (h:WM w d m ss l now tn most F):w.cell? ⟨d,450,none⟩=some (Β tn):=by
 rw[h.hd.cell,akQ (by rw[ahc,h.len];omega),ahc,h.len];rfl
theorem WM.akV (h:WM w d m ss l now tn most F):w.cell? ⟨d,451,none⟩=some (Β most):=by
 rw[h.hd.cell,akQ (by rw[ahc,h.len];omega),ahc,h.len];rfl
theorem WM.cs (h:WM w d m ss l now tn most F) {i:Nat} {s:fU} (hi:ss[i]? =some s):w.cell? ⟨d,i,none⟩=some (Δ s):=by
 have hlt:=(aeK.1 hi).1;rw[h.hd.cell,alk (by simp_all),aiN,hi];rfl
theorem WM.ah3 (h:WM w d m ss l now tn most F) {n k:Nat} (hn:n<7) (hk:k<64) {s:fU} (hs:ss[n * 64+k]? =some s) {w1:θ} {s':fU} {L:List Tm} {S:Nat->Prop} (hf:gV w w1 S) (hS:∀b,qF d m ss b->S b->fU.at s b)
  (hb:iQ 3 eT w1 s' L) (N:∀b,fU.at s' b->fU.at s b\/w.heap.size<=b) (hL:L.length<=2^21) {K:b_}
  (hK:∀w2,WM w2 d m (ss.set (n * 64+k) s') l now tn most (w_ F n k L)->gV w1 w2 (·=d)->w2.heap.size=w1.heap.size->K w2):St w1 ⟨d,n * 64+k,none⟩ (.slice s'.a s'.len s'.cap) K:=by
 have hl:=h.len;have hix:n * 64+k<ss.length:=by omega
 have atd:=λe=>(h.ne d ⟨_,s,hs,e⟩).1 rfl;have atm:=λe=>(h.ne m ⟨_,s,hs,e⟩).2 rfl;have hd1:=h.hd.fr hf λe=>atd (hS d (.inl rfl) e);have I:∀j,(ss.set (n * 64+k) s')[j]? =if n * 64+k=j then some s' else ss[j]? :=λj=>by
  grind
 refine gY hd1 rfl (by grind) λw2 r2 f2 z2=> ?_;have f2d:=f2 (·=d) rfl;rw[List.set_append_left _ _ (by simp_all),<- (show (ss.set (n * 64+k) s').map slV=(ss.map slV).set (n * 64+k) (Value.slice s'.a s'.len s'.cap) from List.map_set)] at r2;have s'd:∀b,fU.at s' b->b≠d/\b≠m:=λb hb'=>by
  rcases N b hb' with e|e
  ·grind
  ·have q1:=h.lt (.inl rfl:qF d m ss d);have q2:=h.lt (.inr (.inl rfl):qF d m ss m);omega
 have s'o:∀b j u,j≠n * 64+k->ss[j]? =some u->fU.at u b->¬fU.at s' b:=λb j u hj hu J hb'=>by
  rcases N b hb' with e|e
  ·exact h.ap j _ u s b hj hu hs J e
  ·have:=h.lt (.inr (.inr ⟨j,u,hu,J⟩):qF d m ss b);omega
 refine hK w2 ⟨r2,by simp_all,(h.mp.fr hf λe=>atm (hS m (.inr (.inl rfl)) e)).fr f2d (λe=>h.dm e.symm),h.nd,λn' k' hn' hk'=> ?_,λi j u u' b O hi hj hu hu'=> ?_,λb hb'=> ?_,h.dm,λn' k' hn' hk'=> ?_⟩ f2d z2
 ·rw[I];unfold w_;by_cases e:n'=n/\k'=k
  ·rw[aeH e,aeH (by rw[e.1,e.2])];exact⟨s',rfl,hb.fr f2d λb hb'=>(s'd b hb').1⟩
  ·rw[ada e,ada (by omega)];obtain⟨u,h1,h2⟩:=h.buf n' k' hn' hk';refine⟨u,h1,(h2.fr hf λb J R=> ?_).fr f2d λb J=>(h.ne b ⟨_,u,h1,J⟩).1⟩;exact h.ap _ _ u s b (by omega) h1 hs J (hS b (.inr (.inr ⟨_,u,h1,J⟩)) R)
 ·rw[I] at hi hj;split at hi
  ·grind
  ·rename_i e1;split at hj
   ·grind
   ·exact h.ap i j u u' b O hi hj hu hu'
 ·obtain⟨j,u,hj,hu⟩:=hb';rw[I] at hj;split at hj
  ·simp_all
  ·exact h.ne b ⟨j,u,hj,hu⟩
 ·unfold w_;split
  ·exact hL
  ·exact h.sm n' k' hn' hk'
theorem WM.setH (h:WM w d m ss l now tn most F) {now':Nat} {tn':Int} {j:Nat} {v:Value} (hv:iI v=true) (hj:(ss.map slV++[Value.map (some m),Β (now:Int),Β tn,Β most]).set j v=ss.map slV++[Value.map (some m),Β (now':Int),Β tn',Β most]) (hj2:j<452) {K:b_}
  (hK:∀w2,WM w2 d m ss l now' tn' most F->gV w w2 (·=d)->w2.heap.size=w.heap.size->K w2):St w ⟨d,j,none⟩ v K:=by
 refine gY h.hd hv (by rw[ahY,ahc,h.len];exact hj2) λw2 r2 f2 z2=> ?_;rw[hj] at r2;have f2d:=f2 (·=d) rfl;exact hK w2 ⟨r2,h.len,h.mp.fr f2d (λe=>h.dm e.symm),h.nd,λn k hn hk=>by
  obtain⟨s,h1,h2⟩:=h.buf n k hn hk;exact⟨s,h1,h2.fr f2d λb hb=>(h.ne b ⟨_,s,h1,hb⟩).1⟩,h.ap,h.ne,h.dm,h.sm⟩ f2d z2
theorem WM.ajF (h:WM w d m ss l now tn most F) (now':Nat) {K:b_}
  (hK:∀w2,WM w2 d m ss l now' tn most F->gV w w2 (·=d)->w2.heap.size=w.heap.size->K w2):St w ⟨d,449,none⟩ (Β (now':Int)) K:=
 h.setH rfl (by rw[alS _ _ (by rw[ahc,h.len];omega),ahc,h.len];rfl) (by omega) hK
theorem WM.akB (h:WM w d m ss l now tn most F) (tn':Int) {K:b_}
  (hK:∀w2,WM w2 d m ss l now tn' most F->gV w w2 (·=d)->w2.heap.size=w.heap.size->K w2):St w ⟨d,450,none⟩ (Β tn') K:=
 h.setH rfl (by rw[alS _ _ (by rw[ahc,h.len];omega),ahc,h.len];rfl) (by omega) hK
theorem WM.ak_ (h:WM w d m ss l now tn most F) (t:Tm) {K:b_}
  (hK:∀w2,WM w2 d m ss (Cm l t.id t) now tn most F->gV w w2 (·=m)->w2.heap.size=w.heap.size->K w2):oK υ 3 (some m) (Β t.id) (.agg ⟨eT t⟩) w K:=
 yX h.mp eqW t.id t (YP _) λw2 g2 f2 z2=>hK w2 ⟨h.hd.fr f2 h.dm,h.len,g2,O1 h.nd _ _,λn k hn hk=>by
  obtain⟨s,h1,h2⟩:=h.buf n k hn hk;exact⟨s,h1,h2.fr f2 λb hb=>(h.ne b ⟨_,s,h1,hb⟩).2⟩,h.ap,h.ne,h.dm,h.sm⟩ f2 z2
theorem WM.akg (h:WM w d m ss l now tn most F) (id:Int) {K:b_}
  (hK:∀w2,WM w2 d m ss (BJ l id) now tn most F->gV w w2 (·=m)->w2.heap.size=w.heap.size->K w2):E5 υ 3 (some m) (Β id) w K:=
 S9 h.mp eqW id (YP _) λw2 g2 f2 z2=>hK w2 ⟨h.hd.fr f2 h.dm,h.len,g2,h.nd.sublist ((RY l id).map _),λn k hn hk=>by
  obtain⟨s,h1,h2⟩:=h.buf n k hn hk;exact⟨s,h1,h2.fr f2 λb hb=>(h.ne b ⟨_,s,h1,hb⟩).2⟩,h.ap,h.ne,h.dm,h.sm⟩ f2 z2
theorem Ku (h:WM w d m ss l now tn most F):kX (some ⟨d,0,none⟩) w λr w'=>r=true/\w'=w:=by
 apply Jr;simp only[sx,h.Ω,afa];trivial
theorem air (h:WM w d m ss l now tn most F):oG (some ⟨d,0,none⟩) w λn w'=>n=(l.length:Int)/\w'=w:=by
 apply Nq;refine cmS0 (Ku h) ?_;rintro _ w2 ⟨rfl,hw⟩;subst hw;simp only[sx,adp,h.Ω];exact Z8 h.mp ⟨by trivial,by trivial⟩
theorem afn {a n:Nat} (hn:n<7):lu .i64 (jE .i64 (a:Int) (ο.wrap (6 * (n:Int)))) 63=((dg a n:Nat):Int)/\ο.wrap (6 * (n:Int))=((6 * n:Nat):Int):=by
 have e:ο.wrap (6 * (n:Int))=((6 * n:Nat):Int):=by rw[Α];omega
 refine⟨?_,e⟩;rw[e,DC (by omega),p64];unfold dg;have:∀x:Nat,lu .i64 (x:Int) 63=((x % 64:Nat):Int):=by
  intro x;unfold lu;have h1:(BitVec.ofInt (IntKind.bits .i64) (x:Int)).toNat=x % 2^64:=by rfl
  have h2:(BitVec.ofInt (IntKind.bits .i64) 63).toNat=2^6 - 1:=by rfl
  rw[al3,h1,h2,JG,Α];omega
 exact this _
theorem VF (h:WM w d m ss l now tn most F) (h1:now<=2^40) {a:Nat} (h2:a<=2^40):nO (some ⟨d,0,none⟩) (a:Int) w λr w'=>(∃n,n<7/\Lv now a n/\r=some ⟨d,n * 64+dg a n,none⟩)/\Ext w w':=by
 apply Lr;simp only[sx,h.Yp];refine cmS1 (ϣ h1 h2 w) ?_;rintro r w1 ⟨⟨n,rfl,hl⟩,hw⟩;subst hw;have hn:=hl.lt h1 h2;obtain⟨e1,e2⟩:=afn hn;have hd:=BK a n;rw[e1,e2];simp only[ab3,aiG];exact⟨by omega,by omega,by omega,by omega,by omega,⟨n,hn,hl,rfl⟩,Ext.drew _⟩
theorem ac9 (h:WM w d m ss l now tn most F) (h1:now<=2^40) (t:Tm) (h2:t.a<=2^40) (hl:∀n k,n<7->k<64->(F n k).length<2^21):
  rP (some ⟨d,0,none⟩) t.id (t.a:Int) t.tn w λw'=>gV w w' (qF d m ss)/\∃n ss',n<7/\Lv now t.a n/\WM w' d m ss' l now tn most (w_ F n (dg t.a n) (F n (dg t.a n)++[t]))/\∀b,qF d m ss' b->qF d m ss b\/w.heap.size<=b:=by
 apply Ns;refine gy λp w1 r1 e1 z1 f1=> ?_;have hw1:=h.ext f1;simp only[sx,r1.cell];refine cmS17 (VF hw1 h1 h2) ?_;rintro _ w2 ⟨⟨n,hn,I,rfl⟩,f2⟩;have x2:=f1.trans (f2.trans (Ext.drew w2));have h2w:=h.ext x2;have r2:=(r1.ext f2).drew;have hk:=BK t.a n;obtain⟨s,hs,hb⟩:=h2w.buf n (dg t.a n) hn hk;have hll:=hl n (dg t.a n) hn hk;simp only[wS,d_,f_,gK,gq,h2w.cs hs,r2.cell];refine gy λq w3 r3 e3 z3 f3=> ?_;have h3:=h2w.ext f3;simp only[afu,h3.cs hs];have J:=(iQ.row (xs:=[t]) (by simpa using r3)).sl pI (by omega);refine lJ pI (hb.ext f3) J rfl (by omega) Yy (by grind) (by grind) λs4 w4 b4 f4 n4=> ?_;have x3:=x2.trans f3;refine h3.ah3 hn hk hs f4 (λb _ hb=>hb) b4 n4 (by grind) λw5 h5 f5 z5=> ?_;have N:∀b,fU.at s b->qF d m ss b:=λb hb=> .inr (.inr ⟨_,s,hs,hb⟩);refine⟨((x3 (qF d m ss)).trans (f4.mono N) λ_ _ e=>e).trans f5 λb _ e=> .inl e,n,_,hn,I,h5,λb hb=> ?_⟩;rcases hb with hb|hb|⟨j,u,hj,hu⟩
 ·exact .inl (.inl hb)
 ·exact .inl (.inr (.inl hb))
 ·rw[akJ] at hj;split at hj
  ·split at hj
   ·cases hj
    rcases n4 b hu with e|e
    ·simp_all
    ·exact .inr (aj0 x3.size e)
   ·cases hj
  ·exact .inl (.inr (.inr ⟨j,u,hj,hu⟩))
theorem aaR (h:WM w d m ss l now tn most F) (h1:now<=2^40) (t:Tm) (h2:t.a<=2^40):
  qB (some ⟨d,0,none⟩) t.id (t.a:Int) t.tn w λw'=>gV w w' (qF d m ss)/\∃n ss',n<7/\Lv now t.a n/\WM w' d m ss' l now tn most (w_ F n (dg t.a n) ((F n (dg t.a n)).filter λx=> !(x.id==t.id)))/\∀b,qF d m ss' b->qF d m ss b\/w.heap.size<=b:=by
 apply Ls;refine gy λp w1 r1 e1 z1 f1=> ?_;have hw1:=h.ext f1;simp only[sx,r1.cell];refine cmS17 (VF hw1 h1 h2) ?_;rintro _ w2 ⟨⟨n,hn,J,rfl⟩,f2⟩;have x2:=f1.trans f2;have h2w:=h.ext x2;have r2:=r1.ext f2;have hk:=BK t.a n;obtain⟨s,hs,hb⟩:=h2w.buf n (dg t.a n) hn hk;have N:=h.sm n (dg t.a n) hn hk;have I:∀b,fU.at s b->qF d m ss b:=λb hb=> .inr (.inr ⟨_,s,hs,hb⟩);have hp:∀b,qF d m ss b->b≠p:=λb hb=>by have:=h.lt hb;omega
 simp only[wS,f_,gK,h2w.cs hs];have isId:FnT (Value.func (.func IW) #[] #[.pointer (some ⟨p,0,none⟩)]) (λW=>Row W p (eT t)) (λx=>x.id==t.id):=by
  intro x W K hC hK;refine j_ (by kernel_rfl) ?_;have:zA x.id x.a x.tn ⟨p,0,none⟩ W λr W'=>r=(x.id==t.id)/\Ext W W':=by
   apply Hu;refine gy λq W1 q1 _ _ g1=> ?_;simp only[sx,q1.cell,(hC.ext g1).cell];trivial
  refine Calls.mono this ?_;rintro e W' ⟨r,he,rfl,hf⟩;exact⟨_,he,hK W' hf⟩
 refine cmS2 (Yv hb (by omega) isId λW hf=>r2.fr hf λe=>hp p (I p e) rfl) ?_;rintro s4 w4 ⟨b4,f4,n4⟩;refine h2w.ah3 hn hk hs f4 (λb _ hb=>hb) b4 (λb hb=> .inl (n4 b hb)) (aj0 (amL ..) N) λw5 h5 f5 z5=> ?_;refine⟨((x2 (qF d m ss)).trans (f4.mono I) λ_ _ e=>e).trans f5 λb _ e=> .inl e,n,_,hn,J,h5,λb hb=> ?_⟩;rcases hb with hb|hb|⟨j,u,hj,hu⟩
 ·exact .inl (.inl hb)
 ·exact .inl (.inr (.inl hb))
 ·rw[akJ] at hj;split at hj
  ·simp_all
  ·exact .inl (.inr (.inr ⟨j,u,hj,hu⟩))
end
end Go.Proofs.WN
end
section
namespace Go.Proofs.WN
open Gp Gp.Wh
theorem ac0:∀{a b:List Int},a.Nodup->(∀x∈a,x∈b)->a.length<=b.length
 |[],_,_,_=>by simp
 |x::a,b,h,hs=>by
  rw[alT] at h;have hx:=ac0 (b:=b.erase x) h.2 λy hy=>by
   grind
  grind
theorem ajo {l:PL} {id:Int} {t:Tm} (h:lC l id=some t):id∈l.map (·.1):=by
 refine alL λhn=> ?_;rw[qH.2 hn] at h;cases h
theorem WI.short {now:Nat} {P:Ps} {F:Fs} {l:PL} (h:WI now P F) (hs:∀id t,P id=some t->lC l id=some t) {n k:Nat} (hn:n<7) (hk:k<64):(F n k).length<=l.length:=by
 have:=ac0 (h.nd n k hn hk) λx hx=>by
  obtain⟨t,ht,rfl⟩:=akR.1 hx;exact ajo (hs _ _ ((h.mem n k t hn hk).1 ht).1)
 simp_all
section
variable {w w':θ} {d m:Nat} {ss:List fU} {l:PL} {now:Nat} {tn most:Int} {F:Fs}
theorem agM (h:WM w d m ss l now tn most F) (hi:WI now (lC l) F):vS (some ⟨d,0,none⟩) w λr t w'=>Ext w w'/\
  ((t=false/\∀id,lC l id=none)\/(t=true/\∃u,lC l u.id=some u/\r=(u.a:Int)/\now<=u.a/\∀id v,lC l id=some v->u.a<=v.a)):=by
 apply Lp;refine gI (λst W=>W=w/\∃n:Nat,n<=7/\st.1=(n:Int)/\∀n' k',n'<n->k'<64->dg now n'<=k'->F n' k'=[]) (λst _=>7 - st.1.toNat) ⟨rfl,0,by omega,rfl,λn' k' hn=>by omega⟩ ?_;rintro⟨i,⟨⟩⟩ W ⟨rfl,n,hn,O,he⟩ next J
 simp only at O;subst O;by_cases R:(n:Int)<7
 ·rw[aeJ R,aaU];have hn7:n<7:=by omega
  obtain⟨e1,e2⟩:=afn hn7;simp only[sx,h.Yp];rw[e1,e2];refine⟨by omega,?_⟩;have hd:=BK now n;refine gI (λst W'=>W'=W/\∃k:Nat,k<=64/\dg now n<=k/\st.1=(k:Int)/\∀k',k'<k->dg now n<=k'->F n k'=[]) (λst _=>64 - st.1.toNat) ⟨rfl,dg now n,by omega,ai8 _,rfl,λk' h1 h2=>by omega⟩ ?_;rintro⟨i,⟨⟩⟩ W' ⟨rfl,k,hk,hdk,U,Z⟩ next' I
  simp only at U;subst U;by_cases Y:(k:Int)<64
  ·rw[aeJ Y,aaU];have hk6:k<64:=by omega
   obtain⟨s,hs,hb⟩:=h.buf n k hn7 hk6;have hsm:=h.sm n k hn7 hk6;simp only[f_,gK,ab3,aiG,h.cs hs];refine⟨by omega,by omega,by omega,by omega,?_⟩;have hbl:=hb.len;by_cases hz:F n k=[]
   ·have:¬((s.len:Int)>0):=by simp_all
    rw[adn this,aaT];rw[Α];refine I _ _ ⟨rfl,k+1,by omega,by omega,by simp,λk' h1 h2=> ?_⟩ (by omega)
    grind
   ·have hpos:=List.length_pos_iff.2 hz;have:((s.len:Int)>0):=by omega
    rw[aeJ this,aaU];refine cmS16 (ajs (hb.sl pI (by omega)) (by omega) hz) ?_;rintro r0 r1 r2 w3 ⟨f3,t,ht,rfl,N⟩;obtain⟨g1,g2,g3⟩:=hi.next hn7 hk6 he Z ht N
    grind
  ·rw[adn Y,aaT];rw[Α];have:k=64:=by omega
   subst this;refine J _ _ ⟨rfl,n+1,by omega,by simp,λn' k' h1 h2 h3=> ?_⟩ (by omega)
   grind
 ·rw[adn R,aaT];have:n=7:=by omega
  subst this;exact⟨Ext.refl _,.inl ⟨rfl,λid=>hi.none he id⟩⟩
theorem aey {F:Fs} {n k:Nat} (h:F n k=[]):w_ F n k []=F:=by
 funext n' k';unfold w_
 simp_all
theorem aaS (h:WM w d m ss l now tn most F) (hi:WI now (lC l) F) {to:Nat} (h1:now<=to) (h2:to<=2^40) (af:∀id u,lC l id=some u->to<=u.a) (hl:l.length<=2^20):
  oH (some ⟨d,0,none⟩) (to:Int) w λw'=>gV w w' (qF d m ss)/\∃ss' F',WM w' d m ss' l to tn most F'/\WI to (lC l) F'/\∀b,qF d m ss' b->qF d m ss b\/w.heap.size<=b:=by
 apply Hw;simp only[sx,h.Yp];refine cmS1 (ϣ hi.nw h2 w) ?_;rintro r w1 ⟨⟨v,rfl,ag⟩,hw⟩;subst hw;have hv7:=ag.lt hi.nw h2;have low:=λ{n k:Nat}=>hi.low (n:=n) (k:=k) h1 af ag;have ah:=BK to v;have hmv:=aj0 (WI.short hi (λ_ _ e=>e) hv7 ah) hl;refine gI (λst W=>∃j ss',j<=v/\st.2.1=(j:Int)/\iQ 3 eT W st.1 (if j<v then F v (dg to v) else [])/\(∀b,fU.at st.1 b->w1.heap.size<=b)/\(∀b,qF d m ss' b->qF d m ss b)/\gV w1 W (qF d m ss)/\
   WM W d m ss' l now tn most (if j<v then w_ F v (dg to v) [] else F)) (λst _=>st.2.1.toNat)
  ⟨v,ss,ai8 _,rfl,by rw[ada (by omega)];exact iQ.nil,(λb ⟨o,hb⟩=>by cases hb),λb hb=>hb,gV.refl _ _,by rw[ada (by omega)];exact h⟩ ?_
 rintro⟨mv,i,⟨⟩⟩ W ⟨j,ss',hj,am,R,an,N,hf,hW⟩ next U
 simp only at am R an;subst am;have mvd:∀b,fU.at mv b->¬qF d m ss' b:=λb hb hx=>by have:=h.lt (N b hx);grind
 by_cases Y:(j:Int)>0
 ·rw[aeJ Y,aaU];have hj7:j<7:=by omega
  obtain⟨e1,e2⟩:=afn hj7;have hd:=BK to j;have ai:=hW.ext (Ext.drew W);obtain⟨s,hs,hb⟩:=ai.buf j (dg to j) hj7 hd;rw[e1,e2];simp only[f_,gK,ab3,aiG,ai.cs hs];refine⟨by omega,by omega,by omega,by omega,by omega,?_⟩;have Z:(if j<v then w_ F v (dg to v) [] else F) j (dg to j)=if j<v then [] else F v (dg to v):=by
   by_cases ae:j<v
   ·rw[aeH ae,aeH ae];unfold w_
    simp_all
   grind
  rw[Z] at hb;refine lJ pI (R.ext (Ext.drew W)) (hb.sl pI (by omega)) rfl (by omega) Yy (by split<;>simp only[alU]<;>omega) (by split<;>simp only[alU]<;>omega) λs4 w4 b4 f4 n4=> ?_
  have aj:(if j<v then F v (dg to v) else [])++(if j<v then [] else F v (dg to v))=F v (dg to v):=by split<;>simp
  rw[aj] at b4;have hWz:W.drew.heap.size=W.heap.size:=rfl;have hfz:=hf.size;have f4':∀b,qF d m ss' b->fU.at mv b->fU.at s b:=λb hx hb=>absurd hx (mvd b hb);refine ai.ah3 hj7 hd hs f4 f4' iQ.nil (λb ⟨o,hb⟩=>by cases hb) (by simp) λw5 h5 f5 z5=> ?_;have hF:w_ (if j<v then w_ F v (dg to v) [] else F) j (dg to j) []=if j - 1<v then w_ F v (dg to v) [] else F:=by
   by_cases ae:j<v
   ·rw[aeH ae,aeH (by omega)];exact aey (by simp_all)
   grind
  rw[hF] at h5;have hf4:=(hf.ext (Ext.drew W)).trans f4 λb hb1 hb2=>by have:=an b hb2;omega
  rw[Α];refine U _ _ ⟨j - 1,_,by omega,by grind,?_,?_,?_,hf4.trans f5 λb _ e=> .inl e,h5⟩ (by grind)
  ·simp only;rw[aeH (show j - 1<v by omega)];refine b4.fr f5 λb hb e=> ?_;have az:=h.lt (.inl rfl:qF d m ss d)
   grind
  ·grind
  ·rintro b (hb|hb|⟨q,u,hq,hu⟩)
   ·exact .inl hb
   ·exact .inr (.inl hb)
   ·rw[akJ] at hq;split at hq
    ·split at hq
     ·cases hq;obtain⟨o,ho⟩:=hu;cases ho
     ·cases hq
    ·exact N b (.inr (.inr ⟨q,u,hq,hu⟩))
 ·rw[adn Y,aaT];have:j=0:=by omega
  subst this;have I:=hi.turn h1 h2 af ag;have eM:(if 0<v then F v (dg to v) else [])=if v=0 then [] else F v (dg to v):=by
   grind
  have eF:(if 0<v then w_ F v (dg to v) [] else F)=if v=0 then F else w_ F v (dg to v) []:=by
   grind
  rw[eM] at R;rw[eF] at hW;have ao:∀t∈(if v=0 then [] else F v (dg to v)),t∈F v (dg to v):=λt ht=>by
   simp_all
  have aq:((if v=0 then [] else F v (dg to v)).map Tm.id).Nodup:=by
   split
   ·simp
   ·exact hi.nd v _ hv7 ah
  have aA:(if v=0 then [] else F v (dg to v)).length<=2^20:=by
   grind
  generalize (if v=0 then [] else F v (dg to v))=Mv at R I ao aq aA
  generalize (if v=0 then F else w_ F v (dg to v) [])=F1 at hW I
  simp only[];refine hW.ajF to λw5 h5 f5 z5=> ?_;have az:=h.lt (.inl rfl:qF d m ss d);have aa:=R.fr f5 λb hb e=>by grind
  have hf5:=hf.trans f5 λb _ e=> .inl e;have mlt:∀b,fU.at mv b->b<w5.heap.size:=λb hb=>aa.lt hb;have mlen:=R.len;refine gI (λst W'=>∃i ss2 F2,i<=Mv.length/\st.1=(i:Int)/\WM W' d m ss2 l to tn most F2/\WI to (rest (lC l) (Mv.drop i)) F2/\iQ 3 eT W' mv Mv/\gV w1 W' (qF d m ss)/\(∀b,qF d m ss2 b->qF d m ss b\/w5.heap.size<=b)/\w5.heap.size<=W'.heap.size) (λst _=>Mv.length - st.1.toNat)
   ⟨0,ss',F1,by omega,rfl,h5,by simpa using I,aa,hf5,λb hb=> .inl (N b hb),ai8 _⟩ ?_
  rintro⟨i,⟨⟩⟩ W' ⟨i,ss2,F2,hin,ar,hW',hI',au,av,J,hsz⟩ next' O
  simp only at ar;subst ar;by_cases aw:(i:Int)<(mv.len:Int)
  ·rw[aeJ aw,aaU];have ab:i<Mv.length:=by omega
   have hx:=ade ab;have ax:=alI ab;generalize Mv[i]=t at hx ax;refine Xp (au.sl pI (by omega)) hx λa c0 c1 c2=> ?_;simp only[f_,gq,c0,c1,c2];refine DJ rfl rfl λp w6 r6 e6 z6 f6=> ?_;simp only[sx,r6.cell];have h6:=hW'.ext f6;have ak:=ao t (akK hx);have hp:=((hi.mem v _ t hv7 ah).1 ak).1;have ay:=hi.pl _ _ hp;have aB:∀id u,rest (lC l) (Mv.drop i) id=some u->lC l id=some u:=λid u hu=>(wu.1 hu).1;refine cmS6 (ac9 h6 h2 t ay.2.2 λn k hn hk=>by have:=WI.short hI' aB hn hk;omega) ?_;rintro w7 ⟨f7,n,ss3,hn7,aC,h7,hsub3⟩;have mvd2:∀b,fU.at mv b->¬qF d m ss2 b:=λb hb hx=>by
    rcases J b hx with g|g
    ·have:=h.lt g;grind
    grind
   have aD:rest (lC l) (Mv.drop i) t.id=none:=by
    unfold rest
    simp_all
   have ac:=hI'.put aD (af _ _ hp) ay.2.2 aC;have aE:t∉Mv.drop (i+1):=by
    intro hx2;have hn2:=aq.sublist ((List.drop_sublist i Mv).map Tm.id)
    grind
   rw[ax,aei hp (λid u hu=>(hi.pl id u hu).1) aE] at ac;rw[Α];have s6:=f7.size;refine O _ _ ⟨i+1,ss3,_,by omega,by simp,h7,ac,(au.ext f6).fr f7 λb hb hx=>mvd2 b hb hx,(av.ext f6).trans f7 λb hb hx=> ?_,λb hb=> ?_,by omega⟩ (by omega)
   ·rcases J b hx with g|g
    ·exact g
    ·have:=hf5.size;omega
   grind
  ·rw[adn aw,aaT];have:i=Mv.length:=by omega
   subst this;rw[List.drop_length,agv] at hI';exact⟨av,ss2,F2,hW',hI',λb hb=>by
    rcases J b hb with g|g
    ·exact .inl g
    ·exact .inr (by have:=hf5.size;omega)⟩
structure WS (w:θ) (d m:Nat) (ss:List fU) (l:PL) (now:Nat) (tn most:Int) (F:Fs):Prop where
 wm:WM w d m ss l now tn most F
 wi:WI now (lC l) F
 mo:most<=1048576/\(l.length:Int)<=most
 tb:∀id t,lC l id=some t->t.tn<=tn
 ti:∀id id' t u,lC l id=some t->lC l id'=some u->t.tn=u.tn->id=id'
 t0:0<=tn
theorem WS.ext (h:WS w d m ss l now tn most F) (hf:Ext w w'):WS w' d m ss l now tn most F:=⟨h.wm.ext hf,h.wi,h.mo,h.tb,h.ti,h.t0⟩
theorem WS.fr {S:Nat->Prop} (h:WS w d m ss l now tn most F) (hf:gV w w' S) (hs:∀b,qF d m ss b->¬S b):WS w' d m ss l now tn most F:=⟨h.wm.fr hf hs,h.wi,h.mo,h.tb,h.ti,h.t0⟩
def Yh (l:PL) (most id at_:Int):Int:=if id<0\/id>2147483648\/at_<0\/at_>1099511627776 then 1 else if lC l id=none/\most<=(l.length:Int) then 7 else 0
theorem ach (l:PL) (a:Int) (b:Tm):((Cm l a b).length:Int)=if lC l a=none then (l.length:Int)+1 else l.length:=by
 have:=congrArg List.length (SG l a b);rw[ahc] at this;by_cases hm:a∈l.map (·.1)
 ·rw[aeH hm,ahc] at this;rw[ada (by rw[qH];simp_all),this]
 ·rw[ada hm,ahY,ahc,amF] at this;rw[aeH (qH.2 hm),this];omega
theorem ajp (l:PL) (t:Tm):lC (Cm l t.id t)=GL (lC l) t.id (some t):=by
 funext id;rw[BR];rfl
theorem aip (h:WS w d m ss l now tn most F) (id at_:Int) (ht:tn<2^62):
  rO (some ⟨d,0,none⟩) id at_ w λe w'=>e=Yh l most id at_/\gV w w' (qF d m ss)/\
   ∃ss' F',(∀b,qF d m ss' b->qF d m ss b\/w.heap.size<=b)/\
    WS w' d m ss' (if Yh l most id at_=0 then Cm l id ⟨id,max at_.toNat now,tn+1⟩ else l) now (if Yh l most id at_=0 then tn+1 else tn) most F':=by
 apply Np;have hm:=h.mo;have ab:=h.wi.nw;refine cmS0 (Ku h.wm) ?_;rintro _ w2 ⟨rfl,hw⟩;subst hw;simp -zeta only[adp,aaT];intro J6;have h6t:(id<0\/id>2147483648\/at_<0\/at_>1099511627776)->J6 true:=by
  intro hbad;have e:Yh l most id at_=1:=by unfold Yh;omega
  simp only[J6,aaU];rw[e];exact⟨by trivial,gV.refl _ _,ss,F,λb hb=> .inl hb,h⟩
 have h6f:¬(id<0\/id>2147483648\/at_<0\/at_>1099511627776)->J6 false:=by
  intro ae;have eA:Yh l most id at_=if lC l id=none/\most<=(l.length:Int) then 7 else 0:=by unfold Yh;omega
  simp only[not_or] at ae;simp -zeta only[sx,Ci,J6,h.wm.Ω];have key:∀(K:Value->Bool->Prop),(∀v b,(∃t0:Tm,v= .agg ⟨eT t0⟩/\∀t,lC l id=some t->t0=t)->b=(lC l id).isSome->K v b)->E8 υ 3 (some m) (Β id) (.agg ⟨amT⟩) w2 K:=by
   intro K hh;refine Xn h.wm.mp eqW id (YP id) (λhl=>hh _ _ ⟨⟨0,0,0⟩,rfl,λt ht=>by simp_all⟩ (by rw[hl];rfl)) (λb hl=>hh _ _ ⟨b,rfl,λt ht=>by simp_all⟩ (by rw[hl];rfl))
  refine key _ ?_;rintro _ b11 ⟨t0,rfl,ht0⟩ hb11;refine⟨t0.id,(t0.a:Int),t0.tn,rfl,DJ rfl rfl λp w3 r3 e3 z3 f3=> ?_⟩;have hw3:=h.wm.ext f3;intro O;have h18t:lC l id=none/\most<=(l.length:Int)->∀W,Ext w2 W->O true W:=by
   intro R W hx;rw[aeH R] at eA;simp only[O,aaU];rw[eA];exact⟨by trivial,hx _,ss,F,λb hb=> .inl hb,h.ext hx⟩
  have h18f:¬(lC l id=none/\most<=(l.length:Int))->∀W,Ext w3 W->O false W:=by
   intro U W hx;rw[ada U] at eA;simp -zeta only[O,aaT];intro Z;have ac:∀W1 ss1 F1,WM W1 d m ss1 l now tn most F1->WI now (GL (lC l) id none) F1->gV w2 W1 (qF d m ss)->(∀b,qF d m ss1 b->qF d m ss b\/w2.heap.size<=b)->Z W1:=by
    intro W1 ss1 F1 g1 g2 g3 g4;have htn0:=h.t0;simp only[Z,f_,gq,g1.ai3];rw[Α];refine g1.akB (tn+1) λw4 h4 f4 z4=> ?_;have h4d:=h4.ext (Ext.drew w4);simp only[f_,gq,h4d.Yp,h4d.ai3];refine gy λq w5 r5 e5 z5 f5=> ?_;have h5:=h4d.ext f5;simp only[sx,Ci,afu,h5.Yp,h5.ai3];refine gU r5 rfl rfl λw6 r6 f6 z6=> ?_;have f6q:=f6 (·=q) rfl;have hq:∀b,qF d m ss1 b->b≠q:=λb hb=>by have:=h4d.lt hb;omega
    have h6:=(h5.fr f6q hq).ext (Ext.drew w6);have r6d:=r6.drew;simp only[d_,f_,gq,Dp,h6.Ω,r6d.cell];have emax:(if (now:Int)>at_ then (now:Int) else at_)=((max at_.toNat now:Nat):Int):=by
     split<;>omega
    have hT:(Value.agg ⟨[Β id,Β (if (now:Int)>at_ then (now:Int) else at_),Β (tn+1)]⟩:Value)= .agg ⟨eT ⟨id,max at_.toNat now,tn+1⟩⟩:=by rw[emax]
    rw[hT];refine h6.ak_ ⟨id,max at_.toNat now,tn+1⟩ λw7 h7 f7 z7=> ?_;have af:=hq m (.inr (.inl rfl));have r7:=r6d.fr f7 (λe=>af e.symm);simp only[d_,f_,gq,r7.cell];rw[emax];have N:max at_.toNat now<=2^40:=by omega
    have Y:∀id' t,GL (lC l) id none id'=some t->lC l id'=some t:=λid' t hu=>by
     unfold GL at hu
     simp_all
    refine cmS6 (ac9 h7 ab ⟨id,max at_.toNat now,tn+1⟩ N λn k hn hk=>by have:=WI.short g2 Y hn hk;omega) ?_;rintro w8 ⟨f8,n,ss8,hn,aa,h8,hs8⟩;have hp:=g2.put (by unfold GL;simp) (by grind) N aa;have eP:GL (GL (lC l) id none) id (some ⟨id,max at_.toNat now,tn+1⟩)=lC (Cm l id ⟨id,max at_.toNat now,tn+1⟩):=by
     rw[ajp l ⟨id,max at_.toNat now,tn+1⟩];funext id';unfold GL;split<;>rfl
    rw[eP] at hp;have f18:=((((((f4.mono λb e=> .inl e).ext (Ext.drew w4)).ext f5).trans f6q λb hb e=>by
      have h1z:=f4.size;have h2z:w4.drew.heap.size=w4.heap.size:=rfl;omega).ext (Ext.drew w6)).trans f7 λb hb e=> .inr (.inl e)).trans f8 λb _ hb=>hb
    have f28:=g3.trans f18 λb hb hb2=>by
     rcases g4 b hb2 with e|e
     ·exact e
     ·omega
    have s7:w2.heap.size<=w7.heap.size:=by
     have a1:=g3.size
     simp_all;omega
    obtain⟨F8,h8,hp⟩:∃F8,WM w8 d m ss8 (Cm l id ⟨id,max at_.toNat now,tn+1⟩) now (tn+1) most F8/\WI now (lC (Cm l id ⟨id,max at_.toNat now,tn+1⟩)) F8:=⟨_,h8,hp⟩;refine⟨eA.symm,f28,ss8,F8,λb hb=> ?_,?_⟩
    ·grind
    ·rw[eA,aeH rfl,aeH rfl];refine⟨h8,hp,⟨hm.1,?_⟩,λid' u hu=> ?_,λi1 i2 u1 u2 q1 q2 q3=> ?_,by omega⟩
     ·rw[ach]
      grind
     ·rw[BR] at hu;split at hu
      ·grind
      ·have:=h.tb id' u hu;omega
     ·rw[BR] at q1 q2;split at q1
      ·rename_i e1;split at q2
       ·omega
       ·cases q1
        have:=h.tb _ _ q2
        grind
      ·split at q2
       ·cases q2
        have:=h.tb _ _ q1
        grind
       ·exact h.ti _ _ _ _ q1 q2 q3
   clear_value Z;have hW:=hw3.ext hx;have rW:=r3.ext hx;have xW:=f3.trans hx
   cases I:lC l id with
   |none=>
    rw[I] at hb11;rw[hb11,ald,aaT];refine ac W ss F hW ?_ (xW _) λb hb=> .inl hb;have:GL (lC l) id none=lC l:=by
     funext id';unfold GL
     simp_all
    rw[this];exact h.wi
   |some t=>
    rw[I] at hb11;have:=ht0 t I;subst this;obtain⟨p1,p2,p3⟩:=h.wi.pl id t0 I;rw[hb11,ajX,aaU];simp only[sx,Ci,rW.cell];refine cmS6 (aaR hW ab t0 p3) ?_;rintro w4 ⟨f4,n,ss4,hn,aa,h4,hs4⟩;have ag:=h.wi.take I aa;rw[p1] at h4;exact ac w4 ss4 _ h4 ag ((xW _).trans f4 λb _ e=>e) λb hb=>by
     rcases hs4 b hb with e|e
     ·exact .inl e
     ·exact .inr (aj0 xW.size e)
  clear_value O
  cases I:lC l id with
  |none=>
   rw[I] at hb11;rw[hb11,ald,afa,aaU];have hw3d:=hw3.ext (Ext.drew w3);simp only[f_,gq,Dp,hw3d.Ω,hw3d.akV];refine Z8 hw3d.mp ⟨by trivial,?_⟩;by_cases J:(l.length:Int)>=most
   ·rw[aeJ J];exact h18t ⟨I,J⟩ _ (f3.trans (Ext.drew w3))
   ·rw[adn J];exact h18f (λe=>J e.2) _ (Ext.drew w3)
  |some t=>
   rw[I] at hb11;rw[hb11,ajX,adp,aaT];exact h18f (λe=>by simp_all) _ (Ext.drew w3)
 clear_value J6;by_cases c1:id<0
 ·rw[aeJ c1,aaU];exact h6t (.inl c1)
 ·rw[adn c1,aaT];by_cases c2:id>2147483648
  ·rw[aeJ c2,aaU];exact h6t (.inr (.inl c2))
  ·rw[adn c2,aaT];by_cases c3:at_<0
   ·rw[aeJ c3,aaU];exact h6t (.inr (.inr (.inl c3)))
   ·rw[adn c3,aaT];by_cases c4:at_>1099511627776
    ·rw[aeJ c4];exact h6t (.inr (.inr (.inr c4)))
    ·rw[adn c4];exact h6f (by omega)
end
end Go.Proofs.WN
end
section
namespace Go.Proofs.WN
open Gp Gp.Wh
def afY:Go.Shelf.Ren:=⟨fun|6=>241|15=>278|14=>277|28=>305|29=>306|20=>297|21=>298|22=>299|23=>300|24=>301|25=>302|26=>303|27=>304|46=>318|47=>319|48=>320|49=>321|50=>322|57=>325|n=>n,fun|22=>170|24=>335|25=>359|3=>3|39=>367|0=>0|53=>404|55=>414|4=>4|46=>407|45=>406|50=>136|5=>5|9=>9|66=>425|70=>429|76=>433|77=>434|n=>n,fun|n=>n⟩
theorem ak4:SlLaysF0.n6 υ afY:={
 mixed:=by kernel_rfl,
 f6:=⟨Tryz.f241.name,by decide,Tryz.func241.trans (congrArg some (by kernel_rfl))⟩,
 f14:=⟨Tryz.f277.name,by decide,Tryz.func277.trans (congrArg some (by kernel_rfl))⟩,
 f15:=Tryz.func278.trans (congrArg some (by kernel_rfl)),
 f20:=⟨Tryz.f297.name,by decide,Tryz.func297.trans (congrArg some (by kernel_rfl))⟩,
 f21:=⟨Tryz.f298.name,by decide,Tryz.func298.trans (congrArg some (by kernel_rfl))⟩,
 f22:=⟨Tryz.f299.name,by decide,Tryz.func299.trans (congrArg some (by kernel_rfl))⟩,
 f23:=⟨Tryz.f300.name,by decide,Tryz.func300.trans (congrArg some (by kernel_rfl))⟩,
 f24:=⟨Tryz.f301.name,by decide,Tryz.func301.trans (congrArg some (by kernel_rfl))⟩,
 f25:=⟨Tryz.f302.name,by decide,Tryz.func302.trans (congrArg some (by kernel_rfl))⟩,
 f26:=⟨Tryz.f303.name,by decide,Tryz.func303.trans (congrArg some (by kernel_rfl))⟩,
 f27:=⟨Tryz.f304.name,by decide,Tryz.func304.trans (congrArg some (by kernel_rfl))⟩,
 f28:=Tryz.func305.trans (congrArg some (by kernel_rfl)),
 f29:=Tryz.func306.trans (congrArg some (by kernel_rfl)),
 f46:=⟨Tryz.f318.name,by decide,Tryz.func318.trans (congrArg some (by kernel_rfl))⟩,
 f47:=Tryz.func319.trans (congrArg some (by kernel_rfl)),
 f48:=Tryz.func320.trans (congrArg some (by kernel_rfl)),
 f49:=⟨Tryz.f321.name,by decide,Tryz.func321.trans (congrArg some (by kernel_rfl))⟩,
 f50:=⟨Tryz.f322.name,by decide,Tryz.func322.trans (congrArg some (by kernel_rfl))⟩,
 f57:=⟨Tryz.f325.name,by decide,Tryz.func325.trans (congrArg some (by kernel_rfl))⟩,
 t0:=Tryz.underlying0,
 a0:=Tryz.isAgg0,
 z0:=Tryz.sizeOf0,
 v0:=Tryz.zeroValue0,
 t3:=Tryz.underlying3,
 a3:=Tryz.isAgg3,
 z3:=Tryz.sizeOf3,
 v3:=Tryz.zeroValue3,
 t4:=Tryz.underlying4,
 a4:=Tryz.isAgg4,
 z4:=Tryz.sizeOf4,
 v4:=Tryz.zeroValue4,
 t5:=Tryz.underlying5,
 a5:=Tryz.isAgg5,
 z5:=Tryz.sizeOf5,
 v5:=Tryz.zeroValue5,
 t9:=Tryz.underlying9,
 a9:=Tryz.isAgg9,
 z9:=Tryz.sizeOf9,
 v9:=Tryz.zeroValue9,
 t22:=Tryz.underlying170,
 a22:=Tryz.isAgg170,
 z22:=Tryz.sizeOf170,
 v22:=Tryz.zeroValue170,
 t25:=Tryz.underlying359,
 a25:=Tryz.isAgg359,
 z25:=Tryz.sizeOf359,
 v25:=Tryz.zeroValue359,
 t39:=Tryz.underlying367,
 a39:=Tryz.isAgg367,
 z39:=Tryz.sizeOf367,
 v39:=Tryz.zeroValue367,
 t45:=Tryz.underlying406,
 a45:=Tryz.isAgg406,
 z45:=Tryz.sizeOf406,
 v45:=Tryz.zeroValue406,
 t46:=Tryz.underlying407,
 a46:=Tryz.isAgg407,
 z46:=Tryz.sizeOf407,
 v46:=Tryz.zeroValue407,
 t50:=Tryz.underlying136,
 a50:=Tryz.isAgg136,
 z50:=Tryz.sizeOf136,
 v50:=Tryz.zeroValue136,
 t53:=Tryz.underlying404,
 a53:=Tryz.isAgg404,
 z53:=Tryz.sizeOf404,
 v53:=Tryz.zeroValue404,
 t55:=Tryz.underlying414,
 a55:=Tryz.isAgg414,
 z55:=Tryz.sizeOf414,
 v55:=Tryz.zeroValue414,
 t66:=Tryz.underlying425,
 a66:=Tryz.isAgg425,
 z66:=Tryz.sizeOf425,
 v66:=Tryz.zeroValue425,
 t70:=Tryz.underlying429,
 a70:=Tryz.isAgg429,
 z70:=Tryz.sizeOf429,
 v70:=Tryz.zeroValue429,
 t76:=Tryz.underlying433,
 a76:=Tryz.isAgg433,
 z76:=Tryz.sizeOf433,
 v76:=Tryz.zeroValue433,
 t77:=Tryz.underlying434,
 a77:=Tryz.isAgg434,
 z77:=Tryz.sizeOf434,
 v77:=Tryz.zeroValue434}
namespace Srt
open Go.Shelf Go.RowKit Go.Lib Go.Sort
instance :Inhabited Tm:=⟨⟨0,0,0⟩⟩
theorem aha (t:Tm):∀v∈eT t,v.oneCell'=true:=by
 intro v hv;simp only[eT,agN,ajH,akL] at hv;rcases hv with rfl|rfl|rfl<;>rfl
def cfT (x y:Tm):Int:=Yt x.tn y.tn
theorem ahz (x y:Tm):ltOf cfT x y=decide (x.tn<y.tn):=by
 unfold ltOf cfT Yt;by_cases h1:x.tn<y.tn
 ·simp[h1]
 ·by_cases h2:x.tn>y.tn<;>simp[h1,h2]
theorem swo:SWO (ltOf cfT) where
 irrefl x:=by rw[ahz];simp
 trans x y z h1 h2:=by rw[ahz] at *;simp at *;omega
 ntrans x y z h1 h2:=by rw[ahz] at *;simp at *;omega
theorem closure (x y:Tm) (W:θ):uK x.id x.a x.tn y.id y.a y.tn W λr W'=>r=cfT x y/\∃q os',W'=grow (W.drewN q) os':=by
 apply Jq;unfold Ε Al;have r1:Row (W.alloc (.cells ⟨eT x⟩ 335)) W.heap.size (eT x):=Row.new W (eT x) 335;have x2:Ext (W.alloc (.cells ⟨eT x⟩ 335)) ((W.alloc (.cells ⟨eT x⟩ 335)).alloc (.cells ⟨eT y⟩ 335)):=λS=>gV.alloc _ _ S;have r2:=r1.ext x2;have r3:Row ((W.alloc (.cells ⟨eT x⟩ 335)).alloc (.cells ⟨eT y⟩ 335)) (W.alloc (.cells ⟨eT x⟩ 335)).heap.size (eT y):=Row.new _ (eT y) 335;have c1:((W.alloc (.cells ⟨[Β x.id,Β (x.a:Int),Β x.tn]⟩ 335)).alloc (.cells ⟨[Β y.id,Β (y.a:Int),Β y.tn]⟩ 335)).cell? ⟨W.heap.size,2,none⟩=some (Β x.tn):=by
  have:=r2.cell 2;exact this
 have c2:((W.alloc (.cells ⟨[Β x.id,Β (x.a:Int),Β x.tn]⟩ 335)).alloc (.cells ⟨[Β y.id,Β (y.a:Int),Β y.tn]⟩ 335)).cell? ⟨(W.alloc (.cells ⟨[Β x.id,Β (x.a:Int),Β x.tn]⟩ 335)).heap.size,2,none⟩=some (Β y.tn):=by
  have:=r3.cell 2;exact this
 simp only[sx,c1,c2];refine cmS1 (TL _ _ _) ?_;rintro r W3 ⟨rfl,hw⟩;subst hw;exact⟨rfl,0,_,by rw[alloc_eq_grow,alloc_eq_grow,grow_grow];rfl⟩
theorem lays (blk off size:Nat) (w:θ):CmpLays υ oV #[] eT 3 cfT blk off size w:=by
 intro m os dk _ x y;have h:=closure x y (sortWorldK eT 3 w blk off m dk os);unfold uK at h;have e:(#[.agg (eT x).toArray,.agg (eT y).toArray]++ #[]:Array Value)=⟨[.agg ⟨eT x⟩,.agg ⟨eT y⟩]⟩:=by simp
 rw[e];refine Calls.mono h ?_;rintro e W' ⟨r,he,rfl,hq⟩;exact⟨he,hq⟩
theorem XF (d:Array Tm) {j:Nat} (hj:j<d.size * 3):(flatK eT 3 d)[j]! =(d.toList.flatMap eT)[j]?.getD default:=by
 rw[get_flatK eT 3 d j hj];have h:j / 3<d.size:=by omega
 have e:=flat_get eT 3 pI d.toList (j / 3) (j % 3) (aln _ (by omega));rw[show j / 3 * 3+j % 3=j by omega] at e;rw[e,Array.getElem?_toList,alW h,getElem!_pos d _ h,Option.bind_some];rw[List.getElem!_eq_getElem?_getD]
theorem Px {l:List Tm} {j:Nat} (hj:j<l.length * 3):(l.flatMap eT)[j]? =some ((l.flatMap eT)[j]?.getD default):=by
 have hl:=iU eT 3 pI l;rw[ade (by omega)];rfl
theorem holds {w:θ} {b:Nat} {xs:List Tm} {pad:List Value} (hr:Row w b (xs.flatMap eT++pad)):HoldsK eT 3 w b 0 xs.toArray:=by
 intro j hj;rw[size_flatK] at hj;have hl:=iU eT 3 pI xs;simp only[amj] at hj;refine⟨?_,hr.frozen _⟩;rw[ahO,hr.cell,alk (by omega),XF _ (by simpa using hj),List.toList_toArray];exact Px hj
theorem row_of {w:θ} {b n:Nat} {xs:List Tm} {pad:List Value} {d':Array Tm} {os:Array Obj} (hr:Row w b (xs.flatMap eT++pad)) (hd:d'.size=xs.length):
  Row (sortWorldK eT 3 w b 0 n d' os) b (d'.toList.flatMap eT++pad)/\gV w (sortWorldK eT 3 w b 0 n d' os) (·=b):=by
 obtain⟨T,ht⟩:=hr;have hb:b<w.heap.size:=(akl.1 ht).1;have hl:=iU eT 3 pI xs;have hl':(d'.toList.flatMap eT).length=d'.size * 3:=by rw[iU eT 3 pI,amf]
 have hh:(sortWorldK eT 3 w b 0 n d' os).heap=w.heap.modify b (onCells (putCells id 0 (flatK eT 3 d')))++os:=rfl;constructor
 ·refine⟨T,?_⟩;rw[hh,amQ (by simpa using hb),ak7,aeH rfl,ht];have:putCells id 0 (flatK eT 3 d') ⟨xs.flatMap eT++pad⟩=⟨d'.toList.flatMap eT++pad⟩:=by
   apply Array.ext_getElem?;intro k;unfold putCells;rw[Array.getElem?_mapIdx];simp only[size_flatK,Nat.zero_le,afu,ahO,alN,id_eq,List.getElem?_toArray];by_cases hk:k<d'.size * 3
   ·rw[alk (by omega),alk (by omega),Px (l:=xs) (by omega),ag4,aeH hk,XF _ hk];exact(Px (by rw[amf];exact hk)).symm
   ·rw[akQ (by omega),akQ (by omega),hl,hl',hd]
    cases pad[k - xs.length * 3]? with
    |none=>rfl
    |some v=>rw[ag4,ada (by rw[<- hd];exact hk)]
  simp only[ag4,onCells,this]
 ·refine⟨?_,λc hc h=> ?_,⟨rfl,rfl,rfl⟩⟩
  ·rw[hh];simp
  ·rw[hh,amQ (by simpa using hc),ak7,ada (λe=>h e.symm)]
end Srt
theorem ak5 (w:θ):zK (IntKind.u64.wrap ((0:Nat):Int)) w λr w'=>r=0/\w'=w:=by
 apply P7;have h:wH (IntKind.u64.wrap ((0:Nat):Int)) w λr w'=>r=0/\w'=w:=by
  apply Nb;rw[show IntKind.u64.wrap ((0:Nat):Int)=0 from rfl];simp only[show decide ((0:Int)>=4294967296)=false from rfl,show decide ((0:Int)>=65536)=false from rfl,show decide ((0:Int)>=256)=false from rfl,aaT,show IntKind.u8.wrap 0=0 from rfl];exact⟨0,by decide,rfl,rfl,by trivial⟩
 refine cmS1 h ?_;rintro r w' ⟨rfl,hw⟩;exact⟨rfl,hw⟩
theorem ak6 (s:fU) (lim:Int) (v:Value) (w:θ):iV s 0 ((0:Nat):Int) lim v w λw'=>w'=w:=by
 apply uP;refine gI (λst W=>W=w/\st.1=0/\st.2.1=0) (λ_ _=>0) ⟨rfl,rfl,rfl⟩ ?_;rintro⟨a,b,c,d,e,⟨⟩⟩ W ⟨rfl,ha,hb⟩ next hnext
 simp only at ha hb;subst ha hb;have:decide ((ο.wrap ((0:Int) - 0))<=12)=true:=rfl;rw[this,aaU];have h:jD s 0 0 v W λw'=>w'=W:=by
  apply qJ;refine gI (λst W'=>W'=W/\st.1=1) (λ_ _=>0) ⟨rfl,rfl⟩ ?_;rintro⟨a,⟨⟩⟩ W' ⟨rfl,ha⟩ next' hnext'
  simp only at ha;subst ha;have:decide ((1:Int)<0)=false:=rfl;rw[this,aaT]
 refine cmS6 h ?_;rintro w' hw;exact hw
open Srt in
theorem agF {w:θ} {s:fU} {xs:List Tm} (hs:iQ 3 eT w s xs) (hl:xs.length<=2^30):
  iW s (Value.func (.func oV) #[] #[]) w λw'=>gV w w' (fU.at s)/\∃ys:List Tm,ys.Perm xs/\ys.Pairwise (λx y=>¬y.tn<x.tn)/\iQ 3 eT w' s ys:=by
 by_cases I:s.a=none
 ·have hx:xs=[]:=by
   rcases hs.mem with ⟨_,h,_⟩|⟨b,pad,h,_⟩
   ·exact h
   ·rw[I] at h;cases h
  subst hx;have hlen:s.len=0:=hs.len;apply qI;rw[hlen];refine cmS1 (ak5 w) ?_;rintro r w' ⟨rfl,hw⟩;subst hw;refine cmS6 (ak6 s _ _ _) ?_;rintro w' hw;subst hw;exact⟨gV.refl _ _,[],List.Perm.refl _,List.Pairwise.nil,hs⟩
 obtain⟨b,pad,ha,hc,hr⟩:∃b pad,s.a=some ⟨b,0,none⟩/\s.cap * 3=xs.length * 3+pad.length/\Row w b (xs.flatMap eT++pad):=by
  rcases hs.mem with ⟨h,_,_⟩|h
  ·exact absurd h I
  ·exact h
 have hlen:=hs.len;have eg:∀args w,(callFunc 242 args).run υ w= .ok (.enter 242 args) w:=enters_of Tryz.func242 (by kernel_rfl) rfl;have u:=AnyQ.slices_SortFunc ak4 3 Tryz.isAgg335 Tryz.sizeOf335 eT pI aha cfT swo 242 #[] b 0 s.cap xs.toArray w eg (lays b 0 xs.toArray.size w) (holds hr) hr.lt (by rw[amj];omega);unfold iW Δ;rw[ha,hlen];change Calls υ 241 #[.slice (some ⟨b,0,none⟩) xs.length s.cap,.func (.func oV) #[] #[]] w _;refine Calls.mono (show Calls υ 241 #[.slice (some ⟨b,0,none⟩) xs.toArray.size s.cap,.func (.func oV) #[] #[]] w _ from u) ?_;rintro e w' ⟨rfl,d',n,os,⟨hp1,_,hp3⟩,O,rfl⟩;have J:xs.toArray.size=xs.length:=by simp
 have hp1:d'.size=xs.length:=hp1.trans J;rw[J] at hp3;have N:d'.toList.length=xs.length:=hp1;obtain⟨g1,g2⟩:=row_of (n:=n) (os:=os) hr hp1;have e1:(d'.extract 0 xs.length).toList=d'.toList:=by rw[<- hp1];simp
 have e2:(xs.toArray.extract 0 xs.length).toList=xs:=by simp
 rw[e1,e2] at hp3;refine⟨rfl,g2.mono λc R=>⟨0,by rw[ha,R]⟩,d'.toList,hp3,?_,⟨?_,.inr ⟨b,pad,ha,?_,g1⟩⟩⟩
 ·rw[amb];intro i j hi hj U;rw[amf] at hi hj;have:=O i j (Nat.zero_le _) U (by rw[amj];omega);rw[getElem!_pos d' j hj,getElem!_pos d' i hi,ahz] at this;simpa using this
 ·rw[hlen];exact N.symm
 ·rw[hc,N]
end Go.Proofs.WN
end
section
namespace Go.Proofs.WN
open Gp Gp.Wh
abbrev eI (x:Int):List Value:=[Β x]
theorem jr (x:Int):(eI x).length=1:=rfl
theorem Iu (x:Int):∀v∈eI x,iI v=true:=by intro v hv;rw[akU.1 hv];rfl
theorem acD {l:PL} {id:Int} {t:Tm} (h:lC l id=some t):(BJ l id).length+1=l.length:=by
 induction l with
 |nil=>cases h
 |cons x l ih=>
  unfold BJ;unfold lC at h;by_cases hx:id=x.1
  ·rw[aeH hx];simp
  ·rw[ada hx] at h ⊢;simp only[aiQ];have:=ih h;omega
section
variable {w w':θ} {d m:Nat} {ss:List fU} {l:PL} {now:Nat} {tn most:Int} {F:Fs}
def Fa (p d now:Nat) (W:θ):Prop:=Row W p [.pointer (some ⟨d,0,none⟩)]/\W.cell? ⟨d,449,none⟩=some (Β (now:Int))
theorem Fa.ext {p d now:Nat} {W W':θ} (h:Fa p d now W) (hx:Ext W W'):Fa p d now W':=⟨h.1.ext hx,kQ h.2 hx⟩
theorem ajv (p d now:Nat):FnT (Value.func (.func KG) #[] #[.pointer (some ⟨p,0,none⟩)]) (Fa p d now) (λx=>(x.a:Int) !=(now:Int)):=by
 intro x W K hC hK;refine j_ (by kernel_rfl) ?_;have:zU x.id x.a x.tn ⟨p,0,none⟩ W λr W'=>r=((x.a:Int) !=(now:Int))/\Ext W W':=by
  apply Jo;refine gy λq W1 q1 _ _ g1=> ?_;have y:=g1.trans (Ext.drew W1);have hC':=hC.ext y;simp only[sx,q1.drew.cell,hC'.1.cell,hC'.2];exact⟨by trivial,y⟩
 refine Calls.mono this ?_;rintro e W' ⟨r,he,rfl,hf⟩;exact⟨_,he,hK W' hf⟩
theorem akp (p d now:Nat):FnT (Value.func (.func KH) #[] #[.pointer (some ⟨p,0,none⟩)]) (Fa p d now) (λx=>(x.a:Int)==(now:Int)):=by
 intro x W K hC hK;refine j_ (by kernel_rfl) ?_;have:zX x.id x.a x.tn ⟨p,0,none⟩ W λr W'=>r=((x.a:Int)==(now:Int))/\Ext W W':=by
  apply Jp;refine gy λq W1 q1 _ _ g1=> ?_;have y:=g1.trans (Ext.drew W1);have hC':=hC.ext y;simp only[sx,q1.drew.cell,hC'.1.cell,hC'.2];exact⟨by trivial,y⟩
 refine Calls.mono this ?_;rintro e W' ⟨r,he,rfl,hf⟩;exact⟨_,he,hK W' hf⟩
theorem aiq (h:WS w d m ss l now tn most F):
  wO (some ⟨d,0,none⟩) w λr w'=>gV w w' (qF d m ss)/\∃D:List Tm,D.Pairwise (λx y=>x.tn<y.tn)/\(∀t,t∈D↔lC l t.id=some t/\t.a=now)/\iQ 1 eI w' r (D.map Tm.id)/\(∀b,fU.at r b->w.heap.size<=b)/\
   ∃ss' l' F',WS w' d m ss' l' now tn most F'/\(∀id t,lC l' id=some t↔lC l id=some t/\t∉D)/\l'.length+D.length=l.length/\(∀b,qF d m ss' b->qF d m ss b\/w.heap.size<=b)/\(∀b,fU.at r b->¬qF d m ss' b):=by
 apply Nr;refine⟨rfl,gy λp w1 r1 e1 z1 f1=> ?_⟩;have x1:=f1.trans (Ext.drew w1);have h1:=h.ext x1;have r1d:=r1.drew;have hp:∀b,qF d m ss b->b≠p:=λb hb=>by have:=h.wm.lt hb;omega
 simp only[sx,r1d.cell,h1.wm.Yp];refine cmS17 (VF h1.wm h.wi.nw h.wi.nw) ?_;rintro _ w2 ⟨⟨n,hn,ay,rfl⟩,f2⟩;have hn0:n=0:=ay.uniq (Lv.self now);subst hn0;rw[alR,ahO];have x2:=x1.trans f2;have h2:=h.ext x2;have r2:=r1d.ext f2;have hk:=BK now 0;obtain⟨s,hs,hb⟩:=h2.wm.buf 0 (dg now 0) (by omega) hk;rw[alR,ahO] at hs;have az:=aj0 (WI.short h.wi (λ_ _ e=>e) (show 0<7 by omega) hk) (by have:=h.mo;omega:l.length<=2^20);have ag:∀b,fU.at s b->qF d m ss b:=λb hb=> .inr (.inr ⟨_,s,hs,hb⟩);have all:∀t∈F 0 (dg now 0),t.a=now:=λt ht=>(h.wi.acH.1 ht).2;have s2:Fa p d now w2:=⟨r2,h2.wm.Yp⟩;simp only[wS,f_,gK,h2.wm.cs hs];refine cmS2 (nR (hb.sl pI (by omega)) (by omega)) ?_;rintro c3 w3 ⟨f3,b3,n3⟩;have h3:=h2.ext f3;have s3:=s2.ext f3;have hz0:=h.wm.lt (.inl rfl:qF d m ss d);have hx2:=x2.size;have hx3:=f3.size;refine cmS2 (Yv b3 (by omega) (ajv p d now) λW hf=> ?_) ?_
 ·refine⟨s3.1.fr hf λe=> ?_,F9 s3.2 hf λe=> ?_⟩
  ·have:=n3 p e;have:=r2.lt;omega
  ·have:=n3 d e;omega
 rintro c4 w4 ⟨b4,f4,n4⟩;have e4:(F 0 (dg now 0)).filter (λx=> !((x.a:Int) !=(now:Int)))=F 0 (dg now 0):=amK.2 λt ht=>by rw[all t ht];simp
 rw[e4] at b4;have old3:∀b,b<w2.heap.size->¬fU.at c3 b:=λb hb e=>by have:=n3 b e;omega
 have h4:=h3.fr f4 λb hb e=>old3 b (h2.wm.lt hb) e;have s4:Fa p d now w4:=⟨s3.1.fr f4 (old3 p r2.lt),h4.wm.Yp⟩;have aA:iQ 3 eT w4 s (F 0 (dg now 0)):=(hb.ext f3).fr f4 λb hb' e=>old3 b (hb.lt hb') e;have hs4:=h4.wm.cs hs;simp only[hs4,f_,gK];refine cmS2 (Yv aA (by omega) (akp p d now) λW hf=>⟨s4.1.fr hf λe=>hp p (ag p e) rfl,F9 s4.2 hf λe=>(h.wm.ne d ⟨_,s,hs,e⟩).1 rfl⟩) ?_;rintro c5 w5 ⟨b5,f5,n5⟩;have e5:(F 0 (dg now 0)).filter (λx=> !((x.a:Int)==(now:Int)))=[]:=List.filter_eq_nil_iff.2 λt ht=>by rw[all t ht];simp
 rw[e5] at b5;rw[show (⟨d,dg now 0,none⟩:Addr)=⟨d,0 * 64+dg now 0,none⟩ by rw[alR,ahO]];refine h4.wm.ah3 (n:=0) (k:=dg now 0) (by omega) hk (by rw[alR,ahO];exact hs) (S:=fU.at s) f5 (λb _ hb=>hb) b5 (λb hb=> .inl (n5 b hb)) (by simp) λw6 h6 f6 z6=> ?_;rw[alR,ahO] at h6;have c4new:∀b,fU.at c4 b->w2.heap.size<=b:=λb hb=>n3 b (n4 b hb);have sold:∀b,fU.at s b->b<w2.heap.size:=λb hb'=>hb.lt hb';have aB:iQ 3 eT w6 c4 (F 0 (dg now 0)):=((b4.fr f5 λb hb' e=>by have:=c4new b hb';have:=sold b e;omega)).fr f6 λb hb' e=>by have:=c4new b hb';omega
 have aC:gV w w6 (qF d m ss):=(((((x2.trans f3) (qF d m ss)).trans f4 λb hb1 hb2=>by have:=n3 b hb2;omega).trans f5 λb _ e=>ag b e)).trans f6 λb _ e=> .inl e;have sub6:∀b,qF d m (ss.set (dg now 0) c5) b->qF d m ss b:=λb hb'=>by
  rcases hb' with g|g|⟨j,u,hj,hu⟩
  ·exact .inl g
  ·exact .inr (.inl g)
  ·rw[akJ] at hj;split at hj
   ·split at hj
    ·cases hj;exact ag b (n5 b hu)
    ·cases hj
   ·exact .inr (.inr ⟨j,u,hj,hu⟩)
 have r6:Row w6 p [.pointer (some ⟨d,0,none⟩)]:=(s4.1.fr f5 λe=>hp p (ag p e) rfl).fr f6 λe=>hp d (.inl rfl) e.symm;have hz6:w2.heap.size<=w6.heap.size:=by have:=f4.size;have:=f5.size;have:=f6.size;omega
 refine cmS6 (agF aB (by omega)) ?_;rintro w7 ⟨f7,D,I,N,b7⟩;have lt2:∀b,qF d m (ss.set (dg now 0) c5) b->b<w2.heap.size:=λb hb'=>h2.wm.lt (sub6 b hb');have h7:=h6.fr f7 λb hb' e=>by have:=c4new b e;have:=lt2 b hb';omega
 have r7:=r6.fr f7 λe=>by have:=c4new p e;have:=r2.lt;omega
 have aq:gV w w7 (qF d m ss):=aC.trans f7 λb hb1 e=>by have:=c4new b e;omega
 have ab:∀t,t∈D↔lC l t.id=some t/\t.a=now:=λt=>by rw[I.mem_iff];exact h.wi.acH
 have aj:=h.wi.nd 0 (dg now 0) (by omega) hk;have ar:(D.map Tm.id).Nodup:=(I.map Tm.id).nodup_iff.2 aj;have hDl:D.length<=2^20:=by rw[I.length_eq];exact az
 have ak:D.Pairwise (λx y=>x.tn<y.tn):=by
  rw[amb] at N ⊢;intro i j hi hj au;have q1:=N i j hi hj au;have m1:=(ab D[i]).1 (akI hi);have m2:=(ab D[j]).1 (akI hj);have:D[i].tn≠D[j].tn:=λe=>by
   have Z:=h.ti _ _ _ _ m1.1 m2.1 e;have:=amb.1 ar i j (by simpa using hi) (by simpa using hj) au;simp only[List.getElem_map] at this;exact this Z
  omega
 have clen:=b7.len;have c4lt:∀b,fU.at c4 b->b<w7.heap.size:=λb hb'=>b7.lt hb';refine gI (λst W=>∃(i:Nat) (l1:PL),i<=D.length/\st.2.1=(i:Int)/\iQ 1 eI W st.1 ((D.take i).map Tm.id)/\(∀b,fU.at st.1 b->w7.heap.size<=b)/\WM W d m (ss.set (dg now 0) c5) l1 now tn most (w_ F 0 (dg now 0) [])/\
   (∀id t,lC l1 id=some t↔lC l id=some t/\t∉D.take i)/\l1.length+i=l.length/\gV w7 W (·=m)) (λst _=>D.length - st.2.1.toNat)
  ⟨0,l,by omega,rfl,iQ.nil,(λb ⟨o,hb'⟩=>by cases hb'),h7,λid t=>by simp,by omega,gV.refl _ _⟩ ?_
 rintro⟨out,i,⟨⟩⟩ W ⟨i,l1,hiD,av,ah,O,am,J,hlen,aa⟩ next ac
 simp only at av ah O;subst av;have ml7:m<w7.heap.size:=h7.lt (.inr (.inl rfl));by_cases aw:(i:Int)<(c4.len:Int)
 ·rw[aeJ aw,aaU];have U:i<D.length:=by omega
  have hx:=ade U;have ai:D.take (i+1)=D.take i++[D[i]]:=aj3 U;have Y:=akI U;have ae:D[i]∉D.take i:=λaD=>by
   have hn2:=ar;rw[<- ajS (i+1) D,ai,alz,alz,al4,al4] at hn2;exact hn2.1.2.2 _ (akR.2 ⟨_,aD,rfl⟩) _ (by simp) rfl
  generalize D[i]=t at hx ai Y ae;have aE:iQ 3 eT W c4 D:=b7.fr aa λb hb' e=>by have:=c4new b hb';have:=h2.wm.lt (.inr (.inl rfl):qF d m ss m);omega
  refine Xp (aE.sl pI (by omega)) hx λa q0 q1 q2=> ?_;simp only[f_,gq,q0,q1,q2];refine DJ rfl rfl λq w8 r8 e8 z8 f8=> ?_;have rpW:Row W p [.pointer (some ⟨d,0,none⟩)]:=r7.fr aa λe=>hp m (.inr (.inl rfl)) e.symm;have y8:=f8.trans (Ext.drew w8);have h8:=am.ext y8;have r8d:=r8.drew;simp only[sx,(rpW.ext y8).cell,h8.Ω,r8d.cell];refine h8.akg t.id λw9 h9 f9 z9=> ?_;have aF:m≠q:=by have:=aa.size;omega
  have r9:=r8d.fr f9 λe=>aF e.symm;simp only[aeI,f_,gq,r9.cell];refine gy λq2 aG aH e10 z10 f10=> ?_;have aI:lK 1 eI aG ⟨some ⟨q2,0,none⟩,1,1⟩ [t.id]:=(iQ.row (xs:=[t.id]) (f:=eI) (n:=1) (by simpa using aH)).sl jr (by omega);have hbo10:=((ah.ext y8).fr f9 λb hb' e=>by have:=O b hb';omega).ext f10;refine lJ jr hbo10 aI rfl (by omega) Iu (by rw[ahc,ajT,amF];omega) (by rw[ahc,ajT,amF];omega) λo11 aJ aK f11 n11=> ?_;have an:lC l1 t.id=some t:=(J t.id t).2 ⟨((ab t).1 Y).1,ae⟩;have aL:=(h9.ext f10).fr f11 λb hb' e=>by
   have:=O b e;have:=h7.lt hb';omega
  have hwz:w8.drew.heap.size=w8.heap.size:=rfl;have f7z:=aa.size;have f8z:=f8.size;have f9z:=f9.size;have f10z:=f10.size;have f711:gV w7 aJ (·=m):=((((aa.ext y8).trans f9 λ_ _ e=>e).ext f10)).trans f11 λb hb1 e=>by have:=O b e;omega
  rw[Α];refine ac _ _ ⟨i+1,_,by omega,by simp,?_,?_,aL,λid u=> ?_,?_,f711⟩ (by simp only;omega)
  ·simp only;rw[ai,alz];exact aK
  ·simp only;intro b hb';rcases n11 b hb' with g|g
   ·exact O b g
   ·omega
  ·rw[MR am.nd,ai,akX,akU];by_cases Z:id=t.id
   ·rw[aeH Z];constructor
    ·intro hx;cases hx
    ·rintro⟨g1,g2⟩;rw[Z,((ab t).1 Y).1] at g1
     cases g1
     exact absurd (.inr rfl) g2
   ·rw[ada Z,J];constructor
    ·rintro⟨g1,g2⟩;refine⟨g1,?_⟩;rintro(g|rfl)
     ·exact g2 g
     ·exact Z ((h.wi.pl _ _ g1).1).symm
    ·rintro⟨g1,g2⟩;exact⟨g1,λg=>g2 (.inl g)⟩
  ·have:=acD an;omega
 ·rw[adn aw,aaT];have:i=D.length:=by omega
  subst this;rw[akY] at ah J;have ao:gV w W (qF d m ss):=aq.trans aa λb _ e=> .inr (.inl e);have R:∀u,u∈F 0 (dg now 0)↔u∈D:=λu=>I.mem_iff.symm;have af:rest (lC l) (F 0 (dg now 0))=lC l1:=by
   funext id
   cases hq:lC l1 id with
   |some t=>
    have:=(J id t).1 hq;exact wu.2 ⟨this.1,λe=>this.2 ((R t).1 e)⟩
   |none=>
    cases hr:rest (lC l) (F 0 (dg now 0)) id with
    |none=>rfl
    |some t=>
     have:=wu.1 hr;have:=(J id t).2 ⟨this.1,λe=>this.2 ((R t).2 e)⟩;rw[hq] at this;cases this
  have ax:=h.wi.due;rw[af] at ax;have hout:∀b,fU.at out b->w7.heap.size<=b:=O;have hz7:w.heap.size<=w7.heap.size:=aq.size;refine⟨ao,D,ak,ab,ah,λb hb'=>by have:=O b hb';omega,_,l1,_,⟨am,ax,⟨h.mo.1,by have:=h.mo.2;omega⟩,λid t ht=>h.tb id t ((J id t).1 ht).1,λi1 i2 t u q1 q2 q3=>h.ti i1 i2 t u ((J i1 t).1 q1).1 ((J i2 u).1 q2).1 q3,h.t0⟩,J,by omega,λb hb'=> .inl (sub6 b hb'),λb hb' e=>by have:=O b hb';have:=lt2 b e;have:=f7.size;omega⟩
def ltT (x y:Tm):Prop:=x.a<y.a\/(x.a=y.a/\x.tn<y.tn)
theorem aaK (h:WS w d m ss l now tn most F) (a:Int) {T:Nat} (hT:T=max now (min a 1099511627776).toNat):
  rD (some ⟨d,0,none⟩) a w λr w'=>gV w w' (qF d m ss)/\∃D:List Tm,D.Pairwise ltT/\(∀t,t∈D↔lC l t.id=some t/\t.a<=T)/\iQ 1 eI w' r (D.map Tm.id)/\(∀b,fU.at r b->w.heap.size<=b)/\
   ∃ss' l' F',WS w' d m ss' l' T tn most F'/\(∀id t,lC l' id=some t↔lC l id=some t/\T<t.a)/\l'.length+D.length=l.length/\(∀b,qF d m ss' b->qF d m ss b\/w.heap.size<=b)/\(∀b,fU.at r b->¬qF d m ss' b):=by
 apply Gz;have hnw:=h.wi.nw;have ak:=h.mo;have hT40:T<=2^40:=by omega
 have aq:now<=T:=by omega
 refine cmS0 (Ku h.wm) ?_;rintro _ w2 ⟨rfl,hw⟩;subst hw;simp -zeta only[sx,adp,h.wm.Yp];have eT':(if (if (1099511627776:Int)<a then 1099511627776 else a)>(now:Int) then (if (1099511627776:Int)<a then 1099511627776 else a) else (now:Int))=(T:Int):=by
  rw[hT];split<;>split<;>omega
 simp -zeta only[eT'];refine gI (λst W=>∃(O:List Tm) (ss1:List fU) (l1:PL) (n1:Nat) (F1:Fs),WS W d m ss1 l1 n1 tn most F1/\n1<=T/\now<=n1/\iQ 1 eI W st.1 (O.map Tm.id)/\(∀b,fU.at st.1 b->w2.heap.size<=b/\¬qF d m ss1 b)/\O.Pairwise ltT/\
   (∀id t,lC l1 id=some t↔lC l id=some t/\t∉O)/\(∀t∈O,lC l t.id=some t/\t.a<=T)/\(∀t∈O,∀id u,lC l1 id=some u->t.a<u.a)/\l1.length+O.length=l.length/\gV w2 W (qF d m ss)/\(∀b,qF d m ss1 b->qF d m ss b\/w2.heap.size<=b))
  (λst W=>st.1.cap * 0+(l.length - st.1.len)) ⟨[],ss,l,now,F,h,aq,ai8 _,iQ.nil,(λb ⟨o,hb⟩=>by cases hb),List.Pairwise.nil,λid t=>by simp,by simp,by simp,by simp,gV.refl _ _,λb hb=> .inl hb⟩ ?_
 rintro⟨out,⟨⟩⟩ W ⟨O,ss1,l1,n1,F1,hW,hn1,hn0,af,N,am,aa,hO,an,hlen,hf,I⟩ next ab
 simp only at af N;have hl20:l1.length<=2^20:=by omega
 refine cmS3 (agM hW.wm hW.wi) ?_;rintro r t w3 ⟨f3,ag⟩;have h3:=hW.ext f3;have R:=af.ext f3;have hf3:=hf.ext f3;intro J;have fin:(∀id u,lC l1 id=some u->T<u.a)->J true:=by
  intro U;simp only[J,aaU];refine cmS6 (aaS h3.wm h3.wi hn1 hT40 (λid u hu=>Nat.le_of_lt (U id u hu)) hl20) ?_;rintro w4 ⟨f4,ss4,F4,h4,hi4,hs4⟩;have hW3:w2.heap.size<=w3.heap.size:=hf3.size;refine⟨hf3.trans f4 λb hb1 hb2=> ?_,O,am,λu=>⟨λhu=>hO u hu,λ⟨g1,g2⟩=> ?_⟩,R.fr f4 λb hb e=>(N b hb).2 e,λb hb=>(N b hb).1,ss4,l1,F4,⟨h4,hi4,⟨ak.1,by omega⟩,h3.tb,h3.ti,h3.t0⟩,λid u=> ?_,hlen,λb hb=> ?_,λb hb e=> ?_⟩
  ·rcases I b hb2 with g|g
   ·exact g
   ·omega
  ·refine alL λhn=> ?_;have:=U _ u ((aa u.id u).2 ⟨g1,hn⟩);omega
  ·rw[aa];constructor
   ·rintro⟨g1,g2⟩;exact⟨g1,U id u ((aa id u).2 ⟨g1,g2⟩)⟩
   ·rintro⟨g1,g2⟩;exact⟨g1,λe=>by have:=(hO u e).2;omega⟩
  ·rcases hs4 b hb with g|g
   ·exact I b g
   ·exact .inr (by omega)
  ·rcases hs4 b e with g|g
   ·exact(N b hb).2 g
   ·have:=af.lt hb;have:=f3.size;omega
 rcases ag with ⟨rfl,ac⟩|⟨rfl,u,hu,rfl,ar,Y⟩
 ·rw[afa,aaU];exact fin λid v hv=>by rw[ac id] at hv;cases hv
 ·rw[adp,aaT];by_cases ao:(u.a:Int)>(T:Int)
  ·rw[aeJ ao];exact fin λid v hv=>by have:=Y id v hv;omega
  ·rw[adn ao];have au:u.a<=T:=by omega
   simp only[J,aaT];refine cmS6 (aaS h3.wm h3.wi ar (by omega) Y hl20) ?_;rintro w4 ⟨f4,ss4,F4,h4,hi4,hs4⟩;have ah:WS w4 d m ss4 l1 u.a tn most F4:=⟨h4,hi4,⟨ak.1,by omega⟩,h3.tb,h3.ti,h3.t0⟩;refine cmS2 (aiq ah) ?_;rintro r5 w5 ⟨f5,D,av,Z,hb5,hn5,ss5,l5,F5,h5,ae,hlen5,hs5,hd5⟩;have ai:=R.fr f4 λb hb e=>(N b hb).2 e;have olt:∀b,fU.at out b->b<w3.heap.size:=λb hb=>R.lt hb;have out4:∀b,fU.at out b->¬qF d m ss4 b:=λb hb e=>by
    rcases hs4 b e with g|g
    ·exact(N b hb).2 g
    ·have:=olt b hb;omega
   have aj:=ai.fr f5 λb hb e=>out4 b hb e;have z3:=hf3.size;have z4:=f4.size;have z5:=f5.size;have hDl:D.length<=2^20:=by omega
   refine lJ jr aj (hb5.sl jr (by omega)) rfl (by omega) Iu (by rw[ahc,ahc];omega) (by rw[ahc,ahc];omega) λo6 w6 b6 f6 n6=> ?_;have f24:gV w2 w4 (qF d m ss):=hf3.trans f4 λb hb1 hb2=>by
    rcases I b hb2 with g|g
    ·exact g
    ·omega
   have f25:gV w2 w5 (qF d m ss):=f24.trans f5 λb hb1 hb2=>by
    rcases hs4 b hb2 with g|g
    ·rcases I b g with g|g
     ·exact g
     ·omega
    ·omega
   have f26:gV w2 w6 (qF d m ss):=f25.trans f6 λb hb1 hb2=>by have:=(N b hb2).1;omega
   have out5:∀b,fU.at out b->¬qF d m ss5 b:=λb hb e=>by
    rcases hs5 b e with g|g
    ·exact out4 b hb g
    ·have:=olt b hb;omega
   have h6:=h5.fr f6 λb hb e=>out5 b e hb;rw[<- alz] at b6;have hD0:0<D.length:=List.length_pos_of_mem ((Z u).2 ⟨by
    have:=(h3.wi.pl _ _ hu).1;rw[this];exact hu,rfl⟩)
   have b6l:=b6.len;have bol:=af.len;rw[ahc] at b6l bol;rw[ahY] at b6l;refine ab _ _ ⟨O++D,ss5,l5,u.a,F5,h6,au,by omega,b6,λb hb=> ?_,?_,λid v=> ?_,λv hv=> ?_,λv hv id x hx=> ?_,by rw[ahY];omega,f26,λb hb=> ?_⟩ (by simp only[Nat.mul_zero,ahO];omega)
   ·rcases n6 b hb with g|g
    ·exact⟨(N b g).1,out5 b g⟩
    ·refine⟨by omega,λe=> ?_⟩;have:=h5.wm.lt e;omega
   ·rw[List.pairwise_append];refine⟨am,av.imp_of_mem λ{x y} hx hy aw=> .inr ⟨?_,aw⟩,λx hx y hy=> .inl ?_⟩
    ·rw[((Z x).1 hx).2,((Z y).1 hy).2]
    ·exact an x hx _ y ((Z y).1 hy).1
   ·rw[ae,aa,akX,not_or,and_assoc]
   ·rcases akX.1 hv with g|g
    ·exact hO v g
    ·obtain⟨g1,g2⟩:=(Z v).1 g;exact⟨((aa _ _).1 g1).1,by omega⟩
   ·obtain⟨q1,q2⟩:=(ae id x).1 hx;rcases akX.1 hv with g|g
    ·exact an v g id x q1
    ·obtain⟨g1,g2⟩:=(Z v).1 g;have:=Y id x q1;have:x.a≠u.a:=λe=>q2 ((Z x).2 ⟨by rw[(h3.wi.pl _ _ q1).1];exact q1,e⟩);omega
   ·rcases hs5 b hb with g|g
    ·rcases hs4 b g with g|g
     ·exact I b g
     ·exact .inr (by omega)
    ·exact .inr (by omega)
end
end Go.Proofs.WN
end
section
namespace Go.Proofs.WN
open Gp Gp.Wh
theorem JD {α β:Type} {enc:α->Value} {ev:β->Value} {w:θ} {K:Addr->b_} (h:∀w1,qX enc ev w1 w.heap.size []->w1.heap.size=w.heap.size+1->Ext w w1->K ⟨w.heap.size,0,none⟩ w1):Al w (.map #[] 0) K:=
 h _ (qX.new w enc ev) (by simp) (λS=>gV.alloc w _ S)
theorem ais (n:Int) (hn:0<=n/\n<=1048576) (w:θ):Iq n w λp e w'=>Ext w w'/\e=0/\∃d m ss,p=some ⟨d,0,none⟩/\WS w' d m ss [] 0 0 n (λ_ _=>[])/\∀b,qF d m ss b->w.heap.size<=b:=by
 apply Zx;have c1:¬n<0:=by omega
 have c2:¬n>1048576:=by omega
 simp only[c1,c2,acQ,aaT];refine JD (enc:=ϑ) (ev:=evT) λw4 m4 z4 f4=> ?_;refine gy λd w5 r5 e5 z5 f5=> ?_;have h:∀(i:Nat) (s:fU),(List.replicate 448 (⟨none,0,0⟩:fU))[i]? =some s->s=⟨none,0,0⟩:=λi s hi=>by
  rw[alY] at hi;split at hi
  ·cases hi;rfl
  ·cases hi
 have noat:∀b,¬atS (List.replicate 448 (⟨none,0,0⟩:fU)) b:=λb ⟨i,s,hi,o,hs⟩=>by rw[h i s hi] at hs;cases hs
 refine⟨f4.trans f5,by trivial,d,w.heap.size,List.replicate 448 ⟨none,0,0⟩,rfl,⟨⟨?_,by simp,m4.ext f5,by simp,λn k hn hk=> ?_,λi j s s' b hij hi hj hb=> ?_,λb hb=>absurd hb (noat b),by omega,λ_ _ _ _=>by simp⟩,⟨λid t ht=> ?_,by omega,λn k t hn hk=> ?_,λn k hn hk=>by simp⟩,⟨by omega,by simpa using hn.1⟩,λid t ht=> ?_,λi i' t u ht=> ?_,by omega⟩,λb hb=> ?_⟩
 ·rw[List.map_replicate];exact r5
 ·refine⟨⟨none,0,0⟩,?_,iQ.nil⟩;rw[alY,aeH (by omega)]
 ·rw[h i s hi] at hb;obtain⟨o,ho⟩:=hb;cases ho
 ·cases ht
 ·constructor
  ·intro hx;simp at hx
  ·rintro⟨hx,_⟩;cases hx
 ·cases ht
 ·cases ht
 ·rcases hb with rfl|rfl|hb
  ·omega
  ·omega
  ·exact absurd hb (noat b)
end Go.Proofs.WN
end
section
namespace Gp.Pool
end Gp.Pool
namespace Go.Proofs.CN
end Go.Proofs.CN
namespace Go.Proofs.CN
end Go.Proofs.CN
namespace Go.Proofs.CN
end Go.Proofs.CN
namespace Go.Proofs.CN
open Gp
theorem afP (a b:Int):(a==b)=decide (a=b):=rfl
theorem eqP (a b:Int):EZ υ 16 3 (Β a) (Β b)=some (decide (a=b)):=by
 have h:EZ υ 16 3 (Β a) (Β b)=some (a==b):=by kernel_rfl
 rw[h];rfl
theorem ahw (a:Int):nX υ 3 (Β a)=true:=by
 unfold nX;rw[eqP];rfl
theorem zG (k:Int) (w:θ):lS k w λr w'=>r=decide (0<=k/\k<4294967296)/\w'=w:=by
 apply LM;by_cases h:0<=k
 ·simp[h]
 ·simp[h]
end Go.Proofs.CN
namespace Go.Proofs.CN
open Gp
theorem CW {w w':θ} {S:Nat->Prop} (h:gV w w' S) (l:Nat):gV (gu w l) (gu w' l) S:=by
 refine⟨by simpa [gu] using h.size,λb hb hn=> ?_,h.io⟩;have:=h.same b (by simpa [gu] using hb) hn;simp only[gu,ak7,this]
end Go.Proofs.CN
namespace Go.Proofs.CN
open Gp
theorem Υ {x y a:Int} (hy:0<=y) (hy2:y<=32) (w:θ):xH x y a w λr w'=>r=(decide (0<=a/\a<4294967296) && (jE .i64 a (32 - y)==jE .i64 x (32 - y)))/\Ext w w':=by
 apply Ox;refine gy λt w1 r1 e1 z1 f1=> ?_;simp only[sx,r1.cell];refine cmS0 (zG a _) ?_;rintro _ w' ⟨rfl,hw⟩;subst hw;have f2:=f1.trans (Ext.drew w1);by_cases h:0<=a/\a<4294967296
 ·rw[Α];simp only[h,ace,aaU,aaU,aeI,f_,gq,r1.drew.cell,ali,Bool.true_and]
  grind
 ·simp only[h,acQ,aaT,Bool.false_and];trivial
def acN (a:Int):Prop:=0<=a/\a<4294967296/\(jE .i64 a 24==jE .i64 0 24)=false/\(jE .i64 a 24==jE .i64 2130706432 24)=false/\(jE .i64 a 29==jE .i64 3758096384 29)=false
theorem ahn {a:Int} (h:acN a) (w:θ):r_ a w λr w'=>r=true/\Ext w w':=by
 obtain⟨h1,h2,h3,h4,h5⟩:=h;apply Ov;refine cmS0 (zG a _) ?_;rintro _ w' ⟨rfl,hw⟩;subst hw;have hr:(0<=a/\a<4294967296):=⟨h1,h2⟩;simp only[hr,ali,ace,adp,aaT];refine gy λt w1 r1 e1 z1 f1=> ?_;refine cmS0 (K:=λr w2=>r=false/\Ext w1 w2) ?_ ?_
 ·apply QH;refine gI (λst W=>∃j:Nat,j<=3/\st.1=(j:Int)/\Ext w1 W) (λst _=>(3 - st.1).toNat) ⟨0,by omega,rfl,Ext.refl _⟩ ?_;rintro⟨i,⟨⟩⟩ W ⟨j,hj,hi,hx⟩ next u
  simp only at hi;subst hi;have r:=r1.ext hx;by_cases I:j<3
  ·have hl:((j:Int)<((3:Nat):Int)):=by omega
   have J:∃x y:Int,0<=y/\y<=32/\(jE .i64 a (32 - y)==jE .i64 x (32 - y))=false/\W.cell? ⟨t,j * 2,none⟩=some (Β x)/\W.cell? ⟨t,j * 2+1,none⟩=some (Β y):=by
    match j,I with
    |0,_=>exact⟨0,8,by omega,by omega,h3,r.cell 0,r.cell 1⟩
    |1,_=>exact⟨2130706432,8,by omega,by omega,h4,r.cell 2,r.cell 3⟩
    |2,_=>exact⟨3758096384,3,by omega,by omega,h5,r.cell 4,r.cell 5⟩
   obtain⟨x,y,hy,hy2,hs,c0,c1⟩:=J;simp only[sx,hl,ace,ab3,c0,c1];refine⟨by omega,by trivial,?_⟩;refine DJ rfl rfl λb w3 r3 e3 z3 x3=> ?_;simp only[sx,r3.cell];refine cmS0 (Υ hy hy2 _) ?_;rintro _ w4 ⟨rfl,x4⟩;simp only[hs,Bool.and_false,aaT];rw[Α];exact u _ _ ⟨j+1,by omega,by simp,(hx.trans x3).trans x4⟩ (by omega)
  ·have hl:¬((j:Int)<((3:Nat):Int)):=by omega
   simp only[hl,acQ,aaT];trivial
 ·rintro _ w2 ⟨rfl,f2⟩;exact⟨rfl,f1.trans f2⟩
end Go.Proofs.CN
namespace Go.Proofs.CN
open Gp
theorem aiI {w:θ} {K:Addr->b_} (h:∀w1,(∀(α:Type) (enc:α->Value),zZ enc w1 w.heap.size [])->w1.heap.size=w.heap.size+1->Ext w w1->K ⟨w.heap.size,0,none⟩ w1):Al w (.map #[] 0) K:=
 h _ (λ_ enc=>zZ.new w enc) (by simp) (λS=>gV.alloc w _ S)
end Go.Proofs.CN
end
