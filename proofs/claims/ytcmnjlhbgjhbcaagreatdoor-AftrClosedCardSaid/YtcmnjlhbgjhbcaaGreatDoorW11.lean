import Derived.Test.YtcmnjlhbgjhbcaaGreatDoorW10
import Derived.Test.YtcmnjlhbgjhbcaaGreatDoorW9
import Derived.Test.YtcmnjlhbgjhbcaaGreatDoorW7
import Derived.Test.YtcmnjlhbgjhbcaaGreatDoorW8
open List (getElem?_eq_getElem getElem?_toArray length_append length_map)
open Nat (zero_le)
open Array (length_toList)
set_option maxRecDepth 100000
set_option maxHeartbeats 4000000
section
open List (getElem?_cons_succ getElem?_cons_zero)
open Nat (le_succ)
namespace Go.Proofs.JN
open Gp Gp.Hol Gp.Jn
theorem aiU {α:Type} {R:α->α->Prop}:∀{l:List α},l.Pairwise R->∀{a b:α},a∈l->b∈l->a≠b->R a b\/R b a
 |[],_,_,_,ha,_,_=>by simp at ha
 |y::l,h,a,b,ha,hb,j=>by
  obtain⟨h1,h2⟩:=List.pairwise_cons.1 h;rcases List.mem_cons.1 ha with ha'|ha'
  ·rcases List.mem_cons.1 hb with hb'|hb'
   ·exact absurd (ha'.trans hb'.symm) j
   ·rw[ha'];exact .inl (h1 b hb')
  ·rcases List.mem_cons.1 hb with hb'|hb'
   ·rw[hb'];exact .inr (h1 a ha')
   ·exact aiU h2 ha' hb' j
theorem aip {α β:Type} {enc:α->Value} {ev:β->Value} {w:World} {s:eY} {l:List UInt8} {m:Nat} {es:List (α×β)} (h:iF w s l) (hm:nU enc ev w m es) {a:Addr} (ha:s.a=some a) (h0:0<l.length):a.block≠m:=by
 intro e;obtain⟨es',c,g,_⟩:=hm;obtain⟨a',h1,h2⟩:=h.at_ (getElem?_eq_getElem h0);rw[ha] at h1;cases h1;unfold World.cell? at h2;rw[block_add,e,g] at h2
 cases h2
section
variable {w:World} {t m:Nat} {many bytes wait:Int} {rs:List (Key×JE)}
structure anV (w w':World) (t m:Nat) (many bytes wait:Int) (rs:List (Key×JE)) (N:Nat) (o:Out) (k:Key) (off:Int) (more:Bool) (b:List UInt8) (now:Int) (hd:ByteArray) (all:eY) (done:Bool) (e:Int):Prop where
 tab:∃rs',Td w' t m many bytes wait rs'/\pK rs'=o.l/\(∀x∈rs',x.2.1.l.length<=N+1)/\∀x∈rs',∀z,Oe x.2.1 z->(∃y∈rs,Oe y.2.1 z)\/w.heap.size<=z
 out:hd=o.head/\done=o.done/\e=o.e
 whole:done=true->∃x l,Et many (pK rs) k now=some x/\l.Perm (Hol.add x.L (off,more,b)).2/\l.Pairwise le/\iF w' all (cat l)
 none:done=false->all=⟨Option.none,0,0⟩
 fr:fV w w' λz=>z=m\/∃y∈rs,Oe y.2.1 z
theorem ahE (h:Td w t m many bytes wait rs) (hb0:0<=bytes) (hb1:bytes<=2^30) (hsum:wW (pK rs)<=bytes) {N:Nat} (hN:N<2^19) (hlen:∀x∈rs,x.2.1.l.length<=N) {s:eY} {b:List UInt8} (hs:iF w s b) (hbl:b.length<=2^30) (k:Key) (off:Int) (more:Bool) (head:ByteArray) (now:Int):
  kY (some ⟨t,0,none⟩) k off more s head now w λhd all done e w'=>anV w w' t m many bytes wait rs N (YP many bytes (pK rs) k off more b head now) k off more b now hd all done e:=by
 have htl:=h.row.lt;have hml:=h.map.lt;have hs0:0<=wW (pK rs):=by
  rw[YU rs λe he=>(h.bufs e he).perm];exact OB rs
 apply LM;refine rP (M_ h) ?_;rintro r w0 ⟨rfl,hw⟩;subst hw;rw[Bool.not_true,cond_false];refine Jh (afv h k now) ?_;rintro p e w1 ⟨f1,ho⟩;have same:∀w',Ext w0 w'->∃rs',Td w' t m many bytes wait rs'/\pK rs'=pK rs/\(∀x∈rs',x.2.1.l.length<=N+1)/\∀x∈rs',∀z,Oe x.2.1 z->(∃y∈rs,Oe y.2.1 z)\/w0.heap.size<=z:=
  λw' hx=>⟨rs,h.ext hx,rfl,λx hx=>Nat.le_trans (hlen x hx) (le_succ _),λx hx z hz=> .inl ⟨x,hx,hz⟩⟩
 unfold YP
 cases j:Et many (pK rs) k now with
 |none=>
  rw[j] at ho;obtain⟨rfl,rfl⟩:=ho;rw[show ((7:Int) !=0)=true from rfl,cond_true];exact⟨same w1 f1,⟨rfl,rfl,rfl⟩,λh=>by simp at h,λ_=>rfl,f1 _⟩
 |some x=>
 rw[j] at ho;obtain⟨rfl,r,rfl,hB,I⟩:=ho;rw[show ((0:Int) !=0)=false from rfl,cond_false];have s1:=f1.size;have fpt:∀z,Oe r z->z≠t/\z≠m:=λz hz=>by
  rcases I with I|⟨_,u⟩
  ·exact h.apart _ (Ju I) z hz
  ·have:=u z hz;omega
 have fpo:∀y∈rs,y.1≠k->∀z,Oe r z->¬Oe y.2.1 z:=λy hy hk z hz hz'=>by
  rcases I with I|⟨_,u⟩
  ·rcases aiU h.dis (Ju I) hy (λe=>hk (by rw[<- e])) with g|g
   ·exact g z hz hz'
   ·exact g z hz' hz
  ·have:=u z hz;have:=(h.bufs y hy).lt hz';omega
 have aj:r.l.length<=N:=by
  rcases I with I|⟨Z,u⟩
  ·exact hlen _ (Ju I)
  ·unfold Et at j;rw[aaM,Z] at j;simp only[Option.map_none] at j;split at j
   ·cases j
   ·cases j
    have:=hB.perm.length_eq;simp only[fresh,List.length_nil] at this;omega
 have af:=hB.ext (Ext.drew w1);have J1:=h.ext (f1.trans (Ext.drew w1));have hs1:=hs.ext (f1.trans (Ext.drew w1));have zd:w1.drew.heap.size=w1.heap.size:=rfl;simp -zeta only[sx,getElem?_cons_zero,getElem?_cons_succ,af.row.cell,J1.row.cell];refine Hw (aif af.H (by show r.l.length<=2^30;omega) hs1) ?_;rintro r17 w2 ⟨rfl,f2⟩;have J2:=J1.ext f2;simp -zeta only[true_and,getElem?_cons_zero,getElem?_cons_succ,J2.row.cell];refine BH (ab1 J2 (by omega)) ?_;rintro r19 w3 ⟨rfl,f3⟩;have J3:=J2.ext f3;have aa:=(f1.trans (Ext.drew w1)).trans (f2.trans f3);have s03:=aa.size;have hB3:=(af.ext f2).ext f3;simp -zeta only[true_and,getElem?_cons_zero,getElem?_cons_succ,J3.row.cell];rw[adU hB.perm,wrap_i64 (by omega) (by omega)];unfold ahG;by_cases J:bytes - wW (pK rs)<room x.L off b
 ·rw[decide_eq_true (show room x.L off b>bytes - wW (pK rs) from J),cond_true,if_pos J];exact⟨same w3 aa,⟨rfl,rfl,rfl⟩,λh=>by simp at h,λ_=>rfl,aa _⟩
 rw[decide_eq_false (show ¬room x.L off b>bytes - wW (pK rs) from J),cond_false,if_neg J];simp -zeta only[getElem?_cons_zero,fC,D9,hB3.row.cell];refine Jf (VE hB3.H hB3.G hB3.srt (by show r.l.length<=2^20;omega) (hs.ext aa) (by omega)) ?_;rintro r23 w4 ⟨hr23,s',xs',l',H',hp',hs',hf4,hn4,hx4⟩;have s4:=hf4.size;obtain⟨ap1,ap2⟩:=aek hB3.G hB3.perm (off,more,b);rw[ap1] at hr23;have hp'':l'.Perm (Hol.add x.L (off,more,b)).2:=hp'.trans ap2;have ak:=agT r.l (off,more,b);have hl'len:l'.length<=N+1:=by rw[hp'.length_eq];exact Nat.le_trans ak (Nat.succ_le_succ aj)
 have G':Gp.Hol.Good l':=(Good.add' hB3.G (off,more,b)).perm hp'.symm;have fsub:∀z,(z=r.h\/eY.at r.s z)->Oe r z:=λz hz=>by
  rcases hz with hz|hz
  ·exact .inr (.inl hz)
  ·exact .inr (.inr (.inl hz))
 have fp':∀z,Oe ⟨r.b,r.h,s',xs',l'⟩ z->Oe r z\/w0.heap.size<=z:=λz hz=>by
  rcases hz with hz|hz|hz|⟨y,hy,a,ha,h0,hz⟩
  ·exact .inl (.inl hz)
  ·exact .inl (.inr (.inl hz))
  ·rcases hn4 z hz with g|g
   ·exact .inl (.inr (.inr (.inl g)))
   ·exact .inr (by omega)
  ·rcases hx4 y hy with g|g
   ·exact .inl (.inr (.inr (.inr ⟨y,g,a,ha,h0,hz⟩)))
   ·exact .inr (by have:=g a ha;omega)
 have U:r.b≠r.h/\(¬eY.at s' r.b)/\P6 xs' (·=r.b):=by
  refine⟨hB3.ne.1,λhz=> ?_,λy hy a ha h0 e=> ?_⟩
  ·rcases hn4 _ hz with g|g
   ·exact hB3.ne.2.1 g
   ·have:=hB3.row.lt;simp only at this;omega
  ·rcases hx4 y hy with g|g
   ·exact hB3.ne.2.2 y g a ha h0 e
   ·have:=g a ha;have:=hB3.row.lt;simp only at this;omega
 have ho4:∀y∈rs,y.1≠k->UD w4 y.2:=λy hy hk=>(J3.bufs y hy).fr hf4 λz hz e=>fpo y hy hk z (fsub z e) hz;have rt4:=J3.row.fr hf4 λe=>(fpt t (fsub t e)).1 rfl;have hm4:=J3.map.fr hf4 λe=>(fpt m (fsub m e)).2 rfl;have rb4:Row w4 r.b [.pointer (some ⟨r.h,0,none⟩),.int .i64 x.since,.string x.head,.bool x.begun]:=hB3.row.fr hf4 λe=>by
  rcases e with e|e
  ·exact hB3.ne.1 e
  ·exact hB3.ne.2.1 e
 have F4:fV w0 w4 λz=>z=m\/∃y∈rs,Oe y.2.1 z:=(aa _).trans hf4 λy hy e=>by
  rcases I with I|⟨_,u⟩
  ·exact .inr ⟨_,Ju I,fsub y e⟩
  ·have:=u y (fsub y e);omega
 by_cases he:(Hol.add x.L (off,more,b)).1≠0
 ·rw[hr23,show ((Hol.add x.L (off,more,b)).1 !=0)=true by simpa using he,cond_true,if_pos he];simp -zeta only[getElem?_cons_zero,fC,KQ,rt4.cell];refine XW hm4 eqS k (keyS k) λw5 hm5 f5 z5=> ?_;have ho5:∀y∈rs,y.1≠k->UD w5 y.2:=λy hy hk=>(ho4 y hy hk).fr f5 λz hz e=>(h.apart y hy z hz).2 e;refine⟨⟨wQ rs k,h.del (rt4.fr f5 h.tm) hm5 ho5,YV,λy hy=>Nat.le_trans (hlen y (GV h.nodup hy).1) (le_succ _),λy hy z hz=> .inl ⟨y,(GV h.nodup hy).1,hz⟩⟩,⟨rfl,rfl,rfl⟩,λh=>by simp at h,λ_=>rfl,F4.trans f5 λy hy e=> .inl e⟩
 have he:(Hol.add x.L (off,more,b)).1=0:=Classical.byContradiction he;rw[hr23,he,show ((0:Int) !=0)=false from rfl,cond_false,if_neg (by simp)];have hw:abr (Hol.add x.L (off,more,b)).2=decide (0<=iU l'/\gaps 0 l' (iU l')=[]):=by
  unfold abr;rw[<- Js G'.one hp'',<- Mc hp''];by_cases h0:0<=iU l'
  ·have:=aeT G' hs' h0;by_cases hg:gaps 0 l' (iU l')=[]
   ·rw[decide_eq_true ⟨h0,this.1 hg⟩,decide_eq_true ⟨h0,hg⟩]
   ·rw[decide_eq_false (λh=>hg (this.2 h.2)),decide_eq_false (λh=>hg h.2)]
  ·rw[decide_eq_false (λh=>h0 h.1),decide_eq_false (λh=>h0 h.1)]
 intro ag;have hJ28:∀W,fV w4 W (·=r.b)->Row W r.b [.pointer (some ⟨r.h,0,none⟩),.int .i64 x.since,.string (begin_ {x with L:=(Hol.add x.L (off,more,b)).2} off head).head,.bool (begin_ {x with L:=(Hol.add x.L (off,more,b)).2} off head).begun]->ag W:=by
  intro W fW rW;simp -zeta only[ag];have sW:=fW.size;have Y:Oe r r.b:= .inl rfl;have rtW:=rt4.fr fW λe=>(fpt _ Y).1 e.symm;have al:=hm4.fr fW λe=>(fpt _ Y).2 e.symm;have HW:HAt W r.h s' xs' l' (iU l'):=H'.fr fW (λe=>hB3.ne.1 e.symm) (λz hz e=>U.2.1 (e ▸ hz)) (λy hy a ha h0 e=>U.2.2 y hy a ha h0 e);have ah:∀y∈rs,y.1≠k->UD W y.2:=λy hy hk=>(ho4 y hy hk).fr fW λz hz e=>fpo y hy hk z (by rw[e];exact Y) hz;have FW:fV w0 W λz=>z=m\/∃y∈rs,Oe y.2.1 z:=F4.trans fW λy hy e=>by
   rcases I with I|⟨_,u⟩
   ·exact .inr ⟨_,Ju I,by rw[e];exact Y⟩
   ·have:=u _ Y;omega
  generalize hx1:begin_ {x with L:=(Hol.add x.L (off,more,b)).2} off head=x1 at rW ⊢;have hx1L:x1.L=(Hol.add x.L (off,more,b)).2:=by rw[<- hx1,abH]
  have hx1s:x1.since=x.since:=by rw[<- hx1,X9]
  simp -zeta only[getElem?_cons_zero,fC,D9,rW.cell];refine Ht (ahd HW G' (by omega)) ?_;rintro all ok w5 ⟨ab,f5⟩;have s5:=f5.size;have rt5:=rtW.ext f5;have hm5:=al.ext f5;rcases ab with ⟨rfl,d1,d2,d3⟩|⟨rfl,d1,_⟩
  ·rw[if_pos (by rw[hw,decide_eq_true ⟨d1,d2⟩])];rw[Bool.not_true,cond_false];simp -zeta only[getElem?_cons_zero,fC,KQ,rt5.cell];refine XW hm5 eqS k (keyS k) λw6 hm6 f6 z6=> ?_;have am:r.b≠m:=(fpt _ Y).2;have rb6:=(rW.ext f5).fr f6 am;simp -zeta only[getElem?_cons_zero,getElem?_cons_succ,fC,abN,rb6.cell];have ho6:∀y∈rs,y.1≠k->UD w6 y.2:=λy hy hk=>((ah y hy hk).ext f5).fr f6 λz hz e=>(h.apart y hy z hz).2 e;refine⟨⟨wQ rs k,h.del (rt5.fr f6 h.tm) hm6 ho6,YV,λy hy=>Nat.le_trans (hlen y (GV h.nodup hy).1) (le_succ _),λy hy z hz=> .inl ⟨y,(GV h.nodup hy).1,hz⟩⟩,⟨rfl,rfl,rfl⟩,λ_=>⟨x,l',j,hp'',hs',?_⟩,λh=>by simp at h,(FW.ext f5).trans f6 λy hy e=> .inl e⟩;exact d3.fr f6 λa ha h0 e=>aip d3 hm5 ha h0 e
  ·rw[if_neg (by rw[hw,decide_eq_false (λh=>d1.elim (λd1=>absurd h.1 (Int.not_le.2 d1)) λd1=>d1 h.2)];simp)];rw[Bool.not_false,cond_true];simp -zeta only[getElem?_cons_zero,fC,KQ,rt5.cell];have hb5:UD w5 (⟨r.b,r.h,s',xs',l'⟩,x1):=⟨by rw[hx1s];exact rW.ext f5,HW.ext f5,G',hs',by rw[hx1L];exact hp'',U⟩;have fpx:∀z,Oe ⟨r.b,r.h,s',xs',l'⟩ z->z≠t/\z≠m:=λz hz=>by
    rcases fp' z hz with g|g
    ·exact fpt z g
    ·omega
   refine XZ (b:=((⟨r.b,r.h,s',xs',l'⟩,x1):JE)) hm5 eqS k (keyS k) λw6 hm6 f6 z6=> ?_;have hb6:=hb5.fr f6 λz hz e=>(fpx z hz).2 e;have ho6:∀y∈rs,y.1≠k->UD w6 y.2:=λy hy hk=>((ah y hy hk).ext f5).fr f6 λz hz e=>(h.apart y hy z hz).2 e;refine⟨⟨G8 rs k (⟨r.b,r.h,s',xs',l'⟩,x1),h.up (rt5.fr f6 h.tm) hm6 hb6 ho6 (λy hy hk z hz hz'=> ?_) fpx,ahI,λy hy=> ?_,λy hy z hz=> ?_⟩,⟨rfl,rfl,rfl⟩,λh=>by simp at h,λ_=>rfl,(FW.ext f5).trans f6 λy hy e=> .inl e⟩
   ·rcases fp' z hz with g|g
    ·exact fpo y hy hk z g hz'
    ·have:=(h.bufs y hy).lt hz';omega
   ·rcases Rh h.nodup hy with rfl|⟨g,_⟩
    ·exact hl'len
    ·exact Nat.le_trans (hlen y g) (le_succ _)
   ·rcases Rh h.nodup hy with rfl|⟨g,_⟩
    ·rcases fp' z hz with g|g
     ·rcases I with I|⟨_,u⟩
      ·exact .inl ⟨_,Ju I,g⟩
      ·exact .inr (u z g)
     ·exact .inr g
    ·exact .inl ⟨y,g,hz⟩
 clear_value ag;intro ac;have an:x.begun=false->off=0->ac true:=by
  intro ae ho0;simp -zeta only[ac,cond_true];refine gB rb4 rfl (by simp) λw5 r5 f5 z5=> ?_;simp only[List.set_cons_zero,List.set_cons_succ] at r5;refine gB r5 rfl (by simp) λw6 r6 f6 z6=> ?_;simp only[List.set_cons_zero,List.set_cons_succ] at r6;refine hJ28 w6 ((f5 (·=r.b) rfl).trans (f6 (·=r.b) rfl) λ_ _ e=>e) ?_;have eb:begin_ {x with L:=(Hol.add x.L (off,more,b)).2} off head=⟨x.since,head,true,(Hol.add x.L (off,more,b)).2⟩:=by
   unfold begin_;rw[if_pos ⟨ho0,ae⟩]
  rw[eb];exact r6
 have ai:¬(off=0/\x.begun=false)->ac false:=by
  intro ao;simp -zeta only[ac,cond_false];refine hJ28 w4 (fV.refl _ _) ?_;have eb:begin_ {x with L:=(Hol.add x.L (off,more,b)).2} off head={x with L:=(Hol.add x.L (off,more,b)).2}:=by
   unfold begin_;rw[if_neg ao]
  rw[eb];exact rb4
 clear_value ac;by_cases ho0:off=0
 ·rw[show (off==0)=true by simpa using ho0,cond_true];simp -zeta only[getElem?_cons_zero,getElem?_cons_succ,fC,gW,rb4.cell]
  cases ae:x.begun with
  |true=>exact ai (by rw[ae];simp)
  |false=>exact an ae ho0
 ·rw[show (off==0)=false by simpa using ho0,cond_false];exact ai λh=>ho0 h.1
end
end Go.Proofs.JN
end
section
namespace Go.Proofs.JN
open Gp Gp.Hol Gp.Jn
theorem NP (n lo hi:Int) {w:World} {K:Value->b_} (hK:K (.bool (decide (lo<=n/\n<=hi))) w):
  iY Tryz.prog [.one .bool] (Value.func (.func 52) #[] #[]) [.int .i64 n,.int .i64 lo,.int .i64 hi] w K:=by
 refine NU (by kernel_rfl) ?_;refine Calls.mono (Um (a0:=n) (a1:=lo) (a2:=hi) (w:=w) (K:=λr W'=>r=decide (lo<=n/\n<=hi)/\W'=w) ?_) ?_
 ·by_cases h1:lo<=n
  ·rw[decide_eq_true (show n>=lo from h1)];simp only[cond_true];by_cases h2:n<=hi
   ·rw[decide_eq_true h2,decide_eq_true ⟨h1,h2⟩];exact⟨by trivial,by trivial⟩
   ·rw[decide_eq_false h2,decide_eq_false λh=>h2 h.2];exact⟨by trivial,by trivial⟩
  ·rw[decide_eq_false (show ¬n>=lo from h1)];simp only[cond_false];rw[decide_eq_false λh=>h1 h.1];exact⟨by trivial,by trivial⟩
 ·rintro e W' ⟨r,he,rfl,hw⟩;subst hw;exact⟨_,he,hK⟩
def AL (a b c:Int):Prop:=(0<=a/\a<=1073741824)/\(0<=b/\b<=1073741824)/\1<=c/\c<=1099511627776
theorem ahF (a b c:Int) (w:World):ug a b c w λt e w'=>(¬AL a b c/\t=none/\e=1/\w'=w)\/
  (AL a b c/\e=0/\∃t' m,t=some ⟨t',0,none⟩/\Td w' t' m a b c []/\w.heap.size<=t'/\w.heap.size<=m/\Ext w w'):=by
 apply Zd;intro J4;have hT:¬AL a b c->J4 true w:=λh=>by
  simp only[J4,cond_true];exact .inl ⟨h,by trivial,by trivial,by trivial⟩
 have hF:AL a b c->J4 false w:=λh=>by
  simp only[J4,cond_false];unfold Al;have x1:Ext w (w.alloc (.map #[] 0)):=λS=>fV.alloc _ _ S;have m1:nU KX ac6 (w.alloc (.map #[] 0)) w.heap.size []:=nU.new w _ _;have x2:Ext (w.alloc (.map #[] 0)) ((w.alloc (.map #[] 0)).alloc (.cells ⟨[.map (some w.heap.size),.int .i64 a,.int .i64 b,.int .i64 c]⟩ 128)):=λS=>fV.alloc _ _ S;have r2:Row ((w.alloc (.map #[] 0)).alloc (.cells ⟨[.map (some w.heap.size),.int .i64 a,.int .i64 b,.int .i64 c]⟩ 128)) (w.alloc (.map #[] 0)).heap.size [.map (some w.heap.size),.int .i64 a,.int .i64 b,.int .i64 c]:=Row.new _ _ 128;have z1:(w.alloc (.map #[] 0)).heap.size=w.heap.size+1:=Array.size_push ..;refine .inr ⟨h,by trivial,(w.alloc (.map #[] 0)).heap.size,w.heap.size,rfl,⟨r2,m1.ext x2,λe he=>by simp at he,List.Pairwise.nil,λe he=>by simp at he,by omega,List.nodup_nil⟩,by omega,Nat.le_refl _,x1.trans x2⟩
 clear_value J4;refine NP a 0 1073741824 ⟨_,rfl,?_⟩;by_cases h1:0<=a/\a<=1073741824
 ·rw[decide_eq_true h1,Bool.not_true,cond_false];refine NP b 0 1073741824 ⟨_,rfl,?_⟩;by_cases h2:0<=b/\b<=1073741824
  ·rw[decide_eq_true h2,Bool.not_true,cond_false];refine NP c 1 1099511627776 ⟨_,rfl,?_⟩;by_cases h3:1<=c/\c<=1099511627776
   ·rw[decide_eq_true h3,Bool.not_true];exact hF ⟨h1,h2,h3⟩
   ·rw[decide_eq_false h3,Bool.not_false];exact hT λh=>h3 h.2.2
  ·rw[decide_eq_false h2,Bool.not_false,cond_true];exact hT λh=>h2 h.2.1
 ·rw[decide_eq_false h1,Bool.not_false,cond_true];exact hT λh=>h1 h.1
end Go.Proofs.JN
end
section
namespace Go.Proofs.AN
open Gp Gp.Hol Gp.Jn Go.Proofs Go.Proofs.JN
structure Jo (w:World) (O:Nat->Prop) (t m:Nat) (many bytes wait:Int) (N:Nat):Prop where
 ex:∃rs,Td w t m many bytes wait rs/\wW (pK rs)<=bytes/\(rs.length:Int)<=many/\(∀x∈rs,x.2.1.l.length<=N)/\(∀x∈rs,∀z,Oe x.2.1 z->O z)/\∀x∈pK rs,x.2.head.size<=2^39
 t:O t
 m:O m
 b:0<=bytes/\bytes<=2^30
section
variable {w w':World} {O O':Nat->Prop} {t m N:Nat} {many bytes wait:Int}
theorem Jo.fr {S:Nat->Prop} (h:Jo w O t m many bytes wait N) (hf:fV w w' S) (hs:∀z,O z->¬S z):Jo w' O t m many bytes wait N:=by
 obtain⟨⟨rs,h1,h2,h3,h4,h5,h6⟩,ht,hm,hb⟩:=h;exact⟨⟨rs,h1.fr hf (hs _ ht) (hs _ hm) λe he z hz=>hs z (h5 e he z hz),h2,h3,h4,h5,h6⟩,ht,hm,hb⟩
theorem Jo.ext (h:Jo w O t m many bytes wait N) (hf:Ext w w'):Jo w' O t m many bytes wait N:=h.fr (hf λ_=>False) (λ_ _=>by simp)
theorem ahQ {l:JT} {k:Key} {v:Bf} {x:Key×Bf} (h:x∈G8 l k v):x=(k,v)\/x∈l:=by
 induction l with
 |nil=>exact .inl (List.mem_singleton.1 h)
 |cons y l ih=>
  rw[SK] at h;by_cases hk:k=y.1
  ·rw[if_pos hk] at h;exact(List.mem_cons.1 h).imp id (List.mem_cons_of_mem _)
  ·rw[if_neg hk] at h;rcases List.mem_cons.1 h with h|h
   ·exact .inr (by rw[h];exact List.mem_cons_self ..)
   ·exact(ih h).imp id (List.mem_cons_of_mem _)
theorem ahL {l:JT} {k:Key} {v:Bf} (h:yE l k=some v):(k,v)∈l:=by
 induction l with
 |nil=>simp[yE] at h
 |cons y l ih=>
  rw[Q8] at h;by_cases hk:k=y.1
  ·rw[if_pos hk] at h
   cases h
   rw[hk];exact List.mem_cons_self ..
  ·rw[if_neg hk] at h;exact List.mem_cons_of_mem _ (ih h)
theorem Qa {x:Bf} {off:Int} {head:ByteArray} {B:Nat} (h1:x.head.size<=B) (h2:head.size<=B):(begin_ x off head).head.size<=B:=by unfold begin_;split<;>assumption
theorem adq {l:JT} {head:ByteArray} {B:Nat} {many bytes:Int} (h:∀x∈l,x.2.head.size<=B) (hh:head.size<=B) (k:Key) (off:Int) (more:Bool) (b:List UInt8) (now:Int):
  (∀x∈(YP many bytes l k off more b head now).l,x.2.head.size<=B)/\(YP many bytes l k off more b head now).head.size<=B:=by
 unfold YP;split
 ·exact⟨h,zero_le _⟩
 rename_i x hx;have j:x.head.size<=B:=by
  unfold Et at hx;split at hx
  ·rename_i y hy
   cases hx
   exact h _ (ahL hy)
  ·split at hx
   ·cases hx
   ·cases hx;exact zero_le _
 have hd:∀x∈wQ l k,x.2.head.size<=B:=λx hx=>h x ((Pv l k).subset hx);unfold ahG;split
 ·exact⟨h,zero_le _⟩
 split
 ·exact⟨hd,zero_le _⟩
 split
 ·exact⟨hd,Qa j hh⟩
 ·refine⟨λy hy=> ?_,zero_le _⟩;rcases ahQ hy with rfl|g
  ·exact Qa j hh
  ·exact h y g
theorem Oi (l:JT):0<=wW l:=by
 induction l with
 |nil=>simp[wW]
 |cons x l ih=>rw[uI];have:=Hol.xu x.2.L;omega
theorem YR {a b c:Int} (hn:AL a b c) (w:World):ug a b c w λt e w'=>e=0/\Ext w w'/\∃t' m,t=some ⟨t',0,none⟩/\Jo w' (λz=>z=t'\/z=m) t' m a b c 0/\w.heap.size<=t'/\w.heap.size<=m/\t'<w'.heap.size/\m<w'.heap.size:=by
 refine Fe (ahF a b c w) ?_;rintro t e w' (⟨h,_⟩|⟨_,rfl,t',m,rfl,hJ,h1,h2,hf⟩)
 ·exact absurd hn h
 ·unfold AL at hn;exact⟨rfl,hf,t',m,rfl,⟨⟨[],hJ,by simp[pK,wW];omega,by simp;omega,by simp,by simp,by simp[pK]⟩,.inl rfl,.inr rfl,by omega,by omega⟩,h1,h2,hJ.row.lt,hJ.map.lt⟩
theorem aft (h:Jo w O t m many bytes wait N) (hN:N<2^19) {s:eY} {b:List UInt8} (hs:iF w s b) (u:b.length<=2^30) (k:Key) (off:Int) (more:Bool) (head:ByteArray) (hh:head.size<=2^39) (now:Int):
  kY (some ⟨t,0,none⟩) k off more s head now w λhd all done _ w'=>fV w w' O/\Jo w' (λz=>O z\/(w.heap.size<=z/\z<w'.heap.size)) t m many bytes wait (N+1)/\hd.size<=2^39/\(done=true->∃l:List UInt8,iF w' all l/\l.length<=2^32):=by
 obtain⟨⟨rs,h1,h2,h3,h4,h5,h6⟩,ht,hm,hb⟩:=h;refine BG (ahE h1 hb.1 hb.2 h2 hN h4 hs u k off more head now) ?_;rintro hd all done e w' ⟨⟨rs',r1,r2,r3,r4⟩,⟨ho,_⟩,hw,_,hf⟩;obtain⟨g1,g2⟩:=adq h6 hh (many:=many) (bytes:=bytes) k off more b now;have hl:((pK rs).length:Int)<=many:=by unfold pK;rw[length_map];exact h3
 obtain⟨q1,q2⟩:=YQ h2 hl k off more b head now;have hl':(rs'.length:Int)<=many:=by rw[<- r2] at q2;unfold pK at q2;rw[length_map] at q2;exact q2
 refine⟨hf.mono λz hz=> ?_,⟨⟨rs',r1,by rw[r2];exact q1,hl',r3,λx hx z hz=> ?_,by rw[r2];exact g1⟩,.inl ht,.inl hm,hb⟩,by rw[ho];exact g2,λI=> ?_⟩
 ·rcases hz with rfl|⟨y,hy,hz⟩
  ·exact hm
  ·exact h5 y hy z hz
 ·rcases r4 x hx z hz with ⟨y,hy,hz'⟩|hz'
  ·exact .inl (h5 y hy z hz')
  ·exact .inr ⟨hz',(r1.bufs x hx).lt hz⟩
 ·obtain⟨x,l,hx,hp,_,j⟩:=hw I;refine⟨cat l,j,?_⟩;have e1:=VY l;have e2:=Hol.Mc hp;have e3:=(sum_add x.L off more b).1;have e4:=(U8 hx).1;have e5:=YT (pK rs) k;have e6:=Oi (wQ (pK rs) k);have e7:room x.L off b<=b.length:=by unfold room;split<;>omega
  omega
theorem QX (h:Jo w O t m many bytes wait N):jD (some ⟨t,0,none⟩) w λn w'=>0<=n/\n<=2^30/\Ext w w':=by
 obtain⟨⟨rs,h1,h2,h3,h4,h5,h6⟩,ht,hm,hb⟩:=h;refine rO (adr h1 (by omega)) ?_;rintro n w' ⟨rfl,hf⟩;exact⟨Oi _,by omega,hf⟩
theorem U7 (h:Jo w O t m many bytes wait N) (hm':many<=2^30):jO (some ⟨t,0,none⟩) w λn w'=>0<=n/\n<=2^30/\w'=w:=by
 obtain⟨⟨rs,h1,h2,h3,h4,h5,h6⟩,ht,hm,hb⟩:=h;refine uq (afu h1) ?_;rintro n w' ⟨rfl,hf⟩;exact⟨by omega,by omega,hf⟩
end
end Go.Proofs.AN
end
section
namespace Go.Proofs.AN
open Gp Go.Proofs Go.Proofs.JN Go.Proofs.EN
open Go.Proofs.CN (SlN_ix)
theorem lU {k:Kind} {w:World} {ad:Addr} {y:k.T} {K:k.T->Prop} (h:w.cell? ad=some (k.enc y)) (hK:K y):Ld k w ad K:=⟨y,h,hK⟩
structure AA where
 x:Nat
 e:EA
 k:Nat
 ks:Nat
 t4:Nat
 m4:Nat
 t6:Nat
 m6:Nat
def own (A:AA) (O4 O6:Nat->Prop):Nat->Nat->Prop
 |0,z=>z=A.x
 |1,z=>ownE' A.e z
 |2,z=>z=A.k
 |3,z=>z=A.ks
 |4,z=>O4 z
 |5,z=>O6 z
 |_,_=>False
 where ownE' (a:EA) (z:Nat):Prop:=∃k,EN.own a k z
def eI (n:Int):Value:= .int .i64 n
structure Af (w0 w:World) (A:AA) (c:Cf) (q:Int×Int×Int) (O4 O6:Nat->Prop) (N:Nat):Prop where
 hd:Row w A.x ([.pointer (some ⟨A.t6,0,none⟩),.pointer (some ⟨A.t4,0,none⟩)]++c.C++[.pointer (some ⟨A.e.x,0,none⟩),.pointer (some ⟨A.k,0,none⟩),.int .i64 0,.int .i64 1])
 en:P5 w A.e c (e0 c.sw.len c.nb.toNat c.ns.toNat)
 kr:Row w A.k [.slice (some ⟨A.ks,0,none⟩) 14 14]
 cr:∃cl:List Int,cl.length=14/\Row w A.ks (cl.map eI)
 j4:Jo w O4 A.t4 A.m4 q.1 q.2.1 q.2.2 N
 j6:Jo w O6 A.t6 A.m6 q.1 q.2.1 q.2.2 0
 qm:q.1<=2^30
 ap:∀i j z,own A O4 O6 i z->own A O4 O6 j z->i=j
 lt:∀i z,own A O4 O6 i z->z<w.heap.size
 lo:∀i z,own A O4 O6 i z->w0.heap.size<=z
section
variable {w0 w w':World} {A:AA} {c:Cf} {q:Int×Int×Int} {O4 O6:Nat->Prop} {N:Nat}
theorem Af.fr {S:Nat->Prop} (h:Af w0 w A c q O4 O6 N) (hf:fV w w' S) (hs:∀i z,own A O4 O6 i z->¬S z):Af w0 w' A c q O4 O6 N:=by
 obtain⟨cl,hl,hr⟩:=h.cr;exact⟨h.hd.fr hf (hs 0 _ rfl),h.en.fr hf (λk z hz=>hs 1 z ⟨k,hz⟩),h.kr.fr hf (hs 2 _ rfl),⟨cl,hl,hr.fr hf (hs 3 _ rfl)⟩,h.j4.fr hf (hs 4),h.j6.fr hf (hs 5),h.qm,h.ap,λi z hz=>Nat.lt_of_lt_of_le (h.lt i z hz) hf.size,h.lo⟩
theorem Af.ext (h:Af w0 w A c q O4 O6 N) (hf:Ext w w'):Af w0 w' A c q O4 O6 N:=h.fr (hf λ_=>False) (λ_ _ _=>by simp)
theorem Af.abe (h:Af w0 w A c q O4 O6 N) (hf:fV w w' (·=A.ks)) {cl:List Int} (hl:cl.length=14) (hr:Row w' A.ks (cl.map eI)):Af w0 w' A c q O4 O6 N:=by
 have n:∀{i z},own A O4 O6 i z->i≠3->¬z=A.ks:=λh1 h2 e=>h2 (h.ap _ 3 _ h1 e);exact⟨h.hd.fr hf (n (i:=0) rfl (by omega)),h.en.fr hf (λk z hz=>n (i:=1) ⟨k,hz⟩ (by omega)),h.kr.fr hf (n (i:=2) rfl (by omega)),⟨cl,hl,hr⟩,h.j4.fr hf (λz hz=>n (i:=4) hz (by omega)),h.j6.fr hf (λz hz=>n (i:=5) hz (by omega)),h.qm,h.ap,λi z hz=>Nat.lt_of_lt_of_le (h.lt i z hz) hf.size,h.lo⟩
theorem Af.aow {N':Nat} (h:Af w0 w A c q O4 O6 N) (hw:w0.heap.size<=w.heap.size) (hf:fV w w' O4) (hj:Jo w' (λz=>O4 z\/(w.heap.size<=z/\z<w'.heap.size)) A.t4 A.m4 q.1 q.2.1 q.2.2 N'):Af w0 w' A c q (λz=>O4 z\/(w.heap.size<=z/\z<w'.heap.size)) O6 N':=by
 have n:∀{i z},own A O4 O6 i z->i≠4->¬O4 z:=λh1 h2 e=>h2 (h.ap _ 4 _ h1 e);obtain⟨cl,hl,hr⟩:=h.cr;have back:∀{i z},own A (λz=>O4 z\/(w.heap.size<=z/\z<w'.heap.size)) O6 i z->own A O4 O6 i z\/(i=4/\w.heap.size<=z/\z<w'.heap.size):=by
  intro i z hz
  match i,hz with
  |0,hz=>exact .inl hz
  |1,hz=>exact .inl hz
  |2,hz=>exact .inl hz
  |3,hz=>exact .inl hz
  |4,hz=>exact hz.imp id λh=>⟨rfl,h⟩
  |5,hz=>exact .inl hz
  |(n+6),hz=>exact hz.elim
 refine⟨h.hd.fr hf (n (i:=0) rfl (by omega)),h.en.fr hf (λk z hz=>n (i:=1) ⟨k,hz⟩ (by omega)),h.kr.fr hf (n (i:=2) rfl (by omega)),⟨cl,hl,hr.fr hf (n (i:=3) rfl (by omega))⟩,hj,h.j6.fr hf (λz hz=>n (i:=5) hz (by omega)),h.qm,λi j z hi hj=> ?_,λi z hz=> ?_,λi z hz=> ?_⟩
 ·rcases back hi with h1|⟨rfl,h1,h1'⟩<;>rcases back hj with h2|⟨rfl,h2,h2'⟩
  ·exact h.ap i j z h1 h2
  ·by_cases e:i=4
   ·exact e
   ·have:=h.lt i z h1;omega
  ·by_cases e:j=4
   ·exact e.symm
   ·have:=h.lt j z h2;omega
  ·rfl
 ·rcases back hz with h1|⟨rfl,h1,h1'⟩
  ·exact Nat.lt_of_lt_of_le (h.lt i z h1) hf.size
  ·exact h1'
 ·rcases back hz with h1|⟨rfl,h1,h1'⟩
  ·exact h.lo i z h1
  ·omega
theorem Af.c38 (h:Af w0 w A c q O4 O6 N):w.cell? ⟨A.x,38,none⟩=some (.pointer (some ⟨A.e.x,0,none⟩)):=by
 rw[h.hd.cell,List.getElem?_append_right (by simp[h.en.cf.len]),length_append,h.en.cf.len];rfl
theorem Af.c39 (h:Af w0 w A c q O4 O6 N):w.cell? ⟨A.x,39,none⟩=some (.pointer (some ⟨A.k,0,none⟩)):=by
 rw[h.hd.cell,List.getElem?_append_right (by simp[h.en.cf.len]),length_append,h.en.cf.len];rfl
theorem Af.c40 (h:Af w0 w A c q O4 O6 N):w.cell? ⟨A.x,40,none⟩=some (.int .i64 0):=by
 rw[h.hd.cell,List.getElem?_append_right (by simp[h.en.cf.len]),length_append,h.en.cf.len];rfl
theorem Af.c0 (h:Af w0 w A c q O4 O6 N):w.cell? ⟨A.x,0,none⟩=some (.pointer (some ⟨A.t6,0,none⟩)):=by rw[h.hd.cell];rfl
theorem Af.c1 (h:Af w0 w A c q O4 O6 N):w.cell? ⟨A.x,1,none⟩=some (.pointer (some ⟨A.t4,0,none⟩)):=by rw[h.hd.cell];rfl
theorem tJ (h:Af w0 w A c q O4 O6 N):kG (some ⟨A.x,0,none⟩) w λr w'=>r=true/\w'=w:=by
 apply Jz;intro J;refine jc.2 (lU (k:= .ptr) (y:=some ⟨A.e.x,0,none⟩) (by rw[fM];exact h.c38) ?_);exact⟨rfl,rfl⟩
theorem Eb (h:Af w0 w A c q O4 O6 N) (i:Int):kM (some ⟨A.k,0,none⟩) i w λr w'=>r=decide (0<=i/\i<14)/\w'=w:=by
 apply FV;intro J;have hJ:∀q,q=decide (0<=i/\i<14)->J q:=λq hq=>⟨hq,rfl⟩;clear_value J;show cond true _ _;rw[cond_true];by_cases hi:i>=0
 ·rw[decide_eq_true hi,cond_true];refine jc.2 (fJ (k:= .slice) (i:=0) (x:=⟨some ⟨A.ks,0,none⟩,14,14⟩) h.kr rfl (hJ _ (decide_eq_decide.2 ?_)));constructor
  ·intro h1;exact⟨hi,h1⟩
  ·intro h1;exact h1.2
 ·rw[decide_eq_false hi,cond_false];exact hJ _ (decide_eq_false λh1=>hi h1.1).symm
theorem abJ (h:Af w0 w A c q O4 O6 N) (i:Int):jT (some ⟨A.k,0,none⟩) i w λ_ w'=>fV w w' (·=A.ks)/\Af w0 w' A c q O4 O6 N:=by
 apply FU;intro J;have j:J true w:=by
  simp only[J,cond_true];exact⟨fV.refl _ _,h⟩
 have z:0<=i/\i<14->J false w:=by
  intro hi;simp only[J,cond_false];obtain⟨cl,hl,hr⟩:=h.cr;have hg:=getElem?_eq_getElem (show i.toNat<cl.length by omega);generalize cl[i.toNat]=y at hg;refine jc.2 (fJ (k:= .slice) (i:=0) (x:=⟨some ⟨A.ks,0,none⟩,14,14⟩) h.kr rfl ?_);have u:∀{K:Addr->Prop},K ⟨A.ks,i.toNat,none⟩->iP ⟨some ⟨A.ks,0,none⟩,14,14⟩ 1 i K:=by
   intro K hK;refine(wF _ _ _ _ _ _).2 ⟨hi.1,by omega,?_⟩;rw[fM,Nat.zero_add,Nat.mul_one];exact hK
  refine u (lU (k:= .int .i64) (y:=y) (by rw[hr.cell,List.getElem?_map,hg];rfl) (u ?_));refine gB (i:=i.toNat) hr rfl (by rw[length_map];omega) λw1 r1 f1 z1=> ?_;have f1:fV w w1 (·=A.ks):=f1 _ rfl;rw[show (cl.map eI).set i.toNat (.int .i64 (IntKind.i64.wrap (y+1)))=(cl.set i.toNat (IntKind.i64.wrap (y+1))).map eI by rw[List.map_set];rfl] at r1;exact⟨f1,h.abe f1 (by rw[List.length_set];exact hl) r1⟩
 clear_value J;refine E8 (Eb h i) ?_;rintro r w1 ⟨rfl,hw⟩;subst hw;by_cases hi:0<=i/\i<14
 ·rw[decide_eq_true hi,Bool.not_true,cond_false]
  cases (i==0)
  ·exact z hi
  ·exact j
 ·rw[decide_eq_false hi,Bool.not_false,cond_true];exact j
theorem abP (h:Af w0 w A c q O4 O6 N) (i:Int):ji (some ⟨A.x,0,none⟩) i w λs r w'=>s=⟨none,0,0⟩/\r=i/\fV w w' (·=A.ks)/\Af w0 w' A c q O4 O6 N:=by
 apply Ls;refine jc.2 (lU (k:= .ptr) (y:=some ⟨A.k,0,none⟩) (by rw[fM];exact h.c39) ?_);refine yu (abJ h i) ?_;rintro _ w1 ⟨f1,h1⟩;exact⟨rfl,rfl,f1,h1⟩
theorem aas (h:Af w0 w A c q O4 O6 N) (i:Int) (s:eY):kL (some ⟨A.x,0,none⟩) i s w λs' r w'=>s'=s/\r=i/\fV w w' (·=A.ks)/\Af w0 w' A c q O4 O6 N:=by
 apply FN;refine jc.2 (lU (k:= .ptr) (y:=some ⟨A.k,0,none⟩) (by rw[fM];exact h.c39) ?_);refine yu (abJ h i) ?_;rintro _ w1 ⟨f1,h1⟩;exact⟨rfl,rfl,f1,h1⟩
theorem ahf (h:Af w0 w A c q O4 O6 N) (i:Int):mQ (some ⟨A.e.x,0,none⟩) i w λ_ w'=>w'=w:=by
 apply JL;intro J;have hJ:∀q,J q w:=λq=>rfl;clear_value J;refine qE (MX h.en) ?_;rintro _ w1 ⟨rfl,hw⟩;subst hw;rw[cond_true];refine jc.2 (lU (k:= .ptr) (y:=some ⟨A.e.p,0,none⟩) h.en.c0 ?_);refine MS (PN.Eb h.en.pl i) ?_;rintro r w1 ⟨_,hw⟩;subst hw;exact hJ _
end
end Go.Proofs.AN
end
section
namespace Go.Proofs.AN
open Gp Go.Proofs Go.Proofs.JN Go.Proofs.EN
open Go.Proofs.CN (SlN_ix T16 T7 e16 e7 chk chk_one OkP fineP)
theorem abv {w:World} {b:Nat} {l:List Value} {R:Prop} (h:Row w b l) (hR:R):∀(vs:List Value) (i:Nat),(∀(j:Nat) (v:Value),vs[j]? =some v->l[i+j]? =some v)->S_ vs w ⟨b,0,none⟩ i R
 |[],_,_=>(ig _ _ _ _).2 hR
 |v::vs,i,hv=>(gJ _ _ _ _ _ _).2 ⟨by rw[fM,Nat.zero_add,h.cell];exact hv 0 v rfl,abv h hR vs (i+1) λj u hj=>by rw[show i+1+j=i+(j+1) by omega];exact hv (j+1) u hj⟩
theorem rV {w:World} {b:Nat} {l:List Value} {R:Prop} (h:Row w b l) (hR:R):S_ l w ⟨b,0,none⟩ 0 R:=abv h hR l 0 λj v hj=>by rw[Nat.zero_add];exact hj
theorem am9 {ls lp lt n18 n19 n20 n21 n22 n23 n24 n25 n26 n27 n28 n29 n30 n31 n32 n33 n34:Int} {p:T16} {n:Nat} {sl:List T16} {pl:List Int} {tl:List T7} (h:OkP p ls lp lt n18 n19 n20 n21 n22 n23 n24 n25 n26 n27 n28 n29 n30 n31 n32 n33 n34 n sl pl tl):
  (0<=n23/\n23<=4096)/\(0<=n24/\n24<=67108864)/\(1<=n34/\n34<=1048576):=
 ⟨h.nums (n23,0,4096,()) (by simp[CN.TF]),h.nums (n24,0,67108864,()) (by simp[CN.TF]),h.nums (n34,1,1048576,()) (by simp[CN.TF])⟩
theorem ag8 (w:World):uY w λp w'=>Ext w w'/\∃k ks,p=some ⟨k,0,none⟩/\w.heap.size<=ks/\ks<k/\k<w'.heap.size/\Row w' k [.slice (some ⟨ks,0,none⟩) 14 14]/\Row w' ks ((List.replicate 14 (0:Int)).map eI):=by
 apply Uf;refine C9 (by omega) (by omega) (by omega) (by omega) λb w1 r1 e1 z1 f1=> ?_;refine fP λa w2 r2 e2 z2 f2=> ?_;exact⟨Ext.trans f1 f2,a,b,rfl,by omega,by omega,by omega,r2,r1.ext f2⟩
theorem agW {w:World} {p0 p1 p2 p3 p4 p5 p6 p7 p8 p9 u I J U Y Z:Int} {sw po:eY} {n18 n19 n20 n21 n22 n23 n24 n25 n26 n27 n28 n29 n30 n31 n32 n33 n34:Int} {st:eY} {sl:List T16} {pl:List Int} {tl:List T7} (ah:lV 16 e16 w sw sl) (ai:lV 1 CN.eI w po pl) (aj:lV 7 e7 w st tl) (lsw:sw.len<=2^40) (lpo:po.len<=2^40) (lst:st.len=0)
  (ab:chk (p0,p1,p2,p3,p4,p5,p6,p7,p8,p9,u,I,J,U,Y,Z,()) sw.len po.len st.len n18 n19 n20 n21 n22 n23 n24 n25 n26 n27 n28 n29 n30 n31 n32 n33 n34 sw.len sl pl tl 0):
  zV p0 p1 p2 p3 p4 p5 p6 p7 p8 p9 u I J U Y Z sw po n18 n19 n20 n21 n22 n23 n24 n25 n26 n27 n28 n29 n30 n31 n32 n33 n34 st w λr e w'=>e=0/\Ext w w'/\∃A O4 O6,r=some ⟨A.x,0,none⟩/\Af w w' A ⟨jo p0 p1 p2 p3 p4 p5 p6 p7 p8 p9 u I J U Y Z sw po n18 n19 n20 n21 n22 n23 n24 n25 n26 n27 n28 n29 n30 n31 n32 n33 n34 st,sw,pl,n18,n19,n20,n21,n22⟩ (n23,n24,n34) O4 O6 0:=by
 apply Y_;refine fP λa w1 r1 e1 z1 f1=> ?_;have rd:∀W (Q:_),Row W a (jo p0 p1 p2 p3 p4 p5 p6 p7 p8 p9 u I J U Y Z sw po n18 n19 n20 n21 n22 n23 n24 n25 n26 n27 n28 n29 n30 n31 n32 n33 n34 st)->Q p0 p1 p2 p3 p4 p5 p6 p7 p8 p9 u I J U Y Z sw po n18 n19 n20 n21 n22 n23 n24 n25 n26 n27 n28 n29 n30 n31 n32 n33 n34 st->rX W ⟨a,0,none⟩ Q:=by
  intro W Q hr hq;simp only[sx,hr.cell];exact hq
 refine rd _ _ r1 ?_;refine afS (ah.ext f1) (ai.ext f1) (aj.ext f1) lsw lpo lst (λr w' _ hr hc=>absurd (chk_one hc ab) hr) λak _ w2 ea f2 hE ac=> ?_;have hb:=am9 ak;have r2:=(r1.ext f2).drew;have x2:=f1.trans f2;show cond false _ _;rw[cond_false];refine rd _ _ r2 ?_;refine TN (ag8 _) ?_;rintro _ w3 ⟨f3,k,ks,rfl,k1,k2,k3,rk,rks⟩;have f3:Ext w2 w3:=(Ext.drew w2).trans f3;have k1:w2.heap.size<=ks:=k1;have r3:Row w3 a (jo p0 p1 p2 p3 p4 p5 p6 p7 p8 p9 u I J U Y Z sw po n18 n19 n20 n21 n22 n23 n24 n25 n26 n27 n28 n29 n30 n31 n32 n33 n34 st):=r1.ext (f2.trans f3);refine rV r3 ?_;refine fP λx w4 r4 e4 z4 f4=> ?_;have aa:=r3.ext f4;refine fJ (k:= .int .i64) (i:=23) (x:=n23) aa rfl (fJ (k:= .int .i64) (i:=24) (x:=n24) aa rfl (fJ (k:= .int .i64) (i:=34) (x:=n34) aa rfl ?_));have ag:AL n23 n24 n34:=⟨by omega,by omega,by omega⟩;refine Fe (YR ag w4) ?_;rintro _ _ w5 ⟨rfl,f5,t6,m6,rfl,hJ6,a1,a2,a3,a4⟩;refine jc.2 (gB (i:=0) (r4.ext f5) rfl (by simp) λw6 r6 f6' z6=> ?_);have f6:fV w5 w6 (·=x):=f6' _ rfl;have z5:=f5.size;have ae:=(aa.ext f5).fr f6 (by have:=r3.lt;omega);refine fJ (k:= .int .i64) (i:=23) (x:=n23) ae rfl (fJ (k:= .int .i64) (i:=24) (x:=n24) ae rfl (fJ (k:= .int .i64) (i:=34) (x:=n34) ae rfl ?_));refine Fe (YR ag w6) ?_;rintro _ _ w7 ⟨rfl,f7,t4,m4,rfl,hJ4,b1,b2,b3,b4⟩;refine jc.2 (gB (i:=1) (r6.ext f7) rfl (by simp) λw8 r8 f8' z8=> ?_);have f8:fV w7 w8 (·=x):=f8' _ rfl;have z7:=f7.size;simp only[List.set_cons_zero,List.set_cons_succ] at r8;have z1:=f1.size;have z2:=f2.size;have z3:=f3.size;have zz4:=f4.size;have af:∀z,own.ownE' ea z->w1.heap.size<=z/\z<w2.heap.size:=λz ⟨j,hj⟩=>⟨ac j z hj,hE.lt j z hj⟩;have g4:Ext w w4:=(x2.trans f3).trans f4;have hA:Af w w8 ⟨x,ea,k,ks,t4,m4,t6,m6⟩ ⟨jo p0 p1 p2 p3 p4 p5 p6 p7 p8 p9 u I J U Y Z sw po n18 n19 n20 n21 n22 n23 n24 n25 n26 n27 n28 n29 n30 n31 n32 n33 n34 st,sw,pl,n18,n19,n20,n21,n22⟩ (n23,n24,n34) (λz=>z=t4\/z=m4) (λz=>z=t6\/z=m6) 0:=by
  have key:∀i z,own ⟨x,ea,k,ks,t4,m4,t6,m6⟩ (λz=>z=t4\/z=m4) (λz=>z=t6\/z=m6) i z->(i=0/\z=x)\/(i=1/\w1.heap.size<=z/\z<w2.heap.size)\/(i=2/\z=k)\/(i=3/\z=ks)\/(i=4/\w6.heap.size<=z/\z<w7.heap.size)\/(i=5/\w4.heap.size<=z/\z<w5.heap.size):=by
   intro i z hz
   match i,hz with
   |0,hz=>exact .inl ⟨rfl,hz⟩
   |1,hz=>exact .inr (.inl ⟨rfl,af z hz⟩)
   |2,hz=>exact .inr (.inr (.inl ⟨rfl,hz⟩))
   |3,hz=>exact .inr (.inr (.inr (.inl ⟨rfl,hz⟩)))
   |4,hz=>refine .inr (.inr (.inr (.inr (.inl ⟨rfl,?_⟩))));rcases hz with rfl|rfl<;>omega
   |5,hz=>refine .inr (.inr (.inr (.inr (.inr ⟨rfl,?_⟩))));rcases hz with rfl|rfl<;>omega
   |(n+6),hz=>exact hz.elim
  refine⟨r8,?_,?_,⟨List.replicate 14 0,rfl,?_⟩,?_,?_,by show n23<=2^30;omega,λi j z h1 h2=> ?_,λi z hz=> ?_,λi z hz=> ?_⟩
  ·exact((((hE.ext (f3.trans f4)).ext f5).fr f6 λj z hz e=>by have:=af z ⟨j,hz⟩;omega).ext f7).fr f8 λj z hz e=>by have:=af z ⟨j,hz⟩;omega
  ·exact((((rk.ext f4).ext f5).fr f6 (by omega)).ext f7).fr f8 (by omega)
  ·exact((((rks.ext f4).ext f5).fr f6 (by omega)).ext f7).fr f8 (by omega)
  ·exact hJ4.fr f8 λz hz e=>by rcases hz with rfl|rfl<;>omega
  ·exact((hJ6.fr f6 λz hz e=>by rcases hz with rfl|rfl<;>omega).ext f7).fr f8 λz hz e=>by rcases hz with rfl|rfl<;>omega
  ·have k1:=key i z h1;have k2:=key j z h2;omega
  ·have k1:=key i z hz;omega
  ·have k1:=key i z hz;omega
 exact⟨rfl,(((g4.trans f5).new f6 λz hz e=>by omega).trans f7).new f8 λz hz e=>by omega,_,_,_,rfl,hA⟩
end Go.Proofs.AN
end
section
namespace Go.Proofs.AN
open Gp Go.Proofs Go.Proofs.JN Go.Proofs.EN
section
variable {w0 w w':World} {A:AA} {c:Cf} {q:Int×Int×Int} {O4 O6:Nat->Prop} {N:Nat}
theorem aeH (h:Af w0 w A c q O4 O6 N):j_ (some ⟨A.k,0,none⟩) w λ_ w'=>Ext w w':=by
 apply EH;show cond false _ _;rw[cond_false];refine jc.2 (fJ (k:= .slice) (i:=0) (x:=⟨some ⟨A.ks,0,none⟩,14,14⟩) h.kr rfl ?_);obtain⟨cl,hl,hr⟩:=h.cr;have hb:jB 1 SN.eI w ⟨some ⟨A.ks,0,none⟩,14,14⟩ cl:=by
  have hm:cl.map eI=cl.flatMap SN.eI:=by
   clear hl hr
   induction cl with
   |nil=>rfl
   |cons x l ih=>rw[List.map_cons,List.flatMap_cons,ih];rfl
  rw[hm] at hr;have:=jB.row (n:=1) (f:=SN.eI) (xs:=cl) hr;rw[hl] at this;exact this
 refine uF (SN.UM (hb.sl SN.qG (by omega)) (by omega)) ?_;rintro r w1 ⟨f1,_⟩;exact f1
theorem ags (h:Af w0 w A c q O4 O6 N):n_ (some ⟨A.x,0,none⟩) w λ_ af _ _ _ _ _ w'=>af.len=0/\Ext w w':=by
 apply Lr;refine fP λa w1 r1 e1 z1 f1=> ?_;have h1:=h.ext f1;refine Ap (tJ h1) ?_;rintro _ w2 ⟨rfl,hw⟩;subst hw;rw[Bool.not_true,cond_false];refine jc.2 (lU (k:= .ptr) (y:=some ⟨A.e.x,0,none⟩) (by rw[fM];exact h1.c38) ?_);have hE:=h1.en;have hb1:=hE.cf.b1;have hs1:=hE.cf.s1;refine EN.aiE hE ⟨by rw[hE.db.len];omega,by rw[hE.se.len];omega⟩ λbs ss w3 f3 ag _ _ _=> ?_;have ah:bs.len=0:=by
  rw[ag.len];have:Gp.Bind.live 0 (e0 c.sw.len c.nb.toNat c.ns.toNat).S=[]:=sZ _ _;rw[this];rfl
 have h3:=h1.ext f3;refine fP λb w4 r4 e4 z4 f4=> ?_;refine fK r4 rfl rfl λw5 r5 f5' z5=> ?_;have x5:Ext w2 w5:=(f3.trans f4).new (f5' (·=b) rfl) λy hy e=>by have:=f3.size;omega
 have h5:=h1.ext x5;have zb:w2.heap.size<=b:=by have:=f3.size;omega
 have h5d:=h5.ext (Ext.drew w5);refine jc.2 (lU (k:= .ptr) (y:=some ⟨A.t6,0,none⟩) h5d.c0 (jc.2 (lU (k:= .ptr) (y:=some ⟨A.t4,0,none⟩) (by rw[fM];exact h5d.c1) ?_)));refine rO (QX h5d.j6) ?_;rintro n6 w6 ⟨n60,n61,f6⟩;have h6:=h5d.ext f6;refine⟨by rw[fM];exact h6.c1,?_⟩;refine rO (QX h6.j4) ?_;rintro n4 w7 ⟨n40,n41,f7⟩;have h7:=h6.ext f7;have x7:Ext w5 w7:=((Ext.drew w5).trans f6).trans f7;have r7:=r5.ext x7;refine gB (i:=3) r7 rfl (by simp) λw8 r8 f8' z8=> ?_;have f8:fV w7 w8 (·=b):=f8' _ rfl;simp only[List.set_cons_zero,List.set_cons_succ] at r8;have g8:Ext w2 w8:=(x5.trans x7).new f8 λy hy e=>by omega
 have h8:=(h1.ext g8).ext (Ext.drew w8);refine jc.2 (lU (k:= .ptr) (y:=some ⟨A.t6,0,none⟩) h8.c0 (jc.2 (lU (k:= .ptr) (y:=some ⟨A.t4,0,none⟩) (by rw[fM];exact h8.c1) ?_)));refine uq (U7 h8.j6 h.qm) ?_;rintro u6 w9 ⟨u60,u61,hw9⟩;subst hw9;refine⟨by rw[fM];exact h8.c1,?_⟩;refine uq (U7 h8.j4 h.qm) ?_;rintro u4 w9 ⟨u40,u41,hw9⟩;subst hw9;refine gB (i:=4) r8.drew rfl (by simp) λaa z I z10=> ?_;have f10:fV w8.drew aa (·=b):=I _ rfl;simp only[List.set_cons_zero,List.set_cons_succ] at z;refine fJ (k:= .int .i64) (i:=5) (x:=((e0 c.sw.len c.nb.toNat c.ns.toNat).l.length:Int)) z rfl (fJ (k:= .int .i64) (i:=4) (x:=IntKind.i64.wrap (u6+u4)) z rfl ?_);refine gB (i:=5) z rfl (by simp) λab ac J z11=> ?_;have f11:fV aa ab (·=b):=J _ rfl;simp only[List.set_cons_zero,List.set_cons_succ] at ac;have g11:Ext w2 ab:=((g8.trans (Ext.drew w8)).new f10 λy hy e=>by omega).new f11 λy hy e=>by omega
 have ae:=h1.ext g11;refine jc.2 (lU (k:= .ptr) (y:=some ⟨A.k,0,none⟩) (by rw[fM];exact ae.c39) ?_);refine EG (aeH ae) ?_;rintro cs ai f12;refine gB (i:=6) (ac.ext f12) rfl (by simp) λU j Y z13=> ?_;have f13:fV ai U (·=b):=Y _ rfl;simp only[List.set_cons_zero,List.set_cons_succ] at j;have g13:Ext w2 U:=(g11.trans f12).new f13 λy hy e=>by omega
 refine fJ (k:= .int .i64) (i:=0) (x:=((e0 c.sw.len c.nb.toNat c.ns.toNat).now:Int)) j rfl (fJ (k:= .slice) (i:=1) (x:=bs) j rfl (fJ (k:= .slice) (i:=2) (x:=ss) j rfl (fJ (k:= .int .i64) (i:=3) (x:=IntKind.i64.wrap (n6+n4)) j rfl (fJ (k:= .int .i64) (i:=4) (x:=IntKind.i64.wrap (u6+u4)) j rfl ?_))));refine fJ (k:= .int .i64) (i:=5) (x:=IntKind.i64.wrap (((e0 c.sw.len c.nb.toNat c.ns.toNat).l.length:Int)+IntKind.i64.wrap (u6+u4))) j rfl (fJ (k:= .slice) (i:=6) (x:=cs) j rfl ?_);refine fK (r1.ext g13) rfl rfl λaj u Z z14=> ?_;have f14:fV U aj (·=a):=Z _ rfl;refine fJ (k:= .int .i64) (i:=0) (x:=((e0 c.sw.len c.nb.toNat c.ns.toNat).now:Int)) u rfl (fJ (k:= .slice) (i:=1) (x:=bs) u rfl (fJ (k:= .slice) (i:=2) (x:=ss) u rfl (fJ (k:= .int .i64) (i:=3) (x:=IntKind.i64.wrap (n6+n4)) u rfl (fJ (k:= .int .i64) (i:=4) (x:=IntKind.i64.wrap (u6+u4)) u rfl ?_))));refine fJ (k:= .int .i64) (i:=5) (x:=IntKind.i64.wrap (((e0 c.sw.len c.nb.toNat c.ns.toNat).l.length:Int)+IntKind.i64.wrap (u6+u4))) u rfl (fJ (k:= .slice) (i:=6) (x:=cs) u rfl ?_);exact⟨ah,(f1.trans g13).new f14 λy hy e=>by omega⟩
end
end Go.Proofs.AN
end
section
namespace Go.Proofs.AN
open Gp Gp.V4 Go.Proofs Go.Proofs.VN
theorem qg {W:World} {a:Nat} {x0 x1 x2 x3 x4 x5 x6:Int} {x7 x8:Bool} {x9 j:eY} {Q:Int->Int->Int->Int->Int->Int->Int->Bool->Bool->eY->eY->Prop} (hr:Row W a (fG x0 x1 x2 x3 x4 x5 x6 x7 x8 x9 j)) (hq:Q x0 x1 x2 x3 x4 x5 x6 x7 x8 x9 j):gI W ⟨a,0,none⟩ Q:=by
 simp only[sx,hr.cell];exact hq
theorem aa9 {W:World} {a:Nat} {s0:eY} {x0 x1 x2 x3 x4 x5 x6 j:Int} {x7 x8:Bool} {x9 u:eY} {Q:eY->Int->Int->Int->Int->Int->Int->Int->Bool->Bool->eY->eY->Int->Prop} (hr:Row W a (zU s0 x0 x1 x2 x3 x4 x5 x6 x7 x8 x9 u j)) (hq:Q s0 x0 x1 x2 x3 x4 x5 x6 x7 x8 x9 u j):EP W ⟨a,0,none⟩ Q:=by
 simp only[sx,hr.cell];exact hq
theorem alq {l:List UInt8} (h:oO l false=0):oO l true=0:=by
 unfold oO at h ⊢;split at h
 ·simp at h
 rename_i h1;rw[if_neg h1];split at h
 ·simp at h
 rename_i h2;rw[if_neg h2];split at h
 ·simp at h
 rename_i h3;rw[if_neg (by intro hh;rcases hh with hh|hh;exact h3 (.inl hh);exact absurd hh.2 (by simp))];exact h
theorem R_ (l:List UInt8) (q:Bool):(V4.read l q).opts.length<=l.length/\(V4.read l q).data.length<=l.length:=by
 unfold V4.read;split
 ·rename_i h;have ho:oO l true=0:=by
   unfold rF at h;by_cases h0:oO l q=0
   ·cases q
    ·exact alq h0
    ·exact h0
   ·rw[if_pos h0] at h;exact absurd h h0
  have:=(QI ho).2;unfold lS.size at this;omega
 ·simp[lS.zero]
theorem acN (p:lS):p.bytes.length=20+p.opts.length+p.data.length:=by
 unfold lS.bytes;rw[length_append,QT]
theorem NM (x0 x1 x2 x3 x4 x5 x6:Int) (x7 x8:Bool) (x9 j:eY) (w:World):uj x0 x1 x2 x3 x4 x5 x6 x7 x8 x9 j w λ_ w'=>Ext w w':=by
 apply Zo;refine fP λa w1 r1 e1 z1 f1=> ?_;intro J;have hJ:∀q,J q:=λq=>f1;clear_value J;refine fJ (k:= .bool) (i:=8) (x:=x8) r1 rfl ?_
 cases x8
 ·exact fJ (k:= .int .i64) (i:=2) (x:=x2) r1 rfl (hJ _)
 ·exact hJ _
theorem Gw {w:World} (p:lS) {o d:eY} (ho:iF w o p.opts) (hd:iF w d p.data) (h1:p.opts.length<=2^36) (h2:p.data.length<=2^36):
  mG p.tos p.id p.off p.ttl p.proto p.src p.dst p.df p.mf o d w λr w'=>(∃l:List UInt8,iF w' r l/\l.length<=2^38)/\Ext w w'/\∀b,eY.at r b->w.heap.size<=b:=by
 apply Uc;refine fP λa w1 r1 e1 z1 f1=> ?_;refine qg r1 ?_;refine Yr (aez p (ho.ext f1) (hd.ext f1) (by omega) (by omega)) ?_;rintro r e w2 ⟨_,hn,hz,f2,j⟩;refine⟨?_,f1.trans f2,λb hb=>by have:=j b hb;have:=f1.size;omega⟩;by_cases hc:p.check=0
 ·exact⟨p.bytes,iF.jI (hz hc),by rw[acN];omega⟩
 ·rw[hn hc];exact⟨[],iF.nil,by simp⟩
theorem aiX (z:Int):∃u:UInt8,IntKind.u8.wrap z=(u.toNat:Int):=by
 have h1:IntKind.u8.wrap z=z % 256:=by
  unfold IntKind.wrap;simp[IntKind.bits,IntKind.signed]
 refine⟨UInt8.ofNat (z % 256).toNat,?_⟩;rw[h1];have:(z % 256).toNat<256:=by omega
 simp only[UInt8.toNat_ofNat'];omega
theorem LU (l:List UInt8) (n:Int) (k:Nat):(nI l n (k:Int)).length<=l.length+k:=by
 unfold nI;split
 ·rw[length_append,nV];simp
 ·omega
theorem ahk (z x0 x1 x2 x3 x4 x5 x6:Int) (x7 x8:Bool) (x9 Z:eY) (w:World):qh z x0 x1 x2 x3 x4 x5 x6 x7 x8 x9 Z w λ_ w'=>Ext w w':=by
 apply O5;refine fP λa w1 r1 e1 z1 f1=> ?_;refine fP λb w2 r2 e2 z2 f2=> ?_;have J:=r1.ext f2;refine fJ (k:= .int .i64) (i:=5) (x:=x5) J rfl (fJ (k:= .int .i64) (i:=6) (x:=x6) J rfl ?_);refine fP λg w3 r3 e3 z3 f3=> ?_;obtain⟨u,hu⟩:=aiX z;rw[hu] at r2;have hb0:Buf w3 ⟨some ⟨b,0,none⟩,2,2⟩ (bytesV [52,u]):=iF.row (l:=[52,u]) ((by simpa [bytesV] using r2:Row w2 b (bytesV [52,u])).ext f3);have x3:=(f1.trans f2).trans f3;refine fZ (λs W=>∃(i:Nat) (l:List UInt8),i<=2/\s.2.1=(i:Int)/\Buf W s.1 (bytesV l)/\l.length<=2+8 * i/\Ext w3 W/\(∀y,eY.at s.1 y->w1.heap.size<=y)) (λs _=>2 - s.2.1.toNat) ⟨0,[52,u],by omega,rfl,hb0,by simp,Ext.refl _,λy ⟨o,hy⟩=>by simp only[Option.some.injEq,Addr.mk.injEq] at hy;omega⟩ ?_;rintro⟨s,j,⟨⟩⟩ W ⟨i,l,hi,hj,hb,hl,hx,hn⟩ next I
 dsimp only at hj hb hn ⊢;subst hj;by_cases U:(i:Int)<2
 ·rw[decide_eq_true U,cond_true];have hg:∃n:Int,[x5,x6][i]? =some n:=⟨_,getElem?_eq_getElem (show i<[x5,x6].length by simp;omega)⟩;obtain⟨n,hn'⟩:=hg;have r3W:=r3.ext hx;refine(wF _ _ _ _ _ _).2 ⟨by omega,U,?_⟩;rw[fM,Nat.zero_add,Nat.mul_one,Int.toNat_natCast];refine lU (k:= .int .i64) (y:=n) ?_ ?_
  ·rw[r3W.cell]
   match i,hn' with
   |0,hn'=>simp at hn';subst hn';rfl
   |1,hn'=>simp at hn';subst hn';rfl
  refine pG (AU (iF.jI hb) (by omega) n 4) ?_;rintro r w5 ⟨b5,f5,n5⟩;rw[wrap_i64 (by omega) (by omega)];refine I _ _ ⟨i+1,_,by omega,by simp,b5,?_,hx.trans f5,λy hy=> ?_⟩ (by dsimp only;omega)
  ·have h4:(nI l n 4).length<=l.length+4:=LU l n 4;omega
  ·have:=n5 y hy;have:=((f2.trans f3).trans hx).size;omega
 ·rw[decide_eq_false U,cond_false];have r1W:=((J.ext f3).ext hx).drew;refine fJ (k:= .int .i64) (i:=4) (x:=x4) r1W rfl (fJ (k:= .int .i64) (i:=1) (x:=x1) r1W rfl ?_);refine fP λh w5 r5 e5 z5 f5=> ?_;have Y:=r1W.ext f5;refine⟨by rw[fM,Y.cell];rfl,?_⟩;obtain⟨v,hv⟩:=aiX x4;rw[hv] at r5;have hs5:iF w5 ⟨some ⟨h,0,none⟩,1,1⟩ [v]:=iF.jI (iF.row (l:=[v]) (by simpa [bytesV] using r5));have x5:Ext W w5:=(Ext.drew W).trans f5;refine kU (hb.ext x5) hs5 (by simp;omega) λs' w6 b6 f6 n6 _=> ?_;have aa:∀y,y<w.heap.size->¬eY.at s y:=λy hy hh=>by have:=hn y hh;omega
  have za:=f1.size;have ab:Row w6 a _:=Y.fr f6 λhh=>by have:=hn a hh;omega
  refine⟨by rw[fM,ab.cell];rfl,?_⟩;refine pG (AU (iF.jI b6) (by simp;omega) x1 2) ?_;rintro r w7 ⟨b7,f7,_⟩;exact xI (iF.jI b7) (((((x3.trans hx).trans x5)).new f6 λy hy=>aa y hy).trans f7)
end Go.Proofs.AN
end
section
namespace Go.Proofs.AN
open Gp Gp.V4 Go.Proofs Go.Proofs.VN Go.Proofs.JN
theorem air {e:TypeId} {s:ByteArray} {w:World} {K:eY->b_} (hs:s.size<=2^39) (hK:∀sl w',Ext w w'->iF w' sl s.data.toList->K sl w'):Ko e s w K:=by
 refine⟨by omega,λc h1 h2=>hK _ _ ((Ext.drew w).trans λS=>fV.alloc _ _ S) ⟨?_,?_,h1⟩⟩
 ·show s.size=_;rw[length_toList];rfl
 ·have hl:(bytesV s.data.toList).length=s.size:=by rw[jJ,length_toList];rfl
  refine⟨hl,λi hi=> ?_⟩;have hn:=World.alloc_heap_new w.drew (.cells ⟨byteCells s++fO [.int .u8 0] (c - s.size)⟩ e (c,c+1));have hn:(w.drew.alloc (.cells ⟨byteCells s++fO [.int .u8 0] (c - s.size)⟩ e (c,c+1))).heap[w.heap.size]? =some (.cells ⟨byteCells s++fO [.int .u8 0] (c - s.size)⟩ e (c,c+1)):=hn;rw[fM,Nat.zero_add];simp only[World.cell?,hn,getElem?_toArray];show (bytesV s.data.toList++fO [.int .u8 0] (c - s.size))[i]? =_;rw[List.getElem?_append_left hi]
theorem Sz {W:World} {b:Nat} {x0 x1 x2 x3 x4 x5 x6:Int} {x7 x8:Bool} {x9 j:eY} (hr:Row W b (fG x0 x1 x2 x3 x4 x5 x6 x7 x8 x9 j)) {s:eY} {L:List UInt8} (hs:iF W s L) {ad:Addr} (ha:s.a=some ad) (hl:0<L.length):¬ad.block=b:=by
 intro e;obtain⟨x,hx⟩:∃x,L[0]? =some x:=⟨_,getElem?_eq_getElem hl⟩;obtain⟨a',ha',hc⟩:=hs.at_ hx;rw[ha] at ha'
 cases ha'
 obtain⟨T,hT⟩:=hr;obtain⟨bk,off,pth⟩:=ad;simp only at e;subst e;have h0:(Addr.add ⟨bk,off,pth⟩ 0)=⟨bk,off,pth⟩:=by simp[Addr.add]
 rw[h0] at hc;simp only[World.cell?,hT] at hc;split at hc
 ·cases hc
 ·rw[getElem?_toArray] at hc
  match off,hc with
  |0,hc|1,hc|2,hc|3,hc|4,hc|5,hc|6,hc|7,hc|8,hc|9,hc|10,hc=>simp at hc
  |(n+11),hc=>simp at hc
theorem adQ (e:Int) (w:World):rZ e w λ_ w'=>w'=w:=by
 apply Ru
 cases (e==0)<;>cases (e==7)<;>cases (e==9)<;>exact rfl
section
variable {w0 w w':World} {A:AA} {c:EN.Cf} {q:Int×Int×Int} {O4 O6:Nat->Prop} {N:Nat}
theorem Jo.more {O:Nat->Prop} {t m:Nat} {many bytes wait:Int} {N':Nat} (h:Jo w O t m many bytes wait N) (hN:N<=N'):Jo w O t m many bytes wait N':=by
 obtain⟨⟨rs,h1,h2,h3,h4,h5,h6⟩,ht,hm,hb⟩:=h;exact⟨⟨rs,h1,h2,h3,λx hx=>Nat.le_trans (h4 x hx) hN,h5,h6⟩,ht,hm,hb⟩
theorem Af.more {N':Nat} (h:Af w0 w A c q O4 O6 N) (hN:N<=N'):Af w0 w A c q O4 O6 N':=⟨h.hd,h.en,h.kr,h.cr,h.j4.more hN,h.j6,h.qm,h.ap,h.lt,h.lo⟩
theorem agu (h:Af w0 w A c q O4 O6 N) (hw0:w0.heap.size<=w.heap.size) (hN:N<2^18) (z:Int) (p:lS) {o d:eY} (ho:iF w o p.opts) (hd:iF w d p.data) (h1:p.opts.length<=2^30) (h2:p.data.length<=2^30)
  {K:Int->Int->Int->Int->Int->Int->Int->Bool->Bool->eY->eY->Int->Bool->b_}
  (hK:∀t i o' l p' s d' df mf op da why ok w' (P:lS) O4',fV w w' O4->Af w0 w' A c q O4' O6 (N+1)->OG w' P t i o' l p' s d' df mf op da->(ok=true->P.opts.length<=2^36/\P.data.length<=2^36)->(∀y,O4' y->O4 y\/w.heap.size<=y)->K t i o' l p' s d' df mf op da why ok w'):
  uV (some ⟨A.x,0,none⟩) z p.tos p.id p.off p.ttl p.proto p.src p.dst p.df p.mf o d w K:=by
 apply JA;refine fP λa w1 r1 e1 z1 f1=> ?_;refine fP λb w2 r2 e2 z2 f2=> ?_;have aq:=r1.ext f2;have x2:=f1.trans f2;refine qg aq ?_;refine Fh (NM _ _ _ _ _ _ _ _ _ _ _ _) ?_;rintro wh w3 f3;have x3:=x2.trans f3;have I:=aq.ext f3;have aa:=r2.ext f3
 cases wh
 rotate_left
 ·rw[cond_true];refine qg I ?_;refine fK aa rfl rfl λw4 r4 f4' z4=> ?_;have f4:fV w3 w4 (·=b):=f4' _ rfl;have x4:Ext w w4:=x3.new f4 λy hy e=>by omega
  refine qg r4 ?_;exact hK _ _ _ _ _ _ _ _ _ _ _ _ _ w4 p O4 (x4 _) ((h.ext x4).more (by omega)) ⟨rfl,rfl,rfl,rfl,rfl,rfl,rfl,rfl,rfl,ho.ext x4,hd.ext x4⟩ (λ_=>⟨by omega,by omega⟩) λy hy=> .inl hy
 rw[cond_false];refine qg I ?_;refine fP λg w4 r4 e4 z4 f4=> ?_;refine fK r4 rfl rfl λw5 r5 f5' z5=> ?_;have f5:fV w4 w5 (·=g):=f5' _ rfl;refine gB (i:=2) r5 rfl (by simp) λw6 r6 f6' z6=> ?_;have f6:fV w5 w6 (·=g):=f6' _ rfl;refine gB (i:=8) r6 rfl (by simp) λw7 r7 f7' z7=> ?_;have f7:fV w6 w7 (·=g):=f7' _ rfl;refine gB (i:=10) r7 rfl (by simp) λw8 r8 f8' z8=> ?_;have f8:fV w7 w8 (·=g):=f8' _ rfl;simp only[List.set_cons_zero,List.set_cons_succ] at r8;have z3:=x3.size;have U:Ext w3 w8:=(((f4.new f5 λy hy e=>by omega).new f6 λy hy e=>by omega).new f7 λy hy e=>by omega).new f8 λy hy e=>by omega
 have xd:Ext w w8.drew:=(x3.trans U).trans (Ext.drew w8);have hd8:=h.ext xd;have Y:=(I.ext U).drew;have r8d:Row w8.drew g (fG p.tos p.id 0 p.ttl p.proto p.src p.dst p.df false o ⟨none,0,0⟩):=r8.drew;refine jc.2 (lU (k:= .ptr) (y:=some ⟨A.t4,0,none⟩) (by rw[fM];exact hd8.c1) ?_);refine qg Y ?_;refine fJ (k:= .int .i64) (i:=2) (x:=p.off) Y rfl (fJ (k:= .bool) (i:=8) (x:=p.mf) Y rfl (fJ (k:= .slice) (i:=10) (x:=d) Y rfl ?_));refine qg r8d ?_;refine jc.2 (lU (k:= .int .i64) (y:=0) (by rw[fM];exact hd8.c40) ?_);refine OQ (ahk _ _ _ _ _ _ _ _ _ _ _ _ _) ?_;rintro ky w9 f9;have h9:=hd8.ext f9;have ab:=Y.ext f9;have aC:=r8d.ext f9;refine⟨by rw[fM];exact h9.c40,rV aC ⟨by rw[fM,ab.cell];rfl,by rw[fM,ab.cell];rfl,by rw[fM,ab.cell];rfl,by rw[fM];exact h9.c1,?_⟩⟩;have x9:=xd.trans f9;have aD:=Gw (w:=w9) ⟨p.tos,p.id,0,p.ttl,p.proto,p.src,p.dst,p.df,false,p.opts,[]⟩ (o:=o) (d:=⟨none,0,0⟩) (ho.ext x9) iF.nil (by simp only;omega) (by simp);refine xE aD ?_;rintro by' j ⟨⟨bl,aE,hbll⟩,f10,_⟩
 have ac:=h9.ext f10;have r110:=ab.ext f10;have ckf:j.cell? (Addr.add ⟨A.x,0,none⟩ 40)=some (.int .i64 0):=by rw[fM];exact ac.c40
 have ck1:j.cell? (Addr.add ⟨A.x,0,none⟩ 1)=some (.pointer (some ⟨A.t4,0,none⟩)):=by rw[fM];exact ac.c1
 have ck10:j.cell? (Addr.add ⟨a,0,none⟩ 10)=some (.slice d.a d.len d.cap):=by rw[fM,r110.cell];rfl
 have ck8:j.cell? (Addr.add ⟨a,0,none⟩ 8)=some (.bool p.mf):=by rw[fM,r110.cell];rfl
 have ck2:j.cell? (Addr.add ⟨a,0,none⟩ 2)=some (.int .i64 p.off):=by rw[fM,r110.cell];rfl
 refine⟨ckf,ck10,ck8,ck2,ck1,xI aE ⟨ckf,ck10,ck8,ck2,ck1,?_⟩⟩;have ah:=x9.trans f10;refine BG (aft ac.j4 (by omega) (hd.ext ah) (by omega) ky p.off p.mf ⟨⟨bl⟩⟩ (by show bl.toArray.size<=_;simp;omega) 0) ?_;rintro ai all done e ae ⟨f11,hj11,ar,aj⟩;have z10:=ah.size;have aF:=ac.aow (by omega) f11 hj11;have fw:fV w ae O4:=ah.fr f11;have nO:∀y,w.heap.size<=y->y<j.heap.size->¬O4 y:=λy hy hy2 hh=>by have:=h.lt 4 y hh;omega
 have r211:Row ae b (fG 0 0 0 0 0 0 0 false false ⟨none,0,0⟩ ⟨none,0,0⟩):=((((aa.ext U).ext (Ext.drew w8)).ext f9).ext f10).fr f11 (nO b (by have:=f1.size;omega) (by have:=(aa.ext (((U.trans (Ext.drew w8)).trans f9).trans f10)).lt;omega));have nown:∀i y,w.heap.size<=y->y<j.heap.size->¬own A (λz=>O4 z\/(j.heap.size<=z/\z<ae.heap.size)) O6 i y:=by
  intro i y hy hy2 hh
  match i,hh with
  |0,hh=>have:=h.lt 0 y hh;omega
  |1,hh=>have:=h.lt 1 y hh;omega
  |2,hh=>have:=h.lt 2 y hh;omega
  |3,hh=>have:=h.lt 3 y hh;omega
  |4,hh=>
   rcases hh with hh|hh
   ·have:=h.lt 4 y hh;omega
   ·omega
  |5,hh=>have:=h.lt 5 y hh;omega
  |(n+6),hh=>exact hh.elim
 have hb1:w.heap.size<=b:=by have:=f1.size;omega
 have hb2:b<j.heap.size:=(aa.ext (((U.trans (Ext.drew w8)).trans f9).trans f10)).lt;have z11:=f11.size;have fin:∀(W:World) (why:Int) (ok:Bool) (P:lS) t i o' l p' s d' df mf op da,Ext ae W->OG W P t i o' l p' s d' df mf op da->(ok=true->P.opts.length<=2^36/\P.data.length<=2^36)->
   iL (fG t i o' l p' s d' df mf op da) W ⟨b,0,none⟩ 0 λu=>gI u ⟨b,0,none⟩ λy0 y1 y2 y3 y4 y5 y6 y7 y8 y9 aG=>K y0 y1 y2 y3 y4 y5 y6 y7 y8 y9 aG why ok u:=by
  intro W why ok P t i o' l p' s d' df mf op da hW hP hp1;refine fK (r211.ext hW) rfl rfl λu I ak z13=> ?_;have f13:fV W u (·=b):=ak _ rfl;refine qg I ?_;have hA:=(aF.ext hW).fr f13 λi y hy e=>nown i y (by omega) (by omega) hy;obtain⟨q1,q2,q3,q4,q5,q6,q7,q8,q9,af,au⟩:=hP;have keep:∀{s:eY} {L:List UInt8},iF W s L->iF u s L:=λhs=>hs.fr f13 λad ha hl hh=>Sz (r211.ext hW) hs ha hl hh;exact hK _ _ _ _ _ _ _ _ _ _ _ why ok u P _ ((fw.trans (hW O4) λ_ _ e=>e).trans f13 λy hy e=>by omega) hA ⟨q1,q2,q3,q4,q5,q6,q7,q8,q9,keep af,keep au⟩ hp1 λy hy=>hy.imp id λhh=>by omega
 intro J;have av:J true:=by
  simp only[J,cond_true];refine Qh (adQ _ _) ?_;rintro rs aw rfl;exact fin aw rs false lS.zero 0 0 0 0 0 0 0 false false ⟨none,0,0⟩ ⟨none,0,0⟩ (Ext.refl _) ⟨rfl,rfl,rfl,rfl,rfl,rfl,rfl,rfl,rfl,iF.nil,iF.nil⟩ (λhh=>by cases hh)
 have aH:done=true->J false:=by
  intro aI;simp only[J,cond_false];obtain⟨al,ax,hall'⟩:=aj aI;refine air ar λsl aw f12 aJ=> ?_;have hll:ai.data.toList.length<=2^39:=by rw[length_toList];exact ar
  refine N7 (Zu aJ (by omega)) ?_;rintro t i o' l p' s d' df mf op da e2 u ⟨_,hP,f13⟩;have aK:=R_ ai.data.toList false;generalize V4.read ai.data.toList false=P at hP aK;obtain⟨rfl,rfl,rfl,rfl,rfl,rfl,rfl,rfl,rfl,af,au⟩:=hP;refine fP λk aL aM e14 z14 f14=> ?_;refine fK aM rfl rfl λay aN am z15=> ?_;have f15:fV aL ay (·=k):=am _ rfl;refine gB (i:=10) aN rfl (by simp) λag Z an z16=> ?_;have f16:fV ay ag (·=k):=an _ rfl;simp only[List.set_cons_zero,List.set_cons_succ] at Z;have Z:Row ag k (fG P.tos P.id P.off P.ttl P.proto P.src P.dst P.df P.mf op all):=Z;have zz:=(f12.trans f13).size;have az:Ext u ag:=(f14.new f15 λy hy e=>by omega).new f16 λy hy e=>by omega
  have g16:=(f12.trans f13).trans az;refine qg Z ?_;have aO:=yj (w:=ag) ⟨P.tos,P.id,P.off,P.ttl,P.proto,P.src,P.dst,P.df,P.mf,P.opts,al⟩ (o:=op) (d:=all) af.1 ax.1 (by simp only;omega) (by simp only;omega);refine uH aO ?_;rintro ce aA ⟨aP,f17⟩;by_cases hc0:ce=0
  ·have ao:(ce !=0)=false:=by rw[hc0];rfl
   rw[ao,cond_false];have aB:=(Am (aP.symm.trans hc0)).2;unfold lS.short at aB;refine qg (Z.ext f17) ?_;exact fin aA 0 true ⟨P.tos,P.id,P.off,P.ttl,P.proto,P.src,P.dst,P.df,P.mf,P.opts,al⟩ _ _ _ _ _ _ _ _ _ op all (g16.trans f17) ⟨rfl,rfl,rfl,rfl,rfl,rfl,rfl,rfl,rfl,af.ext (az.trans f17),ax.ext (g16.trans f17)⟩ (λ_=>by simp only at aB ⊢;omega)
  ·have ao:(ce !=0)=true:=by rw[bne_iff_ne];exact hc0
   rw[ao,cond_true];exact fin aA 1 false lS.zero 0 0 0 0 0 0 0 false false ⟨none,0,0⟩ ⟨none,0,0⟩ (g16.trans f17) ⟨rfl,rfl,rfl,rfl,rfl,rfl,rfl,rfl,rfl,iF.nil,iF.nil⟩ (λhh=>by cases hh)
 clear_value J
 cases (e !=0)
 ·rw[cond_false]
  cases done
  ·exact av
  ·exact aH rfl
 ·exact av
end
end Go.Proofs.AN
end
section
namespace Go.Proofs.AN
open Gp Gp.V4 Go.Proofs Go.Proofs.VN Go.Proofs.JN
section
variable {w0 w w':World}
theorem ak2 (p:lS) {o d:eY} (ho:iF w o p.opts) (hd:iF w d p.data) (h1:p.opts.length<=2^40) (h2:p.data.length<=2^40) {K:Int->Int->Int->Int->Int->Int->Int->Bool->Bool->eY->eY->Bool->b_}
  (hK:∀t i o' l p' s d' df mf op da ok w' (P:lS),Ext w w'->OG w' P t i o' l p' s d' df mf op da->P.opts.length<=2^40->P.data.length<=2^40->K t i o' l p' s d' df mf op da ok w'):
  Jd p.tos p.id p.off p.ttl p.proto p.src p.dst p.df p.mf o d w K:=by
 apply Zq;refine fP λa w1 r1 e1 z1 f1=> ?_;refine fP λb w2 r2 e2 z2 f2=> ?_;have x2:=f1.trans f2;have j:=r1.ext f2;refine fJ (k:= .int .i64) (i:=3) (x:=p.ttl) j rfl ?_;by_cases u:p.ttl<=1
 ·rw[decide_eq_true u,cond_true];refine fK r2 rfl rfl λw3 r3 f3' z3=> ?_;have f3:fV w2 w3 (·=b):=f3' _ rfl;have x3:Ext w w3:=x2.new f3 λy hy e=>by have:=f1.size;omega
  refine qg r3 ?_;exact hK _ _ _ _ _ _ _ _ _ _ _ _ w3 lS.zero x3 ⟨rfl,rfl,rfl,rfl,rfl,rfl,rfl,rfl,rfl,iF.nil,iF.nil⟩ (by simp[lS.zero]) (by simp[lS.zero])
 rw[decide_eq_false u,cond_false];refine fJ (k:= .int .i64) (i:=3) (x:=p.ttl) j rfl ?_;refine gB (i:=3) j rfl (by simp) λw3 r3 f3' z3=> ?_;have f3:fV w2 w3 (·=a):=f3' _ rfl;simp only[List.set_cons_zero,List.set_cons_succ] at r3;have za:=f1.size;have zb:=f2.size;have x3:Ext w w3:=x2.new f3 λy hy e=>by omega
 have r2b:=r2.fr f3 (by omega);have r3d:=r3.drew;have x3d:=x3.trans (Ext.drew w3);refine fJ (k:= .slice) (i:=9) (x:=o) r3d rfl (fJ (k:= .slice) (i:=10) (x:=d) r3d rfl ?_);refine gu (lK (ho.ext x3d) (by omega)) ?_;rintro co w4 ⟨b4,_,f4,n4⟩;refine⟨by rw[fM,(r3d.ext f4).cell];rfl,?_⟩;refine gu (lK ((hd.ext x3d).ext f4) (by omega)) ?_;rintro cd w5 ⟨b5,_,f5,n5⟩;have x5:=(x3d.trans f4).trans f5;have z:=(r3d.ext f4).ext f5;have hal:a<w3.heap.size:=r3.lt;have hbl:b<w3.heap.size:=r2b.lt;have zd:w3.drew.heap.size=w3.heap.size:=rfl;have z4:=f4.size;refine gB (i:=9) z rfl (by simp) λw6 r6 f6' z6=> ?_;have f6:fV w5 w6 (·=a):=f6' _ rfl;refine gB (i:=10) r6 rfl (by simp) λw7 r7 f7' z7=> ?_;have f7:fV w6 w7 (·=a):=f7' _ rfl;simp only[List.set_cons_zero,List.set_cons_succ] at r7;have r7:Row w7 a (fG p.tos p.id p.off (IntKind.i64.wrap (p.ttl - 1)) p.proto p.src p.dst p.df p.mf co cd):=r7;refine qg r7 ?_;have r2c:=((((r2b.drew).ext f4).ext f5).fr f6 (by omega)).fr f7 (by omega);refine fK r2c rfl rfl λw8 r8 f8' z8=> ?_;have f8:fV w7 w8 (·=b):=f8' _ rfl;refine qg r8 ?_;have x8:Ext w w8:=((x5.new f6 λy hy e=>by omega).new f7 λy hy e=>by omega).new f8 λy hy e=>by omega
 have I:iF w8 co p.opts:=iF.jI ((((b4.ext f5).fr f6 λy hy e=>by have:=n4 y hy;omega).fr f7 λy hy e=>by have:=n4 y hy;omega).fr f8 λy hy e=>by have:=n4 y hy;omega);have J:iF w8 cd p.data:=iF.jI (((b5.fr f6 λy hy e=>by have:=n5 y hy;omega).fr f7 λy hy e=>by have:=n5 y hy;omega).fr f8 λy hy e=>by have:=n5 y hy;omega);exact hK _ _ _ _ _ _ _ _ _ _ _ _ w8 ⟨p.tos,p.id,p.off,IntKind.i64.wrap (p.ttl - 1),p.proto,p.src,p.dst,p.df,p.mf,p.opts,p.data⟩ x8 ⟨rfl,rfl,rfl,rfl,rfl,rfl,rfl,rfl,rfl,I,J⟩ h1 h2
def Z_ (n0:Nat) (w:World) (s:eY):Prop:=s.len=0\/(s.len=1/\∃b x,s.a=some ⟨b,0,none⟩/\n0<=b/\Row w b [.int .i64 (-1),.slice (eY.a x) x.len x.cap])
theorem Z_.ext {n0:Nat} {s:eY} (h:Z_ n0 w s) (hf:Ext w w'):Z_ n0 w' s:=by
 rcases h with h|⟨h,b,x,h1,h2,h3⟩
 ·exact .inl h
 ·exact .inr ⟨h,b,x,h1,h2,h3.ext hf⟩
theorem adA (a b c d:Int) (l:List UInt8):(Om a b c d l).opts.length<=2^36/\(Om a b c d l).data.length<=2^36:=by
 unfold Om;split
 ·rename_i h;have hc:(Q_ a b c d l).check=0:=by
   unfold FC at h;split at h
   ·split at h
    ·split at h
     ·assumption
     ·simp at h
    ·simp at h
   ·simp at h
  have:=(Am hc).2;unfold lS.short at this;omega
 ·simp[lS.zero]
theorem ah6 (p:lS) {o d:eY} (ho:iF w o p.opts) (hd:iF w d p.data) (h1:p.opts.length<=2^36) (h2:p.data.length<=2^36):
  xJ p.tos p.id p.off p.ttl p.proto p.src p.dst p.df p.mf o d false w λs w'=>Z_ w.heap.size w' s/\Ext w w':=by
 apply Xf;refine fP λa w1 r1 e1 z1 f1=> ?_;rw[cond_false];intro J;have hJ:∀(b:Nat) (e:Int) W (P:lS) t i o' l p' s d' df mf op da,Ext w1 W->Row W b (fG t i o' l p' s d' df mf op da)->OG W P t i o' l p' s d' df mf op da->P.opts.length<=2^36->P.data.length<=2^36->J ⟨b,0,none⟩ e W:=by
  intro b e W P t i o' l p' s d' df mf op da hW hr hP hp1 hp2;simp only[J]
  cases (e !=0)
  ·rw[cond_false];obtain⟨rfl,rfl,rfl,rfl,rfl,rfl,rfl,rfl,rfl,u,z⟩:=hP;refine qg hr ?_;refine xE (Gw P u z hp1 hp2) ?_;rintro r w2 ⟨_,f2,_⟩;refine fP λk w3 r3 e3 z3 f3=> ?_;refine⟨.inr ⟨rfl,k,r,rfl,?_,r3⟩,((f1.trans hW).trans f2).trans f3⟩;have:=((f1.trans hW).trans f2).size;omega
  ·rw[cond_true];exact⟨.inl rfl,f1.trans hW⟩
 clear_value J;have r1d:=r1.drew;have Z:=(ho.ext f1).ext (Ext.drew w1);have aa:=(hd.ext f1).ext (Ext.drew w1);have dst:p.dst=p.dst:=rfl;refine fJ (k:= .int .i64) (i:=6) (x:=p.dst) r1d rfl (qg r1d ?_);have mk:∀(W:World) (l:List UInt8) (s:eY) {K:Int->Int->Int->Int->Int->Int->Int->Bool->Bool->eY->eY->Int->b_},iF W s l->l.length<=2^38->
   (∀t i o' l p' s d' df mf op da e W' (P:lS),Ext W W'->OG W' P t i o' l p' s d' df mf op da->P.opts.length<=2^36->P.data.length<=2^36->K t i o' l p' s d' df mf op da e W')->oK p.dst 11 0 0 s W K:=by
  intro W l s K hs hl hK;refine V3 (ahN hs (by omega) p.dst 11 0 0) ?_;rintro t i o' l' p' s' d' df mf op da e W' ⟨_,hP,hf⟩;have:=adA p.dst 11 0 0 l;exact hK _ _ _ _ _ _ _ _ _ _ _ _ _ _ hf hP (by omega) (by omega)
 refine⟨?_,?_⟩
 ·refine xE (Gw p Z aa h1 h2) ?_;rintro r w2 ⟨⟨bl,Y,j⟩,f2,_⟩;have I:=r1d.ext f2;refine⟨by rw[fM,I.cell];rfl,?_,?_⟩
  ·refine mk w2 bl r Y j λt i o' l p' s d' df mf op da e w3 P f3 hP hp1 hp2=> ?_;have U:=I.ext f3;refine fP λk w4 r4 e4 z4 f4=> ?_;have ab:=U.ext f4;refine rV ab ⟨by rw[fM,ab.cell];rfl,?_⟩;refine fK r4 rfl rfl λw5 r5 f5' z5=> ?_;have f5:fV w4 w5 (·=k):=f5' _ rfl;have x5:Ext w3 w5:=f4.new f5 λy hy e=>by omega
   obtain⟨q1,q2,q3,q4,q5,q6,q7,q8,q9,u,z⟩:=hP;exact hJ k e w5 P _ _ _ _ _ _ _ _ _ _ _ ((((Ext.drew w1).trans f2).trans f3).trans x5) r5 ⟨q1,q2,q3,q4,q5,q6,q7,q8,q9,u.ext x5,z.ext x5⟩ hp1 hp2
  ·refine fP λk w3 r3 e3 z3 f3=> ?_;have U:=I.ext f3;refine rV U ⟨by rw[fM,U.cell];rfl,?_⟩;refine mk w3 bl r (Y.ext f3) j λt i o' l p' s d' df mf op da e w4 P f4 hP hp1 hp2=> ?_;refine fK (r3.ext f4) rfl rfl λw5 r5 f5' z5=> ?_;have f5:fV w4 w5 (·=k):=f5' _ rfl;have x5:Ext w1 w5:=((((Ext.drew w1).trans f2).trans f3).trans f4).new f5 λy hy e=>by have:=((Ext.drew w1).trans f2).size;omega
   obtain⟨q1,q2,q3,q4,q5,q6,q7,q8,q9,u,z⟩:=hP;have keep:∀{s:eY} {L:List UInt8},iF w4 s L->iF w5 s L:=λhs=>hs.fr f5 λad ha hl hh=>Sz (r3.ext f4) hs ha hl hh;exact hJ k e w5 P _ _ _ _ _ _ _ _ _ _ _ x5 r5 ⟨q1,q2,q3,q4,q5,q6,q7,q8,q9,keep u,keep z⟩ hp1 hp2
 ·refine fP λk w2 r2 e2 z2 f2=> ?_;have I:=r1d.ext f2;refine rV I ⟨by rw[fM,I.cell];rfl,?_⟩;refine xE (Gw p (Z.ext f2) (aa.ext f2) h1 h2) ?_;rintro r w3 ⟨⟨bl,Y,j⟩,f3,_⟩;have U:=I.ext f3;refine⟨by rw[fM,U.cell];rfl,?_⟩;refine mk w3 bl r Y j λt i o' l p' s d' df mf op da e w4 P f4 hP hp1 hp2=> ?_;have ac:=(r2.ext f3).ext f4;refine fK ac rfl rfl λw5 r5 f5' z5=> ?_;have f5:fV w4 w5 (·=k):=f5' _ rfl;have x5:Ext w1 w5:=((((Ext.drew w1).trans f2).trans f3).trans f4).new f5 λy hy e=>by have:w1.drew.heap.size=w1.heap.size:=rfl;omega
  obtain⟨q1,q2,q3,q4,q5,q6,q7,q8,q9,u,z⟩:=hP;have keep:∀{s:eY} {L:List UInt8},iF w4 s L->iF w5 s L:=λhs=>hs.fr f5 λad ha hl hh=>Sz ac hs ha hl hh;exact hJ k e w5 P _ _ _ _ _ _ _ _ _ _ _ x5 r5 ⟨q1,q2,q3,q4,q5,q6,q7,q8,q9,keep u,keep z⟩ hp1 hp2
end
end Go.Proofs.AN
end
section
namespace Go.Proofs.AN
open Gp Gp.V4 Go.Proofs Go.Proofs.VN Go.Proofs.JN
section
variable {w0 w w':World}
theorem rd4 {W:World} {a:Nat} {x0 x1 x2:Int} {x3:eY} {K:Int->Int->Int->eY->b_} (hr:Row W a [.int .i64 x0,.int .i64 x1,.int .i64 x2,.slice x3.a x3.len x3.cap]) (hq:K x0 x1 x2 x3 W):
  Ld (.int .i64) W (Addr.add ⟨a,0,none⟩ 0) λy0=>Ld (.int .i64) W (Addr.add ⟨a,0,none⟩ 1) λy1=>Ld (.int .i64) W (Addr.add ⟨a,0,none⟩ 2) λy2=>Ld .slice W (Addr.add ⟨a,0,none⟩ 3) λy3=>K y0 y1 y2 y3 W:=
 fJ (k:= .int .i64) (i:=0) (x:=x0) hr rfl (fJ (k:= .int .i64) (i:=1) (x:=x1) hr rfl (fJ (k:= .int .i64) (i:=2) (x:=x2) hr rfl (fJ (k:= .slice) (i:=3) (x:=x3) hr rfl hq)))
theorem six {W:World} {s:eY} {l:List UInt8} (hs:iF W s l) {i:Nat} {u:UInt8} (hi:l[i]? =some u) {K:Addr->Prop} (hK:∀a,W.cell? a=some (.int .u8 u.toNat)->K a):iP s 1 (i:Int) K:=by
 obtain⟨a,ha,hc⟩:=hs.at_ hi;refine⟨a,ha,by omega,by have:=hs.1;have:=(List.getElem?_eq_some_iff.1 hi).1;omega,?_⟩;rw[Int.toNat_natCast,Nat.mul_one];exact hK _ hc
theorem akn {W:World} {s:eY} {vs:List Value} (h:Buf W s vs) {ad:Addr} (ha:s.a=some ad):eY.at s ad.block:=by
 obtain⟨_,⟨hn,_⟩|⟨b,pad,hb,_⟩⟩:=h
 ·rw[hn] at ha;cases ha
 ·rw[hb] at ha;cases ha;exact⟨0,hb⟩
theorem Nz (x:Int) {b:Nat} {l:List Int} (hr:Row w b (l.map λn=>Value.int .i64 n)) (hl:l.length<=100):wI x ⟨some ⟨b,0,none⟩,l.length,l.length⟩ w λ_ w'=>w'=w:=by
 apply Ox;refine iO (KN hr rfl l.length l.length rfl hl x) ?_;rintro r w1 ⟨_,hw⟩;exact hw
theorem Zw (x:Int) (w:World):qN x w λ_ w'=>Ext w w':=by
 apply Ul;refine fP λa w1 r1 e1 z1 f1=> ?_;refine NY (Nz x (l:=[0,8]) r1 (by simp)) ?_;rintro r w2 rfl;exact f1
theorem ac9 (x:Int) (w:World):oP x w λ_ w'=>Ext w w':=by
 apply IQ;refine fP λa w1 r1 e1 z1 f1=> ?_;refine NY (Nz x (l:=[3,4,5,11,12]) r1 (by simp)) ?_;rintro r w2 rfl;exact f1
theorem QV {s:eY} {l:List UInt8} (hs:iF w s l) (hl:l.length<=2^40) {K:Int->Int->Int->eY->Int->b_}
  (hK:∀k c r d e w' (m:List UInt8),Ext w w'->iF w' d m->m.length<=2^40->K k c r d e w'):yY s w K:=by
 apply Uk;refine fP λa w1 r1 e1 z1 f1=> ?_;have hlen:=hs.1;have fin:∀(W:World) k c r (d:eY) e (m:List UInt8),Ext w1 W->iF W d m->m.length<=2^40->(∀ad,d.a=some ad->0<m.length->¬ad.block=a)->
   iL [.int .i64 k,.int .i64 c,.int .i64 r,.slice d.a d.len d.cap] W ⟨a,0,none⟩ 0 λw4=>Ld (.int .i64) w4 (Addr.add ⟨a,0,none⟩ 0) λy0=>Ld (.int .i64) w4 (Addr.add ⟨a,0,none⟩ 1) λy1=>Ld (.int .i64) w4 (Addr.add ⟨a,0,none⟩ 2) λy2=>Ld .slice w4 (Addr.add ⟨a,0,none⟩ 3) λy3=>K y0 y1 y2 y3 e w4:=by
  intro W k c r d e m hW hd hm hn;refine fK (r1.ext hW) rfl rfl λw4 r4 f4' z4=> ?_;have f4:fV W w4 (·=a):=f4' _ rfl;refine rd4 (K:=λy0 y1 y2 y3 w=>K y0 y1 y2 y3 e w) r4 ?_;exact hK k c r d e w4 m ((f1.trans hW).new f4 λy hy e=>by omega) (hd.fr f4 λad ha h0 e=>hn ad ha h0 e) hm
 by_cases c1:(s.len:Int)<8
 ·rw[decide_eq_true c1,cond_true];exact fin w1 0 0 0 ⟨none,0,0⟩ 3 [] (Ext.refl _) iF.nil (by simp) (by intro ad h;cases h)
 rw[decide_eq_false c1,cond_false];by_cases c2:(s.len:Int)>65535
 ·rw[decide_eq_true c2,cond_true];exact fin w1 0 0 0 ⟨none,0,0⟩ 6 [] (Ext.refl _) iF.nil (by simp) (by intro ad h;cases h)
 rw[decide_eq_false c2,cond_false];refine fP λb w2 r2 e2 z2 f2=> ?_;have hs2:=(hs.ext f1).ext f2;refine zh (G5 (GY r2 hs2) (by simp) (by simp;omega)) ?_;rintro rt w3 ⟨_,f3⟩;have x3:=f2.trans f3
 cases rt
 ·exact fin w3 0 0 0 ⟨none,0,0⟩ 5 [] x3 iF.nil (by simp) (by intro ad h;cases h)
 rw[Bool.not_true,cond_false];have hs3:=hs2.ext f3;refine GH (WT hs3 (by omega) 4 4) ?_;rintro n e w4 ⟨hw,_⟩;subst hw;have j:=hs3.ext (Ext.drew w4);have b0:=getElem?_eq_getElem (show 0<l.length by omega);have b1:=getElem?_eq_getElem (show 1<l.length by omega);generalize l[0]=u0 at b0;generalize l[1]=u1 at b1;refine six (i:=0) j b0 λa0 h0=> ?_;refine lU (k:= .int .u8) (y:=(u0.toNat:Int)) h0 ?_;refine six (i:=1) j b1 λa1 h1=> ?_;refine lU (k:= .int .u8) (y:=(u1.toNat:Int)) h1 ?_;refine mF j (by omega) (by omega) (by omega) λs' hs' _=> ?_;refine gu (lK hs' (by simp;omega)) ?_;rintro cd w5 ⟨b5,_,f5,n5⟩;refine⟨yh h1 f5,yh h0 f5,?_⟩;refine fin w5 _ _ _ cd 0 _ ((x3.trans (Ext.drew w4)).trans f5) (iF.jI b5) (by simp;omega) λad ha h0' e=> ?_;have:=n5 ad.block (akn b5 ha);have:=r1.lt;have:=x3.size;have:w4.drew.heap.size=w4.heap.size:=rfl;omega
end
end Go.Proofs.AN
end
section
namespace Go.Proofs.AN
open Gp Gp.V4 Go.Proofs Go.Proofs.VN Go.Proofs.JN
open Gp.Bind (In64)
section
variable {w0 w w':World}
theorem PO {W:World} {b:Nat} {vs:List Value} (hr:Row W b vs) (hv:∀v∈vs,∀n,v≠.int .u8 n) {s:eY} {L:List UInt8} (hs:iF W s L) {ad:Addr} (ha:s.a=some ad) (hl:0<L.length):¬ad.block=b:=by
 intro e;obtain⟨x,hx⟩:∃x,L[0]? =some x:=⟨_,getElem?_eq_getElem hl⟩;obtain⟨a',ha',hc⟩:=hs.at_ hx;rw[ha] at ha'
 cases ha'
 obtain⟨T,hT⟩:=hr;obtain⟨bk,off,pth⟩:=ad;simp only at e;subst e;have h0:(Addr.add ⟨bk,off,pth⟩ 0)=⟨bk,off,pth⟩:=by simp[Addr.add]
 rw[h0] at hc;simp only[World.cell?,hT] at hc;split at hc
 ·cases hc
 ·rw[getElem?_toArray] at hc;exact hv _ (List.mem_of_getElem? hc) _ rfl
instance (n:Int):Decidable (In64 n):=inferInstanceAs (Decidable (_/\_))
theorem aaX (l:List UInt8) (i k:Nat) (hk:k<=4):In64 (num l i k:Int):=by
 have h1:=Rt ((l.drop i).take k);have h2:(256:Nat)^((l.drop i).take k).length<=256^4:=Nat.pow_le_pow_right (by omega) (by simp;omega);unfold In64 num;omega
theorem U5 {l:List UInt8} {i k n e:Int} (h:QS l i k n e) (hk:k<=4):In64 n:=by
 unfold QS at h;split at h
 ·rw[h.2];unfold In64;omega
 ·split at h
  ·rw[h.2];unfold In64;omega
  ·rw[h.2];exact aaX l _ _ (by omega)
theorem wrap_in (x:Int):In64 (IntKind.i64.wrap x):=by
 have key:∀m:Int,0<=m->m<18446744073709551616->∀q:Bool,(q=true↔m>=9223372036854775808)->In64 (if q=true then m - 18446744073709551616 else m):=by
  intro m h0 h1 q hq;unfold In64;by_cases h:q=true
  ·rw[if_pos h];have:=hq.1 h;omega
  ·rw[if_neg h];have:¬m>=9223372036854775808:=λhh=>h (hq.2 hh);omega
 exact key (x % 18446744073709551616) (by omega) (by omega) (true && decide (x % 18446744073709551616>=9223372036854775808)) (by simp)
theorem PW (l:List UInt8) (j:Nat):In64 ((wordAt l j:Nat):Int):=by
 have:=Vt l j;unfold In64;omega
theorem W9 (x k:Int) (hk:0<=k/\k<=4) (w:World):uz x k w λ_ w'=>w'=w:=by
 apply aa1;refine⟨?_,rfl⟩;rw[wrap_i64 (by omega) (by omega)];omega
theorem Vm (a b c d:Int) (w:World):qR a b c d w λr w'=>(∃l:List UInt8,iF w' r l/\l.length<=100)/\Ext w w':=by
 apply Uw;refine D8 (W9 _ _ (by omega) w) ?_;rintro r1 w1 rfl;refine pG (AU iF.nil (by simp) r1 4) ?_;rintro s1 w2 ⟨b2,f2,_⟩;refine D8 (W9 _ _ (by omega) w2) ?_;rintro r2 w3 rfl;have l2:(nI [] r1 4).length<=0+4:=LU [] r1 4;refine pG (AU (iF.jI b2) (by omega) r2 4) ?_;rintro s3 w4 ⟨b4,f4,_⟩;refine D8 (W9 _ _ (by omega) w4) ?_;rintro r3 w5 rfl;have l4:(nI (nI [] r1 4) r2 4).length<=(nI [] r1 4).length+4:=LU _ r2 4;refine pG (AU (iF.jI b4) (by omega) r3 2) ?_;rintro s5 w6 ⟨b6,f6,_⟩;refine D8 (W9 _ _ (by omega) w6) ?_;rintro r4 w7 rfl;have l6:(nI (nI (nI [] r1 4) r2 4) r3 2).length<=(nI (nI [] r1 4) r2 4).length+2:=LU _ r3 2;refine pG (AU (iF.jI b6) (by omega) r4 2) ?_;rintro s7 w8 ⟨b8,f8,_⟩;have l8:(nI (nI (nI (nI [] r1 4) r2 4) r3 2) r4 2).length<=(nI (nI (nI [] r1 4) r2 4) r3 2).length+2:=LU _ r4 2;exact⟨⟨_,iF.jI b8,by omega⟩,((f2.trans f4).trans f6).trans f8⟩
theorem half (i:Nat) (h:i<4):IntKind.i64.wrap (Int.tdiv ((2 * i:Nat):Int) 2)=(i:Int):=by
 have:i=0\/i=1\/i=2\/i=3:=by omega
 rcases this with rfl|rfl|rfl|rfl<;>decide
theorem Vj {b:Nat} {s s':eY} {l l':List UInt8} (h:Row w b [.slice s.a s.len s.cap,.slice s'.a s'.len s'.cap]) (hs:iF w s l) (hs':iF w s' l'):Parts w ⟨some ⟨b,0,none⟩,2,2⟩ [(s,l),(s',l')]:=by
 refine⟨rfl,λi p hi=> ?_⟩
 match i,hi with
 |0,hi=>simp at hi;subst hi;exact⟨b,0,rfl,by rw[h.cell];rfl,hs⟩
 |1,hi=>simp at hi;subst hi;exact⟨b,0,rfl,by rw[h.cell];rfl,hs'⟩
 |(n+2),hi=>simp at hi
theorem abp (sa da:Int) {s:eY} {l:List UInt8} (hs:iF w s l) (hl:l.length<=2^40) {K:Int->Int->Bool->eY->Int->b_}
  (hK:∀a b c d e w',Ext w w'->In64 a->In64 b->K a b c d e w'):EY sa da s w K:=by
 apply Xt;refine fP λa w1 r1 e1 z1 f1=> ?_;have hlen:=hs.1;have rdk:∀{W:World} {x0 x1:Int} {x2:Bool} {x3:eY} {e:Int},In64 x0->In64 x1->Ext w W->Row W a [.int .i64 x0,.int .i64 x1,.bool x2,.slice x3.a x3.len x3.cap]->
   Ld (.int .i64) W (Addr.add ⟨a,0,none⟩ 0) λy0=>Ld (.int .i64) W (Addr.add ⟨a,0,none⟩ 1) λy1=>Ld .bool W (Addr.add ⟨a,0,none⟩ 2) λy2=>Ld .slice W (Addr.add ⟨a,0,none⟩ 3) λy3=>K y0 y1 y2 y3 e W:=by
  intro W x0 x1 x2 x3 e i0 i1 hx hr;exact fJ (k:= .int .i64) (i:=0) (x:=x0) hr rfl (fJ (k:= .int .i64) (i:=1) (x:=x1) hr rfl (fJ (k:= .bool) (i:=2) (x:=x2) hr rfl (fJ (k:= .slice) (i:=3) (x:=x3) hr rfl (hK _ _ _ _ _ _ hx i0 i1))))
 by_cases c1:(s.len:Int)<8
 ·rw[decide_eq_true c1,cond_true];refine fK r1 rfl rfl λw4 r4 f4' z4=> ?_;have f4:fV w1 w4 (·=a):=f4' _ rfl;exact rdk (x3:=⟨none,0,0⟩) (by decide) (by decide) (f1.new f4 λy hy e=>by omega) r4
 rw[decide_eq_false c1,cond_false];refine fP λg w2 r2 e2 z2 f2=> ?_;have x2:=f1.trans f2;have hs2:=hs.ext x2;refine mF hs2 (by omega) (by omega) (by omega) λs' hs' _=> ?_;apply Ou;refine⟨rfl,fP λk w3 r3 e3 z3 f3=> ?_⟩;have hs3:=hs'.ext f3;have hl8:((l.take (8:Int).toNat).drop (0:Int).toNat).length=8:=by simp;omega
 generalize (l.take (8:Int).toNat).drop (0:Int).toNat=l8 at hs3 hl8;have x3:=x2.trans f3;have ha3:a<w3.heap.size:=((r1.ext f2).ext f3).lt;have hg3:g<w3.heap.size:=(r2.ext f3).lt;have wl:(wB l8).length=4:=by rw[XQ,hl8]
 have Z:=hs.ext x3;refine tN (SQ (s:=s') (f0:=k) (l:=l8) (by omega)) (λi Y=>(∃v0 v1 v2 v3:Int,(In64 v0/\In64 v1/\In64 v2/\In64 v3)/\Row Y g [.int .i64 v0,.int .i64 v1,.int .i64 v2,.int .i64 v3])/\fV w3 Y (·=g)) (λ_ _=>False) (by simp) ?_ ?_ ?_ (by intro e W W' h;exact h.elim) (by intro e W h;exact h.elim) ?_ ?_ (by intro W h;exact h.elim) (by intro id W h;exact h.elim)
 ·intro Y hY _;exact⟨⟨0,0,0,0,by decide,(r2.ext f3).ext hY⟩,hY _⟩
 ·rintro i Y ⟨_,hf⟩;exact⟨r3.fr hf (by omega),hs3.fr hf λad ha h0 e=>PO (r2.ext f3) (by simp) hs3 ha h0 e⟩
 ·rintro i Y Y' ⟨⟨v0,v1,v2,v3,hv,hr⟩,hf⟩ hf';have:jU none w3=w3.heap.size+1:=rfl;exact⟨⟨v0,v1,v2,v3,hv,hr.fr hf' (by omega)⟩,hf.trans hf' λy hy e=>by omega⟩
 ·rintro i x Y Kb hx ⟨⟨v0,v1,v2,v3,⟨j0,j1,j2,j3⟩,hr⟩,hf⟩ hlt hk _;have hi:i<4:=by rw[<- wl];exact(List.getElem?_eq_some_iff.1 hx).1
  rw[abq l8 (by omega)] at hx
  cases hx
  refine⟨rfl,by omega,?_⟩;simp only;rw[half i hi];refine⟨by omega,by omega,?_⟩;rw[Int.toNat_natCast,Nat.mul_one,fM,Nat.zero_add];have fb:=fV.fF Y (jU none w3);have hlw:jU none w3=w3.heap.size+1:=rfl;have ae:=hr.fr fb (by omega);refine gB (i:=i) ae rfl (by simp;omega) λw5 r5 f5' z5=> ?_;have f5:fV (fF Y (jU none w3)) w5 (·=g):=f5' _ rfl;refine hk w5 (·=g) f5 (λy e=>by omega) ⟨?_,(hf.trans fb λy hy e=>by omega).trans f5 λy _ e=>e⟩;have:i=0\/i=1\/i=2\/i=3:=by omega
  rcases this with rfl|rfl|rfl|rfl<;>(simp only[List.set_cons_zero,List.set_cons_succ] at r5;exact⟨_,_,_,_,⟨by first|assumption|exact PW _ _,by first|assumption|exact PW _ _,by first|assumption|exact PW _ _,by first|assumption|exact PW _ _⟩,r5⟩)
 rintro Y ⟨⟨v0,v1,v2,v3,⟨j0,j1,_,_⟩,hr⟩,hf⟩ hm;have aa:=hm rfl;have u:=hr.drew;have hYs:w3.heap.size<Y.heap.size:=(Array.getElem?_eq_some_iff.1 aa).1;have z:fV w3 Y.drew (·=g):=hf.ext (Ext.drew Y);have xY:Ext w Y.drew:=x3.new z λy hy e=>by omega
 have ra:Row Y.drew a _:=((r1.ext f2).ext f3).fr z (by omega);have I:Y.drew.heap[w3.heap.size]? =some (.deferred (some [])):=aa;have ab:iF Y.drew s l:=Z.fr z λad ha h0 e=>PO (r2.ext f3) (by simp) Z ha h0 e;have fin:∀(W:World) (x0 x1:Int) (x2:Bool) (x3:eY) (e:Int),In64 x0->In64 x1->Ext Y.drew W->
   iL [.int .i64 x0,.int .i64 x1,.bool x2,.slice x3.a x3.len x3.cap] W ⟨a,0,none⟩ 0 λj=>j.heap[w3.heap.size]? =some (.deferred (some []))/\
    Ld (.int .i64) (j.putObj w3.heap.size (.deferred none)) (Addr.add ⟨a,0,none⟩ 0) λy0=>Ld (.int .i64) (j.putObj w3.heap.size (.deferred none)) (Addr.add ⟨a,0,none⟩ 1) λy1=>Ld .bool (j.putObj w3.heap.size (.deferred none)) (Addr.add ⟨a,0,none⟩ 2) λy2=>
     Ld .slice (j.putObj w3.heap.size (.deferred none)) (Addr.add ⟨a,0,none⟩ 3) λy3=>K y0 y1 y2 y3 e (j.putObj w3.heap.size (.deferred none)):=by
  intro W x0 x1 x2 x3' e i0 i1 hW;refine fK (ra.ext hW) rfl rfl λw5 r5 f5' z5=> ?_;have f5:fV W w5 (·=a):=f5' _ rfl;have zW:=hW.size;have hYd:Y.drew.heap.size=Y.heap.size:=rfl;refine⟨?_,?_⟩
  ·rw[f5.same _ (by omega) (by omega),(hW λ_=>False).same _ (by omega) (by simp)];exact I
  ·have fp:=fV.jh w5 w3.heap.size (.deferred none);have zx:=x3.size;exact rdk (x3:=x3') i0 i1 (((xY.trans hW).new f5 λy hy e=>by omega).new fp λy hy e=>by omega) (r5.fr fp (by omega))
 refine⟨by omega,by omega,?_⟩;refine fJ (k:= .int .i64) (i:=2) (x:=v2) u rfl ?_;refine⟨by omega,by omega,?_⟩;refine fJ (k:= .int .i64) (i:=3) (x:=v3) u rfl ?_;by_cases c2:v2<8
 ·rw[decide_eq_true c2,cond_true];exact fin Y.drew 0 0 false ⟨none,0,0⟩ 4 (by decide) (by decide) (Ext.refl _)
 rw[decide_eq_false c2,cond_false];by_cases c3:v2>(s.len:Int)
 ·rw[decide_eq_true c3,cond_true];exact fin Y.drew 0 0 false ⟨none,0,0⟩ 3 (by decide) (by decide) (Ext.refl _)
 rw[decide_eq_false c3,cond_false];by_cases c4:v2<(s.len:Int)
 ·rw[decide_eq_true c4,cond_true];exact fin Y.drew 0 0 false ⟨none,0,0⟩ 4 (by decide) (by decide) (Ext.refl _)
 rw[decide_eq_false c4,cond_false];intro J;have af:∀W,Ext Y.drew W->J true W:=λW hW=>by
  simp only[J,cond_true];exact fin W 0 0 false ⟨none,0,0⟩ 5 (by decide) (by decide) hW
 have ac:∀W,Ext Y.drew W->J false W:=λW hW=>by
  simp only[J,cond_false];have U:=(u.ext hW).drew;refine⟨by omega,by omega,?_⟩;refine fJ (k:= .int .i64) (i:=0) (x:=v0) U rfl ?_;refine⟨by omega,by omega,?_⟩;refine fJ (k:= .int .i64) (i:=1) (x:=v1) U rfl ?_;refine mF ((ab.ext hW).ext (Ext.drew W)) (by omega) (by omega) (by omega) λs9 hs9 _=> ?_;refine gu (lK hs9 (by simp;omega)) ?_;rintro cd w5 ⟨_,_,f5,_⟩;have hr5:=U.ext f5;refine⟨by rw[show Int.toNat 1 * 1=1 from rfl,fM,hr5.cell];rfl,by rw[show Int.toNat 0 * 1=0 from rfl,fM,hr5.cell];rfl,?_⟩;exact fin w5 v0 v1 (v3==0) cd 0 j0 j1 ((hW.trans (Ext.drew W)).trans f5)
 clear_value J
 cases (v3 !=0)
 ·exact ac _ (Ext.refl _)
 ·rw[cond_true];refine IB (Vm sa da 17 v2 _) ?_;rintro ps w5 ⟨⟨pl,ag,hpll⟩,f5⟩;refine fP λm w6 r6 e6 z6 f6=> ?_;refine zh (G5 (Vj r6 (ag.ext f6) ((ab.ext f5).ext f6)) (by simp) (by simp;omega)) ?_;rintro rt w7 ⟨_,f7⟩
  cases rt
  ·exact af w7 ((f5.trans f6).trans f7)
  ·exact ac w7 ((f5.trans f6).trans f7)
end
end Go.Proofs.AN
end
section
namespace Go.Proofs.AN
open Gp Gp.V4 Go.Proofs Go.Proofs.VN Go.Proofs.JN
open Gp.Bind (In64)
section
variable {w0 w w':World}
theorem aeE {W:World} {b:Nat} {vs:List Value} (hr:Row W b vs) (hv:∀v∈vs,∀n,v≠.int .u8 n) {ad:Addr} {n:Int} (hc:W.cell? ad=some (.int .u8 n)):¬ad.block=b:=by
 intro e;obtain⟨T,hT⟩:=hr;obtain⟨bk,off,pth⟩:=ad;simp only at e;subst e;simp only[World.cell?,hT] at hc;split at hc
 ·cases hc
 ·rw[getElem?_toArray] at hc;exact hv _ (List.mem_of_getElem? hc) _ rfl
theorem alu {W:World} {a:Nat} {x0 x1 x2 x3 x4 x5 x6 x7:Int} {x8 x9:eY} {Q:Int->Int->Int->Int->Int->Int->Int->Int->eY->eY->Prop} (hr:Row W a (xG x0 x1 x2 x3 x4 x5 x6 x7 x8 x9)) (hq:Q x0 x1 x2 x3 x4 x5 x6 x7 x8 x9):Ip W ⟨a,0,none⟩ Q:=by
 simp only[sx,hr.cell];exact hq
theorem G6 {W:World} {a:Nat} {s:eY} {l:List UInt8} (hr:Row W a [.slice s.a s.len s.cap]) (hs:iF W s l) (hl:l.length<=2^40) (i k:Int) (hk:k<=4) {K:Value->b_} (hK:∀n:Int,In64 n->K (.int .i64 n) W):
  iY Tryz.prog [.one (.int .i64)] (Value.func (.func 319) #[] #[(Value.pointer (some ⟨a,0,none⟩))]) [.int .i64 i,.int .i64 k] W K:=by
 refine CN.sQ (by kernel_rfl) ?_;refine Calls.mono (RS (a0:=i) (a1:=k) (f0:=⟨a,0,none⟩) (w:=W) (K:=λn W'=>In64 n/\W'=W) ?_) ?_
 ·refine fJ (k:= .slice) (i:=0) (x:=s) hr rfl ?_;refine GH (WT hs (by omega) i k) ?_;rintro n e w1 ⟨hw,hg⟩;exact⟨U5 hg hk,hw⟩
 ·rintro e W' ⟨n,he,hn,rfl⟩;exact⟨n,he,hK n hn⟩
theorem abo (sa da:Int) {s:eY} {l:List UInt8} (hs:iF w s l) (hl:l.length<=2^40) {K:Int->Int->Int->Int->Int->Int->Int->Int->eY->eY->Int->b_}
  (hK:∀a b c d e f g h i j r w',Ext w w'->In64 a->In64 b->K a b c d e f g h i j r w'):EX sa da s w K:=by
 apply Xr;refine⟨rfl,fP λa w1 r1 e1 z1 f1=> ?_⟩;refine fP λb w2 r2 e2 z2 f2=> ?_;have u:=r1.ext f2;have x2:=f1.trans f2;have hs2:=hs.ext x2;have hlen:=hs.1;have za:=f1.size;have fin:∀(W:World) x0 x1 x2' x3 x4 x5 x6 x7 x8 x9 (r:Int),In64 x0->In64 x1->Ext w2 W->iL (xG x0 x1 x2' x3 x4 x5 x6 x7 x8 x9) W ⟨b,0,none⟩ 0 λw9=>Ip w9 ⟨b,0,none⟩ λy0 y1 y2 y3 y4 y5 y6 y7 y8 y9=>K y0 y1 y2 y3 y4 y5 y6 y7 y8 y9 r w9:=by
  intro W x0 x1 x2' x3 x4 x5 x6 x7 x8 x9 r i0 i1 hW;refine fK (r2.ext hW) rfl rfl λw9 r9 f9' z9=> ?_;have f9:fV W w9 (·=b):=f9' _ rfl;refine alu r9 ?_;exact hK _ _ _ _ _ _ _ _ _ _ r w9 ((x2.trans hW).new f9 λy hy e=>by omega) i0 i1
 have ld:∀{W:World} {Q:eY->Prop},Ext w2 W->Q s->Ld .slice W ⟨a,0,none⟩ Q:=λhW hq=>fJ (k:= .slice) (i:=0) (x:=s) (u.ext hW) rfl hq;refine ld (Ext.refl _) ?_;by_cases c1:(s.len:Int)<20
 ·rw[decide_eq_true c1,cond_true];exact fin w2 0 0 0 0 0 0 0 0 ⟨none,0,0⟩ ⟨none,0,0⟩ 3 (by decide) (by decide) (Ext.refl _)
 rw[decide_eq_false c1,cond_false];have U:=getElem?_eq_getElem (show 12<l.length by omega);have ah:=getElem?_eq_getElem (show 13<l.length by omega);generalize l[12]=Y at U;generalize l[13]=ai at ah;refine ld (Ext.refl _) ?_;refine six (i:=12) hs2 U λa12 an=> ?_;refine lU (k:= .int .u8) (y:=(Y.toNat:Int)) an ⟨by omega,?_⟩;generalize hhd:IntKind.i64.wrap (IntKind.i64.wrap (jy .u8 (Y.toNat:Int) 4) * 4)=hd;by_cases c2:hd<20
 ·rw[decide_eq_true c2,cond_true];exact fin w2 0 0 0 0 0 0 0 0 ⟨none,0,0⟩ ⟨none,0,0⟩ 4 (by decide) (by decide) (Ext.refl _)
 rw[decide_eq_false c2,cond_false];refine ld (Ext.refl _) ?_;by_cases c3:hd>(s.len:Int)
 ·rw[decide_eq_true c3,cond_true];exact fin w2 0 0 0 0 0 0 0 0 ⟨none,0,0⟩ ⟨none,0,0⟩ 3 (by decide) (by decide) (Ext.refl _)
 rw[decide_eq_false c3,cond_false];refine ld (Ext.refl _) ?_;by_cases c4:(s.len:Int)>65535
 ·rw[decide_eq_true c4,cond_true];exact fin w2 0 0 0 0 0 0 0 0 ⟨none,0,0⟩ ⟨none,0,0⟩ 6 (by decide) (by decide) (Ext.refl _)
 rw[decide_eq_false c4,cond_false];refine ld (Ext.drew w2) (ld (Ext.drew w2) ?_);refine IB (Vm sa da 6 _ _) ?_;rintro ps w3 ⟨⟨pl,ao,hpll⟩,f3⟩;have g3:=(Ext.drew w2).trans f3;refine⟨by rw[(u.ext g3).cell];rfl,?_⟩;refine fP λm w4 r4 e4 z4 f4=> ?_;have g4:=g3.trans f4;refine zh (G5 (Vj r4 (ao.ext f4) (hs2.ext g4)) (by simp) (by simp;omega)) ?_;rintro rt w5 ⟨_,f5⟩;have g5:=g4.trans f5
 cases rt
 ·exact fin w5 0 0 0 0 0 0 0 0 ⟨none,0,0⟩ ⟨none,0,0⟩ 5 (by decide) (by decide) g5
 rw[Bool.not_true,cond_false];have hs5:=hs2.ext g5;have J:=u.ext g5;refine G6 J hs5 hl 0 2 (by omega) λn0 in0=>⟨n0,rfl,?_⟩;refine G6 J hs5 hl 2 2 (by omega) λn1 in1=>⟨n1,rfl,?_⟩;refine G6 J hs5 hl 4 4 (by omega) λn2 in2=>⟨n2,rfl,?_⟩;refine G6 J hs5 hl 8 4 (by omega) λn3 in3=>⟨n3,rfl,?_⟩;refine fP λk w6 r6 e6 z6 f6=> ?_;refine fK r6 rfl rfl λw7 r7 f7' z7=> ?_;have f7:fV w6 w7 (·=k):=f7' _ rfl;have aj:Ext w5 w7:=f6.new f7 λy hy e=>by omega
 have g7:=(g5.trans aj).trans (Ext.drew w7);have hs7:=hs2.ext g7;have ak:=u.ext g7;refine ld g7 ?_;refine six (i:=12) hs7 U λp12 Z=> ?_;refine lU (k:= .int .u8) (y:=(Y.toNat:Int)) Z (ld g7 ?_);refine six (i:=13) hs7 ah λaq z=> ?_;refine lU (k:= .int .u8) (y:=(ai.toNat:Int)) z ?_;have ca:∀{W:World},Ext w2 W->W.cell? ⟨a,0,none⟩=some (.slice s.a s.len s.cap):=λhW=>by rw[(u.ext hW).cell];rfl
 refine G6 ak hs7 hl 14 2 (by omega) λn4 in4=>⟨n4,rfl,z,ca g7,Z,ca g7,?_⟩;refine G6 ak hs7 hl 18 2 (by omega) λn5 in5=>⟨n5,rfl,z,ca g7,Z,ca g7,?_⟩;have r7d:=r7.drew;have g57:=g5.size;refine gB (i:=4) r7d rfl (by simp) λw8 r8 f8' z8=> ?_;have f8:fV w7.drew w8 (·=k):=f8' _ rfl;have zk:w5.heap.size<=k:=by omega
 have g8:Ext w2 w8:=(g5.trans (aj.trans (Ext.drew w7))).trans (Ext.refl _)|>.new f8 λy hy e=>by omega
 have ar:w8.cell? aq=some (.int .u8 (ai.toNat:Int)):=Pq z f8 λe=>aeE r7d (by simp) z e;refine⟨ar,ca g8,?_⟩;refine gB (i:=5) r8 rfl (by simp) λw9 r9 f9' z9=> ?_;have f9:fV w8 w9 (·=k):=f9' _ rfl;refine gB (i:=6) r9 rfl (by simp) λal au aa z10=> ?_;have f10:fV w9 al (·=k):=aa _ rfl;refine gB (i:=7) au rfl (by simp) λab av ac z11=> ?_;have f11:fV al ab (·=k):=ac _ rfl;have g11:Ext w2 ab:=((g8.new f9 λy hy e=>by omega).new f10 λy hy e=>by omega).new f11 λy hy e=>by omega
 have g11d:=g11.trans (Ext.drew ab);have hs11:=hs2.ext g11d;refine ld g11d ?_;refine mF hs11 (by omega) (by omega) (by omega) λs1 hs1 _=> ?_;refine ld g11d ?_;refine mF hs11 (by omega) (by omega) (by omega) λs2 hs2' _=> ?_;refine gu (lK hs1 (by simp;omega)) ?_;rintro o1 w12 ⟨_,_,f12,_⟩;have g12:=g11d.trans f12;refine⟨ca g12,?_⟩;refine gu (lK (hs2'.ext f12) (by simp;omega)) ?_;rintro o2 aw ⟨_,_,f13,_⟩;have g13:=g12.trans f13;have rk13:=((av.drew).ext f12).ext f13;refine gB (i:=8) rk13 rfl (by simp) λam ax ae z14=> ?_;have f14:fV aw am (·=k):=ae _ rfl;refine gB (i:=9) ax rfl (by simp) λaf I ag z15=> ?_;have f15:fV am af (·=k):=ag _ rfl;simp only[List.set_cons_zero,List.set_cons_succ] at I;have g15:Ext w2 af:=(g13.new f14 λy hy e=>by omega).new f15 λy hy e=>by omega
 refine alu I ?_;exact fin af _ _ _ _ _ _ _ _ _ _ 0 in0 in1 g15
end
end Go.Proofs.AN
end
