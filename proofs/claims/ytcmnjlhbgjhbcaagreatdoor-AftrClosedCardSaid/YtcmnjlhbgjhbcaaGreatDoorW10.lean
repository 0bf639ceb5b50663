import Derived.Test.YtcmnjlhbgjhbcaaGreatDoorW9
open List (getElem?_of_mem map_nil)
set_option maxRecDepth 100000
set_option maxHeartbeats 2000000
section
open List (append_assoc getElem?_cons_succ getElem?_cons_zero getElem?_eq_getElem length_append length_cons length_drop length_nil length_take mem_of_getElem? mem_of_mem_take)
open Nat (lt_or_ge min_eq_left)
open Int (toNat_natCast)
open Option (isNone_some map_some toList_some)
namespace Go.Proofs.JN
open Gp Gp.Hol
theorem ae1 {w:World} {s t:eY} {l m:List UInt8} (hs:iF w s l) (ht:iF w t m):r_ s t w λr w'=>r=decide (l=m)/\w'=w:=by
 apply Ry;refine xI hs (xI ht ⟨?_,rfl⟩);unfold strEq;rw[ByteArray.toList_eq,ByteArray.toList_eq];show (l==m)=decide (l=m);by_cases h:l=m
 ·simp[h]
 ·simp[h]
theorem lK {w:World} {x:eY} {m:List UInt8} (hx:iF w x m) (hl:m.length<=2^46):
  fQ x w λr w'=>Buf w' r (bytesV m)/\(r.a=none↔x.a=none)/\(∀S,fV w w' S)/\∀b,eY.at r b->w.heap.size<=b:=by
 apply lZ
 cases u:x.a with
 |none=>
  simp only[Option.isNone_none,cond_true];have:bytesV m=[]:=by have:=hx.2.1;rw[u] at this;exact this
  exact⟨⟨by simp[this],.inl ⟨rfl,this,rfl⟩⟩,by simp,λS=>fV.refl _ _,λb ⟨o,h⟩=>by cases h⟩
 |some a=>
  simp only[isNone_some,cond_false];refine tV λb w2 r2 e2 _ f2=> ?_;have hx2:iF w2 x m:=by
   refine⟨hx.1,?_,hx.2.2⟩;have:=hx.2.1;rw[u] at this ⊢;refine⟨this.1,λj hj=> ?_⟩;rw[<- this.2 j hj];have hc:=this.2 j hj;rw[getElem?_eq_getElem hj] at hc;have hb:a.block<w.heap.size:=by
    unfold World.cell? at hc
    cases hh:w.heap[(a.add j).block]? with
    |none=>simp[hh] at hc
    |some o=>
     have:=(Array.getElem?_eq_some_iff.1 hh).1;unfold Addr.add at this;split at this<;>exact this
   have hs:=(f2 λ_=>False).same a.block hb (by simp);have z:(a.add j).block=a.block:=by unfold Addr.add;split<;>rfl
   simp only[World.cell?,z,hs]
  refine kU (l:=[]) ⟨rfl,.inr ⟨b,[],rfl,rfl,by simpa [bytesV] using r2⟩⟩ hx2 (by simpa using hl) λs' w' h1 h2 h3 h4=> ?_;refine⟨by simpa using h1,⟨λh=>by have:=(h4 h).2;simp at this,λh=>by simp at h⟩,λS=>(f2 S).trans h2 λy hy ⟨o,e⟩=> ?_,λc hc=> ?_⟩
  ·cases e;omega
  ·rcases h3 c hc with ⟨o,e⟩|h
   ·cases e;omega
   ·have:=(f2 λ_=>False).size;omega
theorem SlN_ix {α:Type} {n:Nat} {f:α->List Value} {w:World} {s:eY} {xs:List α} (hn:∀x,(f x).length=n) (hn0:0<n) (h:lV n f w s xs) {i:Int} {K:Addr->Prop} {x:α} (h0:0<=i) (hx:xs[i.toNat]? =some x)
  (hK:∀a:Addr,(∀j v,(f x)[j]? =some v->w.cell? (a.add j)=some v)->K a):iP s n i K:=by
 obtain⟨a,ha,hc⟩:=h.at_ hn hn0 hx;have hlt:=(List.getElem?_eq_some_iff.1 hx).1;obtain⟨sa,sl,sc⟩:=s;simp only at ha;subst ha;have hl:sl=xs.length:=h.len;refine(wF ..).2 ⟨h0,by omega,hK _ λj v hj=> ?_⟩;rw[<- hc j v hj];congr 1;obtain⟨b,o,t⟩:=a;unfold Addr.add;by_cases h1:i.toNat * n=0<;>by_cases h2:j=0<;>simp[h1,h2,Nat.add_assoc]
abbrev KP:List Kind:=[.int .i64,.bool,.slice]
abbrev P3:=Int×Bool×eY×Unit
abbrev eP (x:P3):List Value:=QA KP x
theorem oC (x:P3):(eP x).length=3:=rfl
theorem Wv (x:P3):∀v∈eP x,iC v=true:=by
 obtain⟨a,b,s,⟨⟩⟩:=x;intro v hv;have:(eP (a,b,s,())).all iC=true:=rfl;exact List.all_eq_true.1 this v hv
def akb (w:World) (x:P3) (p:Pc):Prop:=x.1=p.1/\x.2.1=p.2.1/\iF w x.2.2.1 p.2.2
structure Bq (w:World) (xs:List P3) (l:List Pc):Prop where
 len:xs.length=l.length
 at_:∀(i:Nat) x p,xs[i]? =some x->l[i]? =some p->akb w x p
theorem Bq.get {w:World} {xs:List P3} {l:List Pc} (h:Bq w xs l) {i:Nat} {x:P3} (hx:xs[i]? =some x):∃p,l[i]? =some p/\akb w x p:=by
 have hi:=(List.getElem?_eq_some_iff.1 hx).1;have hp:=getElem?_eq_getElem (show i<l.length by rw[<- h.len];exact hi);exact⟨_,hp,h.at_ i x _ hx hp⟩
theorem Bq.ext {w w':World} {xs:List P3} {l:List Pc} (h:Bq w xs l) (hf:Ext w w'):Bq w' xs l:=
 ⟨h.len,λi x p hx hp=>⟨(h.at_ i x p hx hp).1,(h.at_ i x p hx hp).2.1,(h.at_ i x p hx hp).2.2.ext hf⟩⟩
def P6 (xs:List P3) (S:Nat->Prop):Prop:=∀x∈xs,∀a,x.2.2.1.a=some a->0<x.2.2.1.len->¬S a.block
theorem Bq.fr {w w':World} {xs:List P3} {l:List Pc} {S:Nat->Prop} (h:Bq w xs l) (hf:fV w w' S) (hs:P6 xs S):Bq w' xs l:=
 ⟨h.len,λi x p hx hp=>⟨(h.at_ i x p hx hp).1,(h.at_ i x p hx hp).2.1,(h.at_ i x p hx hp).2.2.fr hf λa ha h0=>hs x (mem_of_getElem? hx) a ha (by rw[(h.at_ i x p hx hp).2.2.1];exact h0)⟩⟩
theorem YO (a:Int) (w:World):mg a w λr w'=>r=false/\w'=w:=by
 apply Ns;exact⟨by simp,rfl⟩
def acV (a b:Int):Int:=if a<b then -1 else if a>b then 1 else 0
theorem Qs (a b:Int) (w:World):kJ a b w λr w'=>r=acV a b/\w'=w:=by
 apply JB;refine Dk (YO _ _) ?_;rintro r w' ⟨rfl,hw⟩;subst hw;refine Dk (YO _ _) ?_;rintro r w' ⟨rfl,hw⟩;subst hw;simp only[cond_false];unfold acV;by_cases h1:a<b
 ·rw[decide_eq_true h1,cond_true,if_pos h1];exact⟨by trivial,by trivial⟩
 ·rw[decide_eq_false h1,cond_false,if_neg h1];by_cases h2:a>b
  ·rw[decide_eq_true h2,cond_true,if_pos h2];exact⟨by trivial,by trivial⟩
  ·rw[decide_eq_false h2,cond_false,if_neg h2];exact⟨by trivial,by trivial⟩
theorem anb {a b:Int} {w:World} {c:Nat} (hr:Row w c [.int .i64 a,.int .i64 b]):uX ⟨some ⟨c,0,none⟩,2,2⟩ w λr w'=>r=(if a≠0 then a else b)/\w'=w:=by
 apply Ue;refine fZ (λst W=>W=w/\(st.1=0\/(st.1=1/\a=0)\/(st.1=2/\a=0/\b=0))) (λst _=>(2 - st.1).toNat) ⟨rfl,.inl rfl⟩ ?_;rintro⟨i,⟨⟩⟩ W ⟨hW,h⟩ next j
 subst hW;simp only at h;rcases h with rfl|⟨rfl,h1⟩|⟨rfl,h1,h2⟩
 ·rw[decide_eq_true (by simp only;decide),cond_true];simp only[sx];refine⟨by decide,by decide,?_⟩;rw[show Int.toNat 0 * 1=0 from rfl,hr.cell];simp only[getElem?_cons_zero,fC,fD];by_cases h:a=0
  ·rw[show (a !=0)=false by simpa using h,cond_false];exact j _ _ ⟨rfl,.inr (.inl ⟨rfl,h⟩)⟩ (by decide)
  ·rw[show (a !=0)=true by simpa using h,cond_true];exact⟨by rw[if_pos h],by trivial⟩
 ·rw[decide_eq_true (by simp only;decide),cond_true];simp only[sx];refine⟨by decide,by decide,?_⟩;rw[show Int.toNat 1 * 1=1 from rfl,hr.cell];simp only[getElem?_cons_zero,getElem?_cons_succ,fC,fD];by_cases h:b=0
  ·rw[show (b !=0)=false by simpa using h,cond_false];exact j _ _ ⟨rfl,.inr (.inr ⟨rfl,h1,h⟩)⟩ (by decide)
  ·rw[show (b !=0)=true by simpa using h,cond_true];exact⟨by rw[if_neg (by simpa using h1)],by trivial⟩
 ·rw[decide_eq_false (by simp only;decide),cond_false];exact⟨by rw[if_neg (by simpa using h1),h2],rfl⟩
def ah4 (o1 l1 o2 l2:Int):Int:=if acV o1 o2≠0 then acV o1 o2 else acV l1 l2
theorem afW {x0 y0:Int} {x1 y1:Bool} {x2 y2:eY} (w:World):Ir x0 x1 x2 y0 y1 y2 w λr w'=>r=ah4 x0 x2.len y0 y2.len/\Ext w w':=by
 apply RD;refine fP λa w1 ra ea z1 f1=>fP λb w2 rb eb z2 f2=> ?_;have ra:=(ra.ext f2).drew;have rb:=rb.drew;have f:=(f1.trans f2).trans (Ext.drew _);simp only[sx,getElem?_cons_zero,getElem?_cons_succ,ra.cell,rb.cell];refine Aq (Qs _ _ _) ?_;rintro r w' ⟨rfl,hw⟩;subst hw;simp only[getElem?_cons_zero,getElem?_cons_succ,ra.cell,rb.cell,true_and];refine Aq (Qs _ _ _) ?_;rintro r w' ⟨rfl,hw⟩;subst hw;refine fP λc w3 rc ec z3 f3=> ?_;refine TM (anb rc) ?_;rintro r w' ⟨rfl,hw⟩;subst hw;exact⟨rfl,f.trans f3⟩
theorem Jm {x0:Int} {x1:Bool} {x2:eY} (w:World):iq x0 x1 x2 w λr w'=>r=IntKind.i64.wrap (x0+(x2.len:Int))/\Ext w w':=by
 apply JI;refine fP λa w1 ra ea z1 f1=> ?_;simp only[sx,getElem?_cons_zero,getElem?_cons_succ,ra.cell];exact⟨by trivial,f1⟩
theorem amU {x0 y0:Int} {x1 y1:Bool} {x2 y2:eY} {l m:List UInt8} {w:World} (hx:iF w x2 l) (hy:iF w y2 m):Dh x0 x1 x2 y0 y1 y2 w λr w'=>r=decide (((x0,x1,l):Pc)=(y0,y1,m))/\Ext w w':=by
 apply LK;refine fP λa w1 ra ea z1 f1=>fP λb w2 rb eb z2 f2=> ?_;have ra:=ra.ext f2;have f:=f1.trans f2;intro J;simp -zeta only[sx,getElem?_cons_zero,getElem?_cons_succ,ra.cell,rb.cell];by_cases h1:x0=y0
 ·rw[show (x0==y0)=true by simpa using h1,cond_true];by_cases h2:x1=y1
  ·rw[show (x1==y1)=true by simpa using h2,cond_true];refine Qi (ae1 (hx.ext f) (hy.ext f)) ?_;rintro r w' ⟨rfl,hw⟩;subst hw;refine⟨decide_eq_decide.2 ?_,f⟩;simp[h1,h2]
  ·rw[show (x1==y1)=false by simpa using h2,cond_false];exact⟨(decide_eq_false λh=>h2 (by simp only[Prod.mk.injEq] at h;exact h.2.1)).symm,f⟩
 ·rw[show (x0==y0)=false by simpa using h1,cond_false];exact⟨(decide_eq_false λh=>h1 (by simp only[Prod.mk.injEq] at h;exact h.1)).symm,f⟩
theorem ak5 {w:World} {s:eY} {xs:List P3} {v:Value} {p:Nat->Bool} (hs:lV 3 eP w s xs) (hl:s.len<=2^62)
  (hp:∀(j:Nat) x W (K:Value->b_),xs[j]? =some x->Ext w W->(∀W',Ext W W'->K (.bool (p j)) W')->iY Tryz.prog [.one .bool] v [.agg ⟨eP x⟩] W K):
  gV s v w λr w'=>(r>=0↔∃j,j<xs.length/\p j=true)/\Ext w w':=by
 apply oJ;refine fZ (λst W=>∃j:Nat,j<=xs.length/\st.1=(j:Int)/\Ext w W/\∀k,k<j->p k=false) (λst _=>(s.len - st.1).toNat) ⟨0,by omega,rfl,Ext.refl _,by simp⟩ ?_;rintro⟨i,⟨⟩⟩ W ⟨j,hj,hi,hw,hm⟩ next u
 simp only at hi;subst hi;have hlen:=hs.len;by_cases z:(j:Int)<(s.len:Int)
 ·simp only[z,decide_true,cond_true];have hx:=getElem?_eq_getElem (show j<xs.length by omega);generalize xs[j]=x at hx;refine SlN_ix oC (by omega) (hs.ext hw) (by omega) (by rw[toNat_natCast];exact hx) λa hc=> ?_;have hp:=hp j x W;obtain⟨x0,x1,x2,⟨⟩⟩:=x;have c0:W.cell? (a.add 0)=some (.int .i64 x0):=hc 0 _ rfl;have c1:W.cell? (a.add 1)=some (.bool x1):=hc 1 _ rfl;have c2:W.cell? (a.add 2)=some (.slice x2.a x2.len x2.cap):=hc 2 _ rfl;simp only[sx,c0,c1,c2];refine hp _ hx hw λW' hf=>⟨p j,rfl,?_⟩
  cases he:p j
  ·simp only[cond_false];rw[wrap_i64 (by omega) (by omega)];refine u _ _ ⟨j+1,by omega,by simp,hw.trans hf,λk hk=> ?_⟩ (by simp only;omega);rcases lt_or_ge k j with h|h
   ·exact hm k h
   ·rw[show k=j by omega];exact he
  ·simp only[cond_true];exact⟨⟨λ_=>⟨j,by omega,he⟩,λ_=>by omega⟩,hw.trans hf⟩
 ·simp only[z,decide_false,cond_false];refine⟨⟨λh=>by omega,λ⟨k,hk,he⟩=> ?_⟩,hw⟩;rw[hm k (by omega)] at he;cases he
theorem acW {w:World} {s:eY} {xs:List P3} {v:Value} {p:Nat->Bool} (hs:lV 3 eP w s xs) (hl:s.len<=2^62)
  (hp:∀(j:Nat) x W (K:Value->b_),xs[j]? =some x->Ext w W->(∀W',Ext W W'->K (.bool (p j)) W')->iY Tryz.prog [.one .bool] v [.agg ⟨eP x⟩] W K):
  gK s v w λr w'=>(r=true↔∃j,j<xs.length/\p j=true)/\Ext w w':=by
 apply nH;refine oI (ak5 hs hl hp) ?_;rintro r w' ⟨h,hf⟩;exact⟨by rw[decide_eq_true_iff];exact h,hf⟩
theorem acQ {f:FuncId} {fst:Array Value} {sh:List Shape} {args:List Value} {w:World} {K:Value->b_} (hb:jZ Tryz.prog f=true) (h:EM Tryz.prog sh f (fst.toList++args) w K):
  iY Tryz.prog sh (.func (.func f) fst #[]) args w K:=by
 unfold iY;simp only[hb,cond_true];simpa using h
theorem ado {w:World} {s:eY} {xs:List P3} {y:P3} {vb i:Nat} (hs:jB 3 eP w s xs) (hy:Row w vb (eP y)) (hv:∀b,eY.at s b->b≠vb) (hi:i<=xs.length) (hl:xs.length<=2^30):
  g_ s (i:Int) ⟨some ⟨vb,0,none⟩,1,1⟩ w λr w'=>jB 3 eP w' r (xs.take i++y::xs.drop i)/\fV w w' (eY.at s)/\∀b,eY.at r b->eY.at s b\/w.heap.size<=b:=by
 apply pO;have hlen:=hs.len;have ag:=hs.sl oC (by omega);have aa:=ag.cap;have ah:lV 3 eP w ⟨some ⟨vb,0,none⟩,1,1⟩ [y]:=(jB.row (xs:=[y]) (f:=eP) (n:=3) (by simpa using hy)).sl oC (by omega);refine abC oC ag (by omega) (by omega) (by omega) λs4 _=> ?_;simp only;rw[show (((1:Nat):Int)==0)=false from rfl,cond_false];by_cases he:(i:Int)=(s.len:Int)
 ·rw[show ((i:Int)==(s.len:Int))=true by simpa using he,cond_true];refine tX oC hs ah rfl (by omega) Wv (by simp only[List.length_singleton];omega) (by simp only[List.length_singleton];omega) λs' w' h1 h2 h3=> ?_;refine⟨?_,h2,h3⟩;rw[List.take_of_length_le (by omega),List.drop_of_length_le (by omega)];exact h1
 rw[show ((i:Int)==(s.len:Int))=false by simpa using he,cond_false];have hi':i<xs.length:=by omega
 have hx:=getElem?_eq_getElem hi';generalize xs[i]=x at hx;obtain⟨b,pad,ha,hc,hr⟩:∃b pad,s.a=some ⟨b,0,none⟩/\s.cap * 3=xs.length * 3+pad.length/\Row w b (xs.flatMap eP++pad):=by
  rcases hs.mem with ⟨_,h,_⟩|h
  ·rw[h] at hi';simp at hi'
  ·exact h
 have ai:b≠vb:=hv b ⟨0,ha⟩;obtain⟨sa,sl,sc⟩:=s;simp only at ha hc hlen aa he;subst ha;subst hlen;have lt:=kR eP 3 oC (xs.take i);have ld:=kR eP 3 oC (xs.drop i);have ld1:=kR eP 3 oC (xs.drop (i+1));rw[length_take,min_eq_left (by omega)] at lt;rw[length_drop] at ld ld1;have oned:∀v∈(xs.drop i).flatMap eP,iC v=true:=λv hv=>by
  obtain⟨z,_,hz⟩:=List.mem_flatMap.1 hv;exact Wv z v hz
 rw[wrap_i64 (n:=(xs.length:Int)+((1:Nat):Int)) (by omega) (by omega)];by_cases hg:(xs.length:Int)+((1:Nat):Int)>(sc:Int)
 ·rw[decide_eq_true hg,cond_true];refine⟨by(try simp only);omega,by(try simp only);omega,by(try simp only);omega,?_⟩
  rw[wrap_i64 (by omega) (by omega),show ((xs.length:Int)+((1:Nat):Int)) - (i:Int)=((xs.length+1 - i:Nat):Int) by omega];simp only[toNat_natCast,Int.toNat_zero,Nat.sub_zero];have ab:vW (some (⟨b,0,none⟩:Addr)) sc 0 3=some ⟨b,0,none⟩:=by
   unfold vW;split<;>simp[Addr.add]
  rw[ab];have ac:ng w (some ⟨b,0,none⟩) (i * 3) ((xs.take i).flatMap eP):=by
   refine MO (A:=[]) (C:=(xs.drop i).flatMap eP++pad) ?_ rfl lt;rw[WO (i:=i),append_assoc] at hr;exact hr
  refine ZT (m:=xs.length+1 - i) (by simp only;omega) (by simp only;omega) (by simp only;omega) ac λc w1 hc1 r1 f1 z1=> ?_;simp only at hc1 r1 ⊢;rw[show i+(xs.length+1 - i)=xs.length+1 by omega] at hc1 r1 ⊢;obtain⟨k,hk⟩:∃k,xs.length+1 - i=k+1:=⟨xs.length - i,by omega⟩;rw[hk] at r1;have u:∀j:Nat,j<c->vW (some (⟨w.heap.size,0,none⟩:Addr)) c j 3=some ⟨w.heap.size,j * 3,none⟩:=by
   intro j hj;unfold vW;rw[if_neg (by omega),map_some,fM,Nat.zero_add]
  refine⟨by(try simp only);omega,by(try simp only);omega,by(try simp only);omega,?_⟩
  simp only[toNat_natCast];rw[u i (by omega)];have r1':Row w1 w.heap.size ((xs.take i).flatMap eP++([Value.int .i64 0,.bool false,.slice none 0 0]++(fO [Value.int .i64 0,.bool false,.slice none 0 0] k++fO [Value.int .i64 0,.bool false,.slice none 0 0] (c - (xs.length+1))))):=by
   simpa [fO] using r1
  have ae:=ah.ext f1;refine DK (m:=1) (vs:=eP y) (by show min (_:Nat) _=_;simp only;omega) (by have:=ae.cells;simpa using this) r1' (by simp only[length_append,length_cons,length_nil,oC];omega) (Wv y) λw2 r2 f2=> ?_;rw[<- lt,PU (by rfl)] at r2;rw[wrap_i64 (n:=(i:Int)+((1:Nat):Int)) (by omega) (by omega),show (i:Int)+((1:Nat):Int)=((i+1:Nat):Int) by omega];refine⟨by(try simp only);omega,by(try simp only);omega,by(try simp only);omega,?_⟩
  simp only[toNat_natCast];rw[u (i+1) (by omega)];have hr2:=((hr.ext f1).fr f2 (by have:=hr.lt;omega)).drew;refine⟨by(try simp only);omega,by(try simp only);omega,by(try simp only);omega,?_⟩
  simp only[toNat_natCast];have J:vW (some (⟨b,0,none⟩:Addr)) sc i 3=some ⟨b,i * 3,none⟩:=by
   unfold vW;rw[if_neg (by omega),map_some,fM,Nat.zero_add]
  rw[J];have I:ng w2.drew (some ⟨b,i * 3,none⟩) ((xs.length - i) * 3) ((xs.drop i).flatMap eP):=by
   refine MO (A:=(xs.take i).flatMap eP) (C:=pad) ?_ lt ld;rw[WO (i:=i),append_assoc] at hr2;exact hr2
  have r2':Row w2.drew w.heap.size (((xs.take i).flatMap eP++eP y)++(fO [Value.int .i64 0,.bool false,.slice none 0 0] k++fO [Value.int .i64 0,.bool false,.slice none 0 0] (c - (xs.length+1)))):=by
   rw[append_assoc];exact r2.drew
  have lA:((xs.take i).flatMap eP++eP y).length=(i+1) * 3:=by rw[length_append,lt,oC];omega
  have lk:(fO [Value.int .i64 0,.bool false,.slice none 0 0] k).length=((xs.drop i).flatMap eP).length:=by rw[vU,ld];simp only[length_cons,length_nil];omega
  refine DK (m:=xs.length - i) (vs:=(xs.drop i).flatMap eP) (by show min (_:Nat) _=_;simp only;omega) I r2' (by rw[length_append,lA,length_append,lk];omega) oned λw3 r3 f3=> ?_;rw[<- lA,PU lk] at r3;have f23:fV w1 w3 (·=w.heap.size):=(f2.ext (Ext.drew w2)).trans f3 λ_ _ e=>e;refine⟨⟨by simp;omega,.inr ⟨w.heap.size,fO [Value.int .i64 0,.bool false,.slice none 0 0] (c - (xs.length+1)),rfl,?_,?_⟩⟩,f1.new f23 (by intro x hx e;omega) _,λb' hb'=> ?_⟩
  ·rw[vU];simp only[length_append,length_take,length_cons,length_drop,length_nil];omega
  ·rw[List.flatMap_append,List.flatMap_cons];simpa using r3
  ·obtain⟨o,e⟩:=hb'
   cases e
   exact .inr (Nat.le_refl _)
 ·rw[decide_eq_false hg,cond_false];obtain⟨p1,p2,hp,lp1⟩:∃p1 p2,pad=p1++p2/\p1.length=3:=⟨pad.take 3,pad.drop 3,(List.take_append_drop 3 pad).symm,by rw[length_take];omega⟩;subst hp;refine⟨by(try simp only);omega,by(try simp only);omega,by(try simp only);omega,?_⟩
  rw[wrap_i64 (n:=(i:Int)+((1:Nat):Int)) (by omega) (by omega),show (i:Int)+((1:Nat):Int)=((i+1:Nat):Int) by omega];have U:vW (some (⟨b,0,none⟩:Addr)) sc 0 3=some ⟨b,0,none⟩:=by
   unfold vW;split<;>simp[Addr.add]
  have u:∀j:Nat,j<sc->vW (some (⟨b,0,none⟩:Addr)) sc j 3=some ⟨b,j * 3,none⟩:=by
   intro j hj;unfold vW;rw[if_neg (by omega),map_some,fM,Nat.zero_add]
  simp only[Int.toNat_zero,Nat.sub_zero,U];refine⟨by(try simp only);omega,by(try simp only);omega,by(try simp only);omega,?_⟩
  simp only[toNat_natCast];rw[u (i+1) (by omega)];have Y:xs.flatMap eP=(xs.take i).flatMap eP++(eP x++(xs.drop (i+1)).flatMap eP):=aaz hx;refine Tf Tryz.func296 (by kernel_rfl) (by kernel_rfl) (by kernel_rfl) (tS:=356) (tR:=4) (by kernel_rfl) (e:=353) (by kernel_rfl) (by kernel_rfl) hy hr (λe=>ai e.symm) (by
   intro h;have:=congrArg List.length h;simp only[length_append,length_nil] at this;omega) ?_
  refine⟨false,rfl,?_⟩;rw[Bool.not_false,cond_true];refine⟨by(try simp only);omega,by(try simp only);omega,by(try simp only);omega,?_⟩
  simp only[toNat_natCast];rw[u (i+1) (by omega)];refine⟨by(try simp only);omega,by(try simp only);omega,by(try simp only);omega,?_⟩
  simp only[toNat_natCast];rw[u i (by omega)];have Z:=hr.drew;have I:ng w.drew (some ⟨b,i * 3,none⟩) ((xs.length - i) * 3) ((xs.drop i).flatMap eP):=by
   refine MO (A:=(xs.take i).flatMap eP) (C:=p1++p2) ?_ lt ld;rw[WO (i:=i),append_assoc] at Z;exact Z
  have r0:Row w.drew b (((xs.take i).flatMap eP++eP x)++(((xs.drop (i+1)).flatMap eP++p1)++p2)):=by
   rw[Y] at Z;simpa using Z
  have lA:((xs.take i).flatMap eP++eP x).length=(i+1) * 3:=by rw[length_append,lt,oC];omega
  have lB:((xs.drop (i+1)).flatMap eP++p1).length=((xs.drop i).flatMap eP).length:=by rw[length_append,ld1,ld,lp1];omega
  refine DK (m:=xs.length - i) (vs:=(xs.drop i).flatMap eP) (by show min (_:Nat) _=_;simp only;omega) I r0 (by rw[length_append,lA,length_append,lB];omega) oned λw2 r2 f2=> ?_;rw[<- lA,PU lB] at r2;refine⟨by(try simp only);omega,by(try simp only);omega,by(try simp only);omega,?_⟩
  simp only[toNat_natCast];rw[u i (by omega)];have hy2:Row w2 vb (eP y):=hy.drew.fr f2 (λe=>ai e.symm);have af:lV 3 eP w2 ⟨some ⟨vb,0,none⟩,1,1⟩ [y]:=(jB.row (xs:=[y]) (f:=eP) (n:=3) (by simpa using hy2)).sl oC (by omega);have r2':Row w2 b ((xs.take i).flatMap eP++(eP x++((xs.drop i).flatMap eP++p2))):=by simpa using r2
  refine DK (m:=1) (vs:=eP y) (by show min (_:Nat) _=_;simp only;omega) (by have:=af.cells;simpa using this) r2' (by simp only[length_append,oC];omega) (Wv y) λw3 r3 f3=> ?_;rw[<- lt,PU (by rfl)] at r3;have f13:fV w w3 (·=b):=((fV.drew w _).trans f2 λ_ _ e=>e).trans f3 λ_ _ e=>e;refine⟨⟨by simp;omega,.inr ⟨b,p2,rfl,?_,?_⟩⟩,f13.mono λc hc=>⟨0,by rw[hc]⟩,λb' hb'=> .inl ?_⟩
  ·simp only[length_append,length_take,length_cons,length_drop] at hc ⊢;omega
  ·rw[List.flatMap_append,List.flatMap_cons];simpa using r3
  ·obtain⟨o,e⟩:=hb';exact⟨o,e⟩
structure HAt (w:World) (h:Nat) (s:eY) (xs:List P3) (l:List Pc) (last:Int):Prop where
 row:Row w h [.slice s.a s.len s.cap,.int .i64 (sum l),.int .i64 last,.bool true]
 buf:jB 3 eP w s xs
 pcs:Bq w xs l
 apart:∀b,eY.at s b->b≠h
 free:P6 xs λb=>b=h\/eY.at s b
theorem HAt.ext {w w':World} {h:Nat} {s:eY} {xs:List P3} {l:List Pc} {last:Int} (H:HAt w h s xs l last) (hf:Ext w w'):HAt w' h s xs l last:=
 ⟨H.row.ext hf,H.buf.ext hf,H.pcs.ext hf,H.apart,H.free⟩
theorem HAt.fr {w w':World} {h:Nat} {s:eY} {xs:List P3} {l:List Pc} {last:Int} {S:Nat->Prop} (H:HAt w h s xs l last) (hf:fV w w' S) (h1:¬S h) (h2:∀b,eY.at s b->¬S b) (h3:P6 xs S):HAt w' h s xs l last:=
 ⟨H.row.fr hf h1,H.buf.fr hf h2,H.pcs.fr hf h3,H.apart,H.free⟩
theorem HAt.sl {w:World} {h:Nat} {s:eY} {xs:List P3} {l:List Pc} {last:Int} (H:HAt w h s xs l last):lV 3 eP w s xs:=H.buf.sl oC (by omega)
theorem HAt.len {w:World} {h:Nat} {s:eY} {xs:List P3} {l:List Pc} {last:Int} (H:HAt w h s xs l last):s.len=l.length:=H.buf.len.trans H.pcs.len
theorem tJ {w:World} {h:Nat} {s:eY} {xs:List P3} {l:List Pc} {last:Int} (H:HAt w h s xs l last):iM (some ⟨h,0,none⟩) w λr w'=>r=true/\w'=w:=by
 apply F6;simp only[sx,isNone_some,Bool.not_false,isNone_some,getElem?_cons_zero,getElem?_cons_succ,H.row.cell];exact⟨by trivial,by trivial⟩
theorem ahO {x0:Int} {x1:Bool} {x2:eY} {b:List UInt8} {w:World} (hx:iF w x2 b) (hl:b.length<=2^40):xQ x0 x1 x2 w λr w'=>r=may (x0,x1,b)/\Ext w w':=by
 apply Xm;refine fP λa w1 ra ea z1 f1=> ?_;have hlen:=hx.1;unfold may;intro J;have hT:J true=((4:Int)=(if x0<0\/(x1=true/\(b.length=0\/b.length % 8≠0)) then 4 else if x0>65535 - (b.length:Int) then 6 else 0)/\Ext w w1):=by
  simp only[J,cond_true]
 have hF:J false↔((if x0>65535 - (b.length:Int) then (6:Int) else 0)=(if x0<0\/(x1=true/\(b.length=0\/b.length % 8≠0)) then 4 else if x0>65535 - (b.length:Int) then 6 else 0)/\Ext w w1):=by
  simp only[sx,J,getElem?_cons_zero,getElem?_cons_succ,ra.cell];rw[wrap_i64 (by(try simp only);omega) (by(try simp only);omega),hlen]
  by_cases h:x0>65535 - (b.length:Int)
  ·rw[decide_eq_true h,cond_true,if_pos h]
  ·rw[decide_eq_false h,cond_false,if_neg h]
 clear_value J;simp -zeta only[sx,getElem?_cons_zero,getElem?_cons_succ,ra.cell];by_cases h1:x0<0
 ·rw[decide_eq_true h1,cond_true,hT,if_pos (.inl h1)];exact⟨rfl,f1⟩
 rw[decide_eq_false h1,cond_false]
 cases x1
 ·rw[cond_false,hF,if_neg (c:=x0<0\/_) (by simp;omega)];exact⟨rfl,f1⟩
 rw[cond_true];by_cases h2:b.length=0
 ·rw[show ((x2.len:Int)==0)=true by rw[hlen,h2];rfl,cond_true,hT,if_pos (.inr ⟨rfl,.inl h2⟩)];exact⟨rfl,f1⟩
 rw[show ((x2.len:Int)==0)=false by simp;omega,cond_false];refine⟨by decide,?_⟩;by_cases h3:b.length % 8=0
 ·rw[show (Int.tmod (x2.len:Int) 8 !=0)=false by rw[Int.tmod_eq_emod_of_nonneg (by omega)];simp;omega,hF,if_neg (c:=x0<0\/_) (by omega)];exact⟨rfl,f1⟩
 ·rw[show (Int.tmod (x2.len:Int) 8 !=0)=true by rw[Int.tmod_eq_emod_of_nonneg (by omega)];simp;omega,hT,if_pos (.inr ⟨rfl,.inr h3⟩)];exact⟨rfl,f1⟩
theorem Eb {w:World} {h:Nat} {s:eY} {xs:List P3} {l:List Pc} {last:Int} (H:HAt w h s xs l last) (hl:l.length<=2^30) {x0:Int} {x1:Bool} {x2:eY} {b:List UInt8} (hx:iF w x2 b):
  jM (some ⟨h,0,none⟩) x0 x1 x2 w λr w'=>r=decide (((x0,x1,b):Pc)∈l)/\Ext w w':=by
 apply JH;refine fP λa w1 ra ea z1 f1=> ?_;have ra:=ra.drew;have f:=f1.trans (Ext.drew w1);have H1:=H.ext f;have hlen:=H.len;simp only[sx,getElem?_cons_zero,getElem?_cons_succ,ra.cell,H1.row.cell];refine nD (acW (p:=λj=>decide (some ((x0,x1,b):Pc)=l[j]?)) H1.sl (by simp only;omega) ?_) ?_
 ·intro j x W K u hW hK;obtain⟨p,hp,h1,h2,h3⟩:=H1.pcs.get u;obtain⟨y0,y1,y2,⟨⟩⟩:=x;obtain⟨p0,p1,p2⟩:=p;simp only at h1 h2 h3;subst h1 h2;refine acQ (by kernel_rfl) ?_;refine Calls.mono (amU (w:=W) (x0:=x0) (x1:=x1) (y0:=y0) (y1:=y1) ((hx.ext f).ext hW) (h3.ext hW)) ?_;rintro e W' ⟨r,he,rfl,hf⟩;refine⟨_,he,?_⟩;have:=hK W' hf;rw[hp] at this;exact(by simpa using this:K (.bool (decide (((x0,x1,b):Pc)=(y0,y1,p2)))) W')
 ·rintro r w' ⟨hr,hf⟩;refine⟨?_,f.trans hf⟩;have hxl:=H1.pcs.len;rw[Bool.eq_iff_iff,hr,decide_eq_true_iff,List.mem_iff_getElem?];constructor
  ·rintro⟨j,hj,he⟩;exact⟨j,(of_decide_eq_true he).symm⟩
  ·rintro⟨j,hj⟩;have:=(List.getElem?_eq_some_iff.1 hj).1;exact⟨j,by omega,decide_eq_true hj.symm⟩
theorem UZ {w:World} {x:eY} {b:List UInt8} (hx:iF w x b):((x.len:Int)==0)=b.isEmpty:=by
 rw[hx.1]
 cases b with
 |nil=>rfl
 |cons a l=>exact beq_eq_false_iff_ne.2 (by simp only[length_cons];omega)
theorem afK {w:World} {h:Nat} {s:eY} {xs:List P3} {l:List Pc} {last:Int} (H:HAt w h s xs l last) (hl:l.length<=2^30) (hg:∀p∈l,0<=p.1/\pend p<=65535) {x0:Int} {x1:Bool} {x2:eY} {b:List UInt8} (hx:iF w x2 b) (h0:0<=x0) (h1:pend (x0,x1,b)<=65535):
  kP (some ⟨h,0,none⟩) x0 x1 x2 w λr w'=>r=l.any (sh (x0,x1,b))/\Ext w w':=by
 apply F5;refine fP λa w1 ra ea z1 f1=> ?_;have H1:=H.ext f1;have hx1:=hx.ext f1;have hlen:=H.len;have hxl:=H.pcs.len;simp -zeta only[sx,getElem?_cons_zero,H1.row.cell];refine fZ (λst W=>∃j:Nat,j<=l.length/\st.1=(j:Int)/\Ext w1 W/\(l.take j).any (sh (x0,x1,b))=false) (λst _=>(l.length - st.1).toNat) ⟨0,by omega,rfl,Ext.refl _,by simp⟩ ?_;rintro⟨i,⟨⟩⟩ W ⟨j,hj,hi,hw,hm⟩ next z
 simp only at hi;subst hi;by_cases Y:(j:Int)<(s.len:Int)
 ·rw[decide_eq_true Y,cond_true];have I:=getElem?_eq_getElem (show j<xs.length by omega);generalize xs[j]=x at I;obtain⟨p,hp,e1,e2,e3⟩:=H1.pcs.get I;have Z:=mem_of_getElem? hp;have aa:=hg p Z;have U:=List.take_add_one (l:=l) (i:=j);rw[hp] at U;simp only[toList_some] at U;obtain⟨y0,y1,y2,⟨⟩⟩:=x;obtain⟨p0,p1,p2⟩:=p;simp only at e1 e2 e3;subst e1 e2;intro J;have hJ:∀W',Ext W W'->sh (x0,x1,b) (y0,y1,p2)=false->J W':=by
   intro W' hf hs;simp only[J];rw[wrap_i64 (by(try simp only);omega) (by(try simp only);omega)]
   refine z _ _ ⟨j+1,by omega,by simp,hw.trans hf,?_⟩ (by simp only;omega);rw[U,List.any_append,hm,List.any_cons,hs,List.any_nil];rfl
  have hT:∀W',Ext W W'->sh (x0,x1,b) (y0,y1,p2)=true->(true=l.any (sh (x0,x1,b))/\Ext w W'):=by
   intro W' hf hs;exact⟨(List.any_eq_true.2 ⟨_,Z,hs⟩).symm,(f1.trans hw).trans hf⟩
  clear_value J;generalize hA:l.any (sh (x0,x1,b))=A at hT ⊢;refine SlN_ix oC (by omega) (H1.sl.ext hw) (by omega) (by rw[toNat_natCast];exact I) λa' hc=> ?_;have c0:W.cell? (a'.add 0)=some (.int .i64 y0):=hc 0 _ rfl;have c1:W.cell? (a'.add 1)=some (.bool y1):=hc 1 _ rfl;have c2:W.cell? (a'.add 2)=some (.slice y2.a y2.len y2.cap):=hc 2 _ rfl;simp -zeta only[fC,fE,fD,gW,c0,c1,c2];refine uP rfl rfl λt W1 rt et zt ft=> ?_;have ra:=(ra.ext hw).ext ft;have e3:=(e3.ext hw).ext ft;have hx2:=(hx1.ext hw).ext ft;have n1:=UZ hx2;have n2:=UZ e3;have hx2':=hx2.1;have e3':=e3.1;unfold pend at h1 aa;simp only at h1 aa;unfold sh pend at hJ hT;simp only at hJ hT;generalize b.isEmpty=eb at n1 hJ hT;generalize p2.isEmpty=ep at n2 hJ hT;simp -zeta only[sx,getElem?_cons_zero,getElem?_cons_succ,ra.cell,rt.cell,n1,n2];have rtd:=rt.drew;have rad:=ra.drew;have main:∀(J2:Bool->b_),(J2=λaf ab=>bif af then (true=A/\Ext w ab) else J ab)->eb=false->ep=false->
    (iq x0 x1 x2 W1.drew λag u=>u.cell? ⟨t,0,none⟩=some (.int .i64 y0)/\(bif decide (y0<ag) then
     (G_ (.int .i64) (u.cell? ⟨a,0,none⟩) λac=>G_ (.int .i64) (u.cell? ⟨t,0,none⟩) λah=>G_ .bool (u.cell? ⟨t,1,none⟩) λai=>G_ .slice (u.cell? ⟨t,2,none⟩) λaj=>
      iq ah ai aj u λak ae=>ae.cell? ⟨a,0,none⟩=some (.int .i64 ac)/\J2 (decide (ac<ak)) ae) else J2 false u)):=by
   intro J2 hJ2 he1 he2;subst he1 he2;refine jF (Jm _) ?_;rintro r w3 ⟨rfl,f3⟩;have ra3:=rad.ext f3;have rt3:=rtd.ext f3;refine⟨rt3.cell 0,?_⟩;rw[wrap_i64 (by(try simp only);omega) (by(try simp only);omega),hx2']
   simp only[getElem?_cons_zero,getElem?_cons_succ,fC,fE,fD,gW,ra3.cell,rt3.cell];have hd:Ext W w3:=(ft.trans (Ext.drew _)).trans f3;by_cases g1:y0<x0+(b.length:Int)
   ·rw[decide_eq_true g1,cond_true];refine jF (Jm _) ?_;rintro r w4 ⟨rfl,f4⟩;refine⟨(ra3.ext f4).cell 0,?_⟩;rw[wrap_i64 (by simp only;omega) (by simp only;omega)];simp only;rw[e3',hJ2];by_cases g2:x0<y0+(p2.length:Int)
    ·rw[decide_eq_true g2];exact hT _ (hd.trans f4) (by simp[g1,g2])
    ·rw[decide_eq_false g2];exact hJ _ (hd.trans f4) (by simp[g1,g2])
   ·rw[decide_eq_false g1,cond_false,hJ2];exact hJ _ hd (by simp[g1])
  cases eb
  ·simp only[cond_false,cond_true]
   cases ep
   ·simp only[cond_false];simp only[getElem?_cons_zero,getElem?_cons_succ,fC,fE,fD,gW,rtd.cell,rad.cell];exact main _ rfl rfl rfl
   ·simp only[cond_true];exact hJ _ ft (by simp)
  ·cases ep
   ·simp only[cond_false,cond_true];exact hJ _ ft (by simp)
   ·simp only[cond_true];by_cases g:x0=y0
    ·rw[show (x0==y0)=true by simpa using g];simp only[cond_true];exact hT _ ft (by simp[g])
    ·rw[show (x0==y0)=false by simpa using g];simp only[cond_false];exact hJ _ ft (by simp[g])
 ·rw[decide_eq_false Y,cond_false];rw[List.take_of_length_le (by omega)] at hm;exact⟨hm.symm,f1.trans hw⟩
theorem akX {w:World} {h:Nat} {s:eY} {xs:List P3} {l:List Pc} {last:Int} (H:HAt w h s xs l last) (hl:l.length<=2^30) (hg:∀p∈l,0<=p.1/\pend p<=65535):
  mO (some ⟨h,0,none⟩) w λr w'=>r=far l/\Ext w w':=by
 apply JG;have hlen:=H.len;have hxl:=H.pcs.len;simp only[sx,getElem?_cons_zero,H.row.cell];refine fZ (λst W=>∃j:Nat,j<=l.length/\st.2.1=(j:Int)/\Ext w W/\st.1=far (l.take j)) (λst _=>(l.length - st.2.1).toNat) ⟨0,by omega,rfl,Ext.refl _,rfl⟩ ?_;rintro⟨m,i,⟨⟩⟩ W ⟨j,hj,hi,hw,hm⟩ next u
 simp only at hi hm;subst hi hm;by_cases J:(j:Int)<(s.len:Int)
 ·rw[decide_eq_true J,cond_true];have z:=getElem?_eq_getElem (show j<xs.length by omega);generalize xs[j]=x at z;obtain⟨p,hp,e1,e2,e3⟩:=H.pcs.get z;have U:=hg p (mem_of_getElem? hp);have I:=List.take_add_one (l:=l) (i:=j);rw[hp] at I;simp only[toList_some] at I;obtain⟨y0,y1,y2,⟨⟩⟩:=x;obtain⟨p0,p1,p2⟩:=p;simp only at e1 e2 e3;subst e1 e2;refine SlN_ix oC (by omega) (H.sl.ext hw) (by simp only;omega) (by simp only;rw[toNat_natCast];exact z) λa' hc=> ?_;have c0:W.cell? (a'.add 0)=some (.int .i64 y0):=hc 0 _ rfl;have c1:W.cell? (a'.add 1)=some (.bool y1):=hc 1 _ rfl;have c2:W.cell? (a'.add 2)=some (.slice y2.a y2.len y2.cap):=hc 2 _ rfl;simp only[fC,fE,fD,gW,c0,c1,c2];refine uP rfl rfl λt W1 rt et zt ft=> ?_;simp only[sx,getElem?_cons_zero,getElem?_cons_succ,rt.cell];refine jF (Jm _) ?_;rintro r w3 ⟨rfl,f3⟩;unfold pend at U;simp only at U;have e3':=e3.1;rw[wrap_i64 (n:=y0+(y2.len:Int)) (by(try simp only);omega) (by(try simp only);omega),wrap_i64 (by(try simp only);omega) (by(try simp only);omega)]
  refine u _ _ ⟨j+1,by omega,by simp,(hw.trans ft).trans f3,?_⟩ (by simp only;omega);rw[I];unfold far;rw[List.foldl_append];simp only[List.foldl_cons,List.foldl_nil];unfold pend;simp only;rw[<- e3'];split<;>omega
 ·rw[decide_eq_false J,cond_false];rw[List.take_of_length_le (by omega)];exact⟨rfl,hw⟩
theorem qY {w:World} {h:Nat} {s:eY} {xs:List P3} {l:List Pc} {last:Int} (H:HAt w h s xs l last) (hl:l.length<=2^30) (hg:∀p∈l,0<=p.1/\pend p<=65535) {x0:Int} {x1:Bool} {x2:eY} {b:List UInt8} (hx:iF w x2 b) (h0:0<=x0) (h1:pend (x0,x1,b)<=65535):
  lJ (some ⟨h,0,none⟩) x0 x1 x2 w λr w'=>r=fits l last (x0,x1,b)/\Ext w w':=by
 apply Ie;refine fP λa w1 ra ea z1 f1=> ?_;have H1:=H.ext f1;have Hd:=H1.ext (Ext.drew _);have rad:=ra.drew;have fd:=f1.trans (Ext.drew _);have hx2:=hx.1;unfold pend at h1;simp only at h1;unfold fits pend;simp only;simp -zeta only[sx,getElem?_cons_zero,getElem?_cons_succ,ra.cell,rad.cell,Hd.row.cell]
 cases x1
 ·simp only[cond_false,Bool.false_eq_true,if_false];by_cases g:last<0
  ·rw[decide_eq_true g,cond_true];refine Jg (akX Hd hl hg) ?_;rintro r w3 ⟨rfl,f3⟩;have ra3:=rad.ext f3;refine⟨ra3.cell 0,ra3.cell 1,ra3.cell 2,?_⟩;refine jF (Jm _) ?_;rintro r w4 ⟨rfl,f4⟩;rw[wrap_i64 (by(try simp only);omega) (by(try simp only);omega),hx2,Bool.true_and]
   exact⟨rfl,(fd.trans f3).trans f4⟩
  ·rw[decide_eq_false g,cond_false,Bool.false_and];exact⟨rfl,fd⟩
 ·simp only[cond_true,if_true];by_cases g:last<0
  ·rw[decide_eq_true g,cond_true,Bool.true_or];exact⟨rfl,fd⟩
  ·rw[decide_eq_false g,cond_false,Bool.false_or];refine jF (Jm _) ?_;rintro r w3 ⟨rfl,f3⟩;refine⟨(Hd.ext f3).row.cell 2,?_⟩;rw[wrap_i64 (by(try simp only);omega) (by(try simp only);omega),hx2]
   exact⟨rfl,fd.trans f3⟩
theorem ahs {a b:Nat} (h:a+b<=2^40):IntKind.i64.wrap (jy .u64 (IntKind.u64.wrap (IntKind.i64.wrap ((a:Int)+(b:Int)))) 1)=(((a+b) / 2:Nat):Int):=by
 rw[wrap_i64 (n:=(a:Int)+(b:Int)) (by omega) (by omega)];have h1:IntKind.u64.wrap ((a:Int)+(b:Int))=((a+b:Nat):Int):=by
  simp only[IntKind.wrap,IntKind.bits,IntKind.signed,Bool.false_and,Bool.false_eq_true,if_false];omega
 rw[h1];have h2:jy .u64 ((a+b:Nat):Int) 1=(((a+b) / 2:Nat):Int):=by
  unfold jy;have:min (1:Int).toNat IntKind.u64.bits=1:=rfl;rw[this];rw[Int.fdiv_eq_ediv_of_nonneg _ (by decide)];omega
 rw[h2,wrap_i64 (by omega) (by omega)]
theorem NU {f:FuncId} {sh:List Shape} {args:List Value} {w:World} {K:Value->b_} (hb:jZ Tryz.prog f=true) (h:EM Tryz.prog sh f args w K):
  iY Tryz.prog sh (.func (.func f) #[] #[]) args w K:=by
 unfold iY;simp only[hb,cond_true];simpa using h
def Ux (u:P3) (x0:Int) (n:Nat):Int:=ah4 u.1 (u.2.2.1.len:Int) x0 (n:Int)
theorem Yu {u:P3} {x0:Int} {x1:Bool} {x2:eY} {W:World} {K:Value->b_} (hK:∀W',Ext W W'->K (.int .i64 (Ux u x0 x2.len)) W'):
  iY Tryz.prog [.one (.int .i64)] (Value.func (.func 222) #[] #[]) [.agg ⟨[.int .i64 u.1,.bool u.2.1,.slice u.2.2.1.a u.2.2.1.len u.2.2.1.cap]⟩,.agg ⟨[.int .i64 x0,.bool x1,.slice x2.a x2.len x2.cap]⟩] W K:=by
 refine NU (by kernel_rfl) ?_;refine Calls.mono (afW (x0:=u.1) (x1:=u.2.1) (x2:=u.2.2.1) (y0:=x0) (y1:=x1) (y2:=x2) W) ?_;rintro e W' ⟨r,he,rfl,hf⟩;exact⟨_,he,hK W' hf⟩
theorem amG {w:World} {s:eY} {xs:List P3} (hs:lV 3 eP w s xs) (hl:xs.length<=2^30) {x0:Int} {x1:Bool} {x2:eY}
  (mono:∀(i j:Nat) u v,i<j->xs[i]? =some u->xs[j]? =some v->Ux v x0 x2.len<0->Ux u x0 x2.len<0):
  gq s x0 x1 x2 (Value.func (.func 222) #[] #[]) w λr _ w'=>
   (∃i:Nat,r=(i:Int)/\i<=xs.length/\(∀(k:Nat) u,k<i->xs[k]? =some u->Ux u x0 x2.len<0)/\∀(k:Nat) u,i<=k->xs[k]? =some u->¬Ux u x0 x2.len<0)/\Ext w w':=by
 apply jS;refine fP λa w1 ra ea z1 f1=> ?_;have hlen:=hs.len;refine fZ (λst W=>∃i j:Nat,i<=j/\j<=xs.length/\st.1=(i:Int)/\st.2.1=(j:Int)/\Ext w1 W/\(∀(k:Nat) u,k<i->xs[k]? =some u->Ux u x0 x2.len<0)/\∀(k:Nat) u,j<=k->xs[k]? =some u->¬Ux u x0 x2.len<0)
  (λst _=>(st.2.1 - st.1).toNat) ⟨0,xs.length,by omega,by omega,rfl,by simp only;omega,Ext.refl _,λk u h=>by omega,λk u h hx=>by
   have:=(List.getElem?_eq_some_iff.1 hx).1;omega⟩ ?_
 rintro⟨i',j',⟨⟩⟩ W ⟨i,j,hij,hj,hi1,hj1,hw,hb,ha⟩ next z
 simp only at hi1 hj1;subst hi1 hj1;have Wd:=hw.trans (Ext.drew W);have raD:=ra.ext Wd;have U:=hs.ext (f1.trans Wd);simp -zeta only[ahs (show i+j<=2^40 by omega)];by_cases Y:(i:Int)<(j:Int)
 ·rw[decide_eq_true Y,cond_true];refine⟨by decide,?_⟩;have hm:(i+j) / 2<xs.length:=by omega
  have hx:=getElem?_eq_getElem hm;generalize xs[(i+j) / 2]=u at hx;refine SlN_ix oC (by omega) U (by omega) (by rw[toNat_natCast];exact hx) λa' hc=> ?_;have c0:W.drew.cell? (a'.add 0)=some (.int .i64 u.1):=hc 0 _ rfl;have c1:W.drew.cell? (a'.add 1)=some (.bool u.2.1):=hc 1 _ rfl;have c2:W.drew.cell? (a'.add 2)=some (.slice u.2.2.1.a u.2.2.1.len u.2.2.1.cap):=hc 2 _ rfl;simp -zeta only[sx,getElem?_cons_zero,getElem?_cons_succ,c0,c1,c2,raD.cell];refine Yu λW' hf=>⟨_,rfl,?_⟩;by_cases hg:Ux u x0 x2.len<0
  ·rw[decide_eq_true hg,cond_true,wrap_i64 (by omega) (by omega)];refine z _ _ ⟨(i+j) / 2+1,j,by omega,hj,by simp,rfl,Wd.trans hf,λk v hk hv=> ?_,ha⟩ (by simp only;omega);rcases lt_or_ge k ((i+j) / 2) with h|h
   ·exact mono _ _ _ _ h hv hx hg
   ·have:k=(i+j) / 2:=by omega
    subst this;rw[hx] at hv
    cases hv
    exact hg
  ·rw[decide_eq_false hg,cond_false];refine z _ _ ⟨i,(i+j) / 2,by omega,by omega,rfl,rfl,Wd.trans hf,hb,λk v hk hv I=> ?_⟩ (by simp only;omega);rcases lt_or_ge ((i+j) / 2) k with h|h
   ·exact hg (mono _ _ _ _ h hx hv I)
   ·have:k=(i+j) / 2:=by omega
    subst this;rw[hx] at hv
    cases hv
    exact hg I
 ·rw[decide_eq_false Y,cond_false];have:i=j:=by omega
  subst this;intro J;by_cases hg:(i:Int)<(s.len:Int)
  ·rw[decide_eq_true hg,cond_true];have hx:=getElem?_eq_getElem (show i<xs.length by omega);generalize xs[i]=u at hx;refine SlN_ix oC (by omega) U (by omega) (by rw[toNat_natCast];exact hx) λa' hc=> ?_;have c0:W.drew.cell? (a'.add 0)=some (.int .i64 u.1):=hc 0 _ rfl;have c1:W.drew.cell? (a'.add 1)=some (.bool u.2.1):=hc 1 _ rfl;have c2:W.drew.cell? (a'.add 2)=some (.slice u.2.2.1.a u.2.2.1.len u.2.2.1.cap):=hc 2 _ rfl;simp -zeta only[sx,getElem?_cons_zero,getElem?_cons_succ,c0,c1,c2,raD.cell];refine Yu λW' hf=>⟨_,rfl,?_⟩;exact⟨⟨i,rfl,hj,hb,ha⟩,(f1.trans Wd).trans hf⟩
  ·rw[decide_eq_false hg,cond_false];exact⟨⟨i,rfl,hj,hb,ha⟩,f1.trans Wd⟩
theorem ah5 {o1 o2:Int} {n1 n2:Int}:ah4 o1 n1 o2 n2<0↔o1<o2\/(o1=o2/\n1<n2):=by
 unfold ah4 acV;by_cases h1:o1<o2
 ·simp[h1]
 ·by_cases h2:o2<o1
  ·simp[h1,h2];omega
  ·have:o1=o2:=by omega
   subst this;by_cases h3:n1<n2
   ·simp[h3]
   ·by_cases h4:n2<n1<;>simp[h3,h4]
theorem abm {l:List Pc} (h:∀p∈l,0<=p.1/\pend p<=65535):sum l<=65535 * l.length:=by
 induction l with
 |nil=>simp[sum]
 |cons p l ih=>
  have h1:=h p (by simp);have h2:=ih λq hq=>h q (by simp[hq]);unfold sum pend at *;simp only[List.map_cons,List.sum_cons,length_cons];omega
theorem Bq.ins {w:World} {xs:List P3} {l:List Pc} (h:Bq w xs l) {i:Nat} (hi:i<=xs.length) {x:P3} {p:Pc} (hx:akb w x p):Bq w (xs.take i++x::xs.drop i) (l.take i++p::l.drop i):=by
 have hlen:=h.len;refine⟨by simp;omega,λk y q hy hq=> ?_⟩;rcases Nat.lt_trichotomy k i with hk|hk|hk
 ·rw[List.getElem?_append_left (by simp;omega),List.getElem?_take_of_lt hk] at hy hq;exact h.at_ k y q hy hq
 ·subst hk;rw[List.getElem?_append_right (by simp;omega)] at hy hq;rw[length_take,min_eq_left (by omega),Nat.sub_self] at hy;rw[length_take,min_eq_left (by omega),Nat.sub_self] at hq
  cases hy;cases hq
  exact hx
 ·rw[List.getElem?_append_right (by simp;omega)] at hy hq;rw[length_take,min_eq_left (by omega)] at hy;rw[length_take,min_eq_left (by omega)] at hq;obtain⟨m,hm⟩:∃m,k - i=m+1:=⟨k - i - 1,by omega⟩;rw[hm,getElem?_cons_succ,List.getElem?_drop] at hy hq;exact h.at_ _ y q hy hq
theorem abh {l:List Pc} (hs:l.Pairwise le) {p:Pc} {i:Nat} (h1:∀(k:Nat) q,k<i->l[k]? =some q->le q p) (h2:∀(k:Nat) q,i<=k->l[k]? =some q->le p q):(l.take i++p::l.drop i).Pairwise le:=by
 rw[List.pairwise_append,List.pairwise_cons];refine⟨hs.sublist (List.take_sublist ..),⟨λq hq=> ?_,hs.sublist (List.drop_sublist ..)⟩,λq hq r hr=> ?_⟩
 ·obtain⟨k,hk⟩:=getElem?_of_mem hq;rw[List.getElem?_drop] at hk;exact h2 _ q (by omega) hk
 ·rcases List.mem_cons.1 hr with rfl|hr
  ·obtain⟨k,hk,he⟩:=List.mem_take_iff_getElem.1 hq;exact h1 k q (by omega) (by rw[getElem?_eq_getElem (by omega),he])
  ·have:=List.take_append_drop i l ▸ hs;exact(List.pairwise_append.1 this).2.2 q hq r hr
theorem VE {w:World} {h:Nat} {s:eY} {xs:List P3} {l:List Pc} (H:HAt w h s xs l (iU l)) (G:Gp.Hol.Good l) (hs:l.Pairwise le) (hl:l.length<=2^20) {off:Int} {more:Bool} {x2:eY} {b:List UInt8} (hx:iF w x2 b) (hb:b.length<=2^40):
  mM (some ⟨h,0,none⟩) off more x2 w λr w'=>r=(add l (off,more,b)).1/\∃s' xs' l',HAt w' h s' xs' l' (iU l')/\l'.Perm (add l (off,more,b)).2/\l'.Pairwise le/\
   fV w w' (λc=>c=h\/eY.at s c)/\(∀c,eY.at s' c->eY.at s c\/w.heap.size<=c)/\∀x∈xs',x∈xs\/∀a,x.2.2.1.a=some a->w.heap.size<=a.block:=by
 apply JF;have hg:∀p∈l,0<=p.1/\pend p<=65535:=λp hp=>⟨(G.ok p hp).1,(G.ok p hp).2.1⟩;have same:∀w',Ext w w'->∃s' xs' l',HAt w' h s' xs' l' (iU l')/\l'.Perm l/\l'.Pairwise le/\
   fV w w' (λc=>c=h\/eY.at s c)/\(∀c,eY.at s' c->eY.at s c\/w.heap.size<=c)/\∀x∈xs',x∈xs\/∀a,x.2.2.1.a=some a->w.heap.size<=a.block:=
  λw' hf=>⟨s,xs,l,H.ext hf,List.Perm.refl _,hs,hf _,λc hc=> .inl hc,λx hx=> .inl hx⟩
 refine kD (tJ H) ?_;rintro r w0 ⟨rfl,hw⟩;have hw:=hw.symm;subst hw;rw[Bool.not_true,cond_false];refine uP rfl rfl λa w1 ra ea z1 f1=> ?_;simp -zeta only[sx,getElem?_cons_zero,getElem?_cons_succ,ra.cell];refine V8 (ahO (hx.ext f1) hb) ?_;rintro r w2 ⟨rfl,f2⟩;have e2:=f1.trans f2;unfold add;by_cases hm:may (off,more,b)=0
 case neg=>
  rw[show (may (off,more,b) !=0)=true by simpa using hm,cond_true,if_pos hm];exact⟨rfl,same _ e2⟩
 rw[show (may (off,more,b) !=0)=false by simpa using hm,cond_false,if_neg (by simpa using hm)];obtain⟨o0,o1,o2⟩:=afJ hm;have o0:0<=off:=o0;have ra:=ra.ext f2;simp -zeta only[getElem?_cons_zero,getElem?_cons_succ,fC,fE,fD,gW,ra.cell];refine uo (Eb (H.ext e2) (by omega) (hx.ext e2)) ?_;rintro r w3 ⟨rfl,f3⟩;have e3:=e2.trans f3;by_cases I:((off,more,b):Pc)∈l
 ·rw[decide_eq_true I,cond_true,if_pos I];exact⟨rfl,same _ e3⟩
 rw[decide_eq_false I,cond_false,if_neg I];have ra:=ra.ext f3;simp -zeta only[getElem?_cons_zero,getElem?_cons_succ,fC,fE,fD,gW,ra.cell];refine Fb (afK (H.ext e3) (by omega) hg (hx.ext e3) o0 o1) ?_;rintro r w4 ⟨rfl,f4⟩;have e4:=e3.trans f4
 cases ag:l.any (sh (off,more,b))
 case true=>
  rw[cond_true,if_pos rfl];exact⟨rfl,same _ e4⟩
 rw[cond_false,if_neg (by simp)];have ra:=ra.ext f4;simp -zeta only[getElem?_cons_zero,getElem?_cons_succ,fC,fE,fD,gW,ra.cell];refine Hy (qY (H.ext e4) (by omega) hg (hx.ext e4) o0 o1) ?_;rintro r w5 ⟨rfl,f5⟩;have e5:=e4.trans f5
 cases ah:fits l (iU l) (off,more,b)
 ·rw[Bool.not_false,cond_true,if_pos rfl];exact⟨rfl,same _ e5⟩
 rw[Bool.not_true,cond_false,if_neg (by simp)];have ra:=ra.ext f5;have H5:=H.ext e5;have Gn:=G.add hm ag ah;have az:=hx.1;refine gu (lK (hx.ext e5) (by omega)) ?_;rintro d w6 ⟨hd,hdn,f6,ab⟩;have f6:Ext w5 w6:=f6;have ra:=ra.ext f6;have z5:=e5.size;have z56:=f6.size;have hra:=ra.lt;have haw:a<w5.heap.size:=by have:=(f2.trans ((f3.trans f4).trans f5)).size;omega
 have hd0:=iF.jI hd;refine gB ra rfl (by simp) λw7 ra f7 z7=> ?_;simp only[List.set_cons_succ,List.set_cons_zero] at ra;have e7:Ext w w7:=(e5.trans f6).new (f7 (·=a) rfl) (by intro x hx e;omega);have hd7:iF w7 d b:=hd0.fr (f7 (·=a) rfl) λa' ha' _ e=>by
  have:=ab _ (hd.at_eq ha');omega
 have e8:=e7.trans (Ext.drew w7);have H8:=H.ext e8;have ra8:=ra.drew;have hd8:iF w7.drew d b:=hd7.ext (Ext.drew _);have aA:d.len=b.length:=hd7.1;have hxl:=H.pcs.len;simp -zeta only[getElem?_cons_zero,getElem?_cons_succ,fC,fE,fD,gW,ra8.cell,H8.row.cell];have U:∀{k:Nat} {u:P3} {q:Pc},xs[k]? =some u->l[k]? =some q->(Ux u off d.len<0↔q.1<off\/(q.1=off/\q.2.2.length<b.length)):=by
  intro k u q hu hq;obtain⟨g1,g2,g3⟩:=H.pcs.at_ k u q hu hq;unfold Ux;rw[ah5,g1,aA];have:=g3.1;omega
 refine jQ (amG H8.sl (by omega) ?_) ?_
 ·intro i j u v aB hu hv ai;obtain⟨p,hp,_⟩:=H.pcs.get hu;obtain⟨q,hq,_⟩:=H.pcs.get hv;have aC:le p q:=by
   have h1:=List.getElem?_eq_some_iff.1 hp;have h2:=List.getElem?_eq_some_iff.1 hq;obtain⟨h1,rfl⟩:=h1;obtain⟨h2,rfl⟩:=h2;exact List.pairwise_iff_getElem.1 hs i j h1 h2 aB
  simp only at ai ⊢;rw[U hv hq] at ai;rw[U hu hp];unfold le at aC;omega
 rintro r _ w9 ⟨⟨i,rfl,hi,hb1,hb2⟩,f9⟩;simp only at hb1 hb2;have aj:=(e8.trans f9).trans (Ext.drew w9);have aD:=H.ext aj;have ra10:=(ra8.ext f9).drew;have hd10:iF w9.drew d b:=(hd8.ext f9).ext (Ext.drew _);simp -zeta only[getElem?_cons_zero,getElem?_cons_succ,fC,fE,fD,gW,ra10.cell,aD.row.cell];refine fP λv av rv ev z11 f11=> ?_;have ac:=aj.trans f11;have ae:=H.ext ac;have hd11:=hd10.ext f11;refine⟨ae.row.cell 0,?_⟩;have hhlt:=H.row.lt;refine pJ (ado (s:=s) (y:=(off,more,d,())) ae.buf rv (λc hc e=> ?_) hi (by omega)) ?_
 ·have:=H.buf.lt hc;have:=aj.size;omega
 rintro t aw ⟨ak,f12,ht⟩;have hrow12:=ae.row.fr f12 λhc=>H.apart _ hc rfl;have hpc11:Bq av (xs.take i++(off,more,d,())::xs.drop i) (l.take i++(off,more,b)::l.drop i):=ae.pcs.ins hi ⟨rfl,rfl,hd11⟩;have hfree11:P6 (xs.take i++(off,more,d,())::xs.drop i) (eY.at s):=by
  intro x hx a' ha' h0 hc;rcases List.mem_append.1 hx with hx|hx
  ·exact H.free x (mem_of_mem_take hx) a' ha' h0 (.inr hc)
  rcases List.mem_cons.1 hx with rfl|hx
  ·have h1:=ab _ (hd.at_eq ha');have h2:=H.buf.lt hc;omega
  ·exact H.free x (List.mem_of_mem_drop hx) a' ha' h0 (.inr hc)
 have hpc12:=hpc11.fr f12 hfree11;have al:∀x∈xs.take i++(off,more,d,())::xs.drop i,∀a',x.2.2.1.a=some a'->0<x.2.2.1.len->a'.block≠h/\¬eY.at t a'.block:=by
  intro x hx a' ha' h0;have ai:a'.block<av.heap.size:=by
   obtain⟨k,hk⟩:=getElem?_of_mem hx;obtain⟨p,hp,g1,g2,g3⟩:=hpc11.get hk;exact g3.lt ha' (by have:=g3.1;omega)
  refine⟨?_,λhc=> ?_⟩
  ·rcases List.mem_append.1 hx with hx|hx
   ·exact λe=>H.free x (mem_of_mem_take hx) a' ha' h0 (.inl e)
   rcases List.mem_cons.1 hx with rfl|hx
   ·have h1:=ab _ (hd.at_eq ha');omega
   ·exact λe=>H.free x (List.mem_of_mem_drop hx) a' ha' h0 (.inl e)
  ·rcases ht _ hc with hc|hc
   ·exact hfree11 x hx a' ha' h0 hc
   ·omega
 have ax:∀c,eY.at t c->c≠h:=by
  intro c hc e;rcases ht _ hc with hc|hc
  ·exact H.apart _ hc e
  ·have:=ac.size;omega
 have z:(l.take i++(off,more,b)::l.drop i).Perm (l++[(off,more,b)]):=by
  refine List.perm_middle.trans ?_;rw[List.take_append_drop];exact(List.perm_append_singleton _ _).symm
 have af:=Gn.perm z.symm;have am:(l.take i++(off,more,b)::l.drop i).Pairwise le:=by
  refine abh hs (λk q hk hq=> ?_) λk q hk hq=> ?_
  ·have hu:=getElem?_eq_getElem (show k<xs.length by have:=(List.getElem?_eq_some_iff.1 hq).1;omega);have:=(U hu hq).1 (hb1 k _ hk hu);unfold le;simp only;omega
  ·have hu:=getElem?_eq_getElem (show k<xs.length by have:=(List.getElem?_eq_some_iff.1 hq).1;omega);have:=mt (U hu hq).2 (hb2 k _ hk hu);unfold le;simp only;omega
 have an:sum (l.take i++(off,more,b)::l.drop i)=sum l+(b.length:Int):=by
  rw[Mc z];simp[sum]
 have Z:iU (l.take i++(off,more,b)::l.drop i)=if more=false then pend (off,more,b) else iU l:=by
  cases aa:more
  ·rw[aa] at af z;rw[if_pos rfl];exact oQ af.one (p:=(off,false,b)) (by simp) rfl
  ·rw[aa] at af z Gn;rw[if_neg (by simp),Js af.one z];by_cases hex:∃p∈l,p.2.1=false
   ·obtain⟨p,hp,ay⟩:=hex;rw[oQ G.one hp ay,oQ Gn.one (List.mem_append_left _ hp) ay]
   ·have h1:∀p∈l,p.2.1=true:=λp hp=>by
     cases aE:p.2.1
     ·exact absurd ⟨p,hp,aE⟩ hex
     ·rfl
    rw[Az h1,Az λp hp=> ?_];rcases List.mem_append.1 hp with hp|hp
    ·exact h1 p hp
    ·rw[List.mem_singleton.1 hp]
 have hsl:=abm hg;have hsn:=xu l;have Y:∀x∈xs.take i++(off,more,d,())::xs.drop i,x∈xs\/∀a',x.2.2.1.a=some a'->w.heap.size<=a'.block:=by
  intro x hx;rcases List.mem_append.1 hx with hx|hx
  ·exact .inl (mem_of_mem_take hx)
  rcases List.mem_cons.1 hx with rfl|hx
  ·exact .inr λa' ha'=>by have:=ab _ (hd.at_eq ha');omega
  ·exact .inl (List.mem_of_mem_drop hx)
 have aF:∀c,eY.at t c->eY.at s c\/w.heap.size<=c:=λc hc=>(ht c hc).imp id λh=>by have:=ac.size;omega
 refine gB hrow12 rfl (by simp) λw13 ao f13 z13=> ?_;simp only[List.set_cons_zero] at ao;simp -zeta only[getElem?_cons_zero,getElem?_cons_succ,fC,fD,ao.cell];rw[wrap_i64 (by omega) (by omega)];refine gB ao rfl (by simp) λaq ar f14 z14=> ?_;simp only[List.set_cons_succ,List.set_cons_zero] at ar;have f1214:fV aw aq (·=h):=(f13 (·=h) rfl).trans (f14 (·=h) rfl) λ_ _ e=>e;have fin:∀(w':World) (la:Int),Row w' h [.slice t.a t.len t.cap,.int .i64 (sum l+(x2.len:Int)),.int .i64 la,.bool true]->fV aw w' (·=h)->la=iU (l.take i++(off,more,b)::l.drop i)->
   (0:Int)=0/\∃s' xs' l',HAt w' h s' xs' l' (iU l')/\l'.Perm (l++[(off,more,b)])/\l'.Pairwise le/\
   fV w w' (λc=>c=h\/eY.at s c)/\(∀c,eY.at s' c->eY.at s c\/w.heap.size<=c)/\∀x∈xs',x∈xs\/∀a,x.2.2.1.a=some a->w.heap.size<=a.block:=by
  intro w' la hr hf aG;refine⟨rfl,t,_,_,⟨?_,ak.fr hf ax,hpc12.fr hf λx hx a' ha' h0 e=>(al x hx a' ha' h0).1 e,ax,λx hx a' ha' h0 e=>e.elim (al x hx a' ha' h0).1 (al x hx a' ha' h0).2⟩,z,am,?_,aF,Y⟩
  ·rw[an,<- aG,<- az];exact hr
  ·exact(ac _).trans ((f12.mono (S':=λc=>c=h\/eY.at s c) λc hc=> .inr hc).trans (hf.mono λc hc=> .inl hc) λ_ _ e=>e) λ_ _ e=>e
 have hav:a<w9.drew.heap.size:=ra10.lt;have ra14:Row aq a _:=((ra10.ext f11).fr f12 (λhc=>by have:=H.buf.lt hc;omega)).fr f1214 (by omega);intro J
 cases aa:more
 ·rw[Bool.not_false,cond_true];simp -zeta only[getElem?_cons_zero,getElem?_cons_succ,fC,fE,fD,gW,ra14.cell];refine jF (Jm _) ?_;rintro r w15 ⟨rfl,f15⟩;have aH:=ar.ext f15;refine gB aH rfl (by simp) λaI au f16 z16=> ?_;simp only[List.set_cons_succ,List.set_cons_zero] at au;unfold pend at o1;simp only at o1;rw[wrap_i64 (by omega) (by omega)] at au;have res:=fin aI _ au ((f1214.ext f15).trans (f16 (·=h) rfl) λ_ _ e=>e) (by
   rw[Z,if_pos aa];unfold pend;simp only;omega)
  exact⟨by trivial,res.2⟩
 ·rw[Bool.not_true,cond_false];have res:=fin aq _ ar f1214 (by rw[Z,if_neg (by rw[aa];simp)]);exact⟨by trivial,res.2⟩
theorem aeC {w:World} {h:Nat} {s:eY} {xs:List P3} {l:List Pc} {last:Int} (H:HAt w h s xs l last):kN (some ⟨h,0,none⟩) w λr w'=>r=sum l/\w'=w:=by
 apply FZ;refine kD (tJ H) ?_;rintro r w' ⟨rfl,hw⟩;subst hw;rw[Bool.not_true,cond_false];simp only[sx,getElem?_cons_zero,getElem?_cons_succ,H.row.cell];exact⟨by trivial,by trivial⟩
def acd (l:List Pc) (off:Int) (b:List UInt8):Int:=if ((off,true,b):Pc)∈l\/((off,false,b):Pc)∈l then 0 else b.length
theorem aif {w:World} {h:Nat} {s:eY} {xs:List P3} {l:List Pc} {last:Int} (H:HAt w h s xs l last) (hl:l.length<=2^30) {off:Int} {x2:eY} {b:List UInt8} (hx:iF w x2 b):
  lI (some ⟨h,0,none⟩) off x2 w λr w'=>r=acd l off b/\Ext w w':=by
 apply Ic;unfold acd;intro J;refine kD (tJ H) ?_;rintro r w' ⟨rfl,hw⟩;subst hw;rw[Bool.not_true,cond_false];refine uo (Eb H hl hx) ?_;rintro r w2 ⟨rfl,f2⟩;by_cases h1:((off,true,b):Pc)∈l
 ·rw[decide_eq_true h1,cond_true];simp only[J,cond_true,if_pos (Or.inl h1:((off,true,b):Pc)∈l\/((off,false,b):Pc)∈l)];exact⟨by trivial,f2⟩
 rw[decide_eq_false h1,cond_false];refine uo (Eb (H.ext f2) hl (hx.ext f2)) ?_;rintro r w3 ⟨rfl,f3⟩;by_cases h2:((off,false,b):Pc)∈l
 ·rw[decide_eq_true h2];simp only[J,cond_true,if_pos (Or.inr h2:((off,true,b):Pc)∈l\/((off,false,b):Pc)∈l)];exact⟨by trivial,f2.trans f3⟩
 rw[decide_eq_false h2];simp only[J,cond_false];rw[if_neg (by simp[h1,h2])];exact⟨by rw[hx.1],f2.trans f3⟩
abbrev yG (l:List (Int×Int)):List (Int×Int×Unit):=l.map λg=>(g.1,g.2,())
theorem agw {A B:List (Int×Int)} {g:Int×Int}:(yG (A++g::B))[A.length]? =some (g.1,g.2,()):=by
 unfold yG;rw[List.getElem?_map,List.getElem?_append_right (Nat.le_refl _),Nat.sub_self];rfl
theorem adf (m last:Int) (p:Pc) (l:List Pc):gaps m (p::l) last=(if p.1>m then [(m,p.1)] else [])++gaps (max m (pend p)) l last:=rfl
theorem afd (m last:Int):gaps m [] last=if last>m then [(m,last)] else []:=rfl
theorem adg {f0 h:Nat} {s:eY} {xs:List P3} {l:List Pc} {last:Int} (hl:l.length<=2^30) (hg:∀p∈l,0<=p.1/\pend p<=65535):
  Pj Tryz.prog [.one (.int .i64),.one (.int .i64)] (Value.func (.func FM) #[] #[.pointer (some ⟨f0,0,none⟩)]) (λW=>Row W f0 [.pointer (some ⟨h,0,none⟩)]/\HAt W h s xs l last) (yG (gaps 0 l last)):=by
 refine⟨by kernel_rfl,λy w Q D hC hQ hD hy h0=> ?_⟩;refine Calls.mono (EI (a0:= .func (.yield y) #[] #[]) (f0:=⟨f0,0,none⟩) (K:=λw'=>Q (yG (gaps 0 l last)).length w'\/D w') ?_) (λe w' h=>h);obtain⟨r0,H⟩:=hC _ _ h0;have hlen:=H.len;have hxl:=H.pcs.len;simp -zeta only[sx,getElem?_cons_zero,r0.cell];refine kD (tJ H) ?_;rintro r w0 ⟨rfl,hw⟩;have hw:=hw.symm;subst hw;rw[Bool.not_true,cond_false];simp -zeta only[KZ,KZ,getElem?_cons_zero,fC,fE,D9,r0.cell,H.row.cell];refine fZ (λst W=>∃j:Nat,j<=l.length/\st.2.1=(j:Int)/\0<=st.1/\st.1<=65535/\w.heap.size<=W.heap.size/\∃done,gaps 0 l last=done++gaps st.1 (l.drop j) last/\Q done.length W) (λst _=>(l.length - st.2.1).toNat)
  ⟨0,by omega,rfl,by simp,by simp,Nat.le_refl _,[],rfl,h0⟩ ?_
 rintro⟨m,i,⟨⟩⟩ W ⟨j,hj,hi,hm0,hm1,hz,done,hd,hq⟩ next z
 simp only at hi hm0 hm1 hd;subst hi;obtain⟨r0,H⟩:=hC _ _ hq;by_cases Z:(j:Int)<(s.len:Int)
 ·rw[decide_eq_true Z,cond_true];have Y:=getElem?_eq_getElem (show j<xs.length by omega);generalize xs[j]=x at Y;obtain⟨p,hp,e1,e2,e3⟩:=H.pcs.get Y;have aa:=hg p (mem_of_getElem? hp);have I:l.drop j=p::l.drop (j+1):=by
   obtain⟨h1,rfl⟩:=List.getElem?_eq_some_iff.1 hp;exact List.drop_eq_getElem_cons h1
  obtain⟨y0,y1,y2,⟨⟩⟩:=x;obtain⟨p0,p1,p2⟩:=p;simp only at e1 e2 e3;subst e1 e2;refine SlN_ix oC (by omega) H.sl (by simp only;omega) (by simp only;rw[toNat_natCast];exact Y) λa' hc=> ?_;have c0:W.cell? (a'.add 0)=some (.int .i64 y0):=hc 0 _ rfl;have c1:W.cell? (a'.add 1)=some (.bool y1):=hc 1 _ rfl;have c2:W.cell? (a'.add 2)=some (.slice y2.a y2.len y2.cap):=hc 2 _ rfl;simp -zeta only[fC,fE,fD,gW,c0,c1,c2];refine uP rfl rfl λt W1 rt et zt ft=> ?_;have hq1:=hQ _ _ _ hq (ft _);have e3':=e3.1;unfold pend at aa;simp only at aa;intro J;have U:∀(W':World) (done':List (Int×Int)),Row W' t [.int .i64 y0,.bool y1,.slice y2.a y2.len y2.cap]->w.heap.size<=W'.heap.size->gaps 0 l last=done'++gaps (max m (pend (y0,y1,p2))) (l.drop (j+1)) last->Q done'.length W'->J false W':=by
   intro W' done' rt hz' hd' hq';simp only[J,cond_false];simp only[sx,getElem?_cons_zero,getElem?_cons_succ,rt.cell];refine jF (Jm _) ?_;rintro r W'' ⟨rfl,hf⟩;rw[wrap_i64 (n:=y0+_) (by(try simp only);omega) (by(try simp only);omega),wrap_i64 (by omega) (by omega)]
   have ab:(if y0+(y2.len:Int)>m then y0+(y2.len:Int) else m)=max m (pend (y0,y1,p2)):=by
    unfold pend;simp only;rw[<- e3'];split<;>omega
   simp only;rw[ab];refine z _ _ ⟨j+1,by omega,by simp,?_,?_,Nat.le_trans hz' hf.size,done',hd',hQ _ _ _ hq' (hf _)⟩ (by simp only;omega)
   ·simp only;omega
   ·unfold pend;simp only;omega
  have ac:∀W',D W'->J true W':=by
   intro W' hd';simp only[J,cond_true];exact .inr hd'
  clear_value J;rw[I] at hd;simp -zeta only[getElem?_cons_zero,fC,fD,rt.cell];rw[adf] at hd;simp only at hd;by_cases u:y0>m
  ·rw[if_pos u] at hd;rw[decide_eq_true u,cond_true];simp only[List.cons_append,List.nil_append] at hd;refine kC (hy done.length (m,y0,()) W1 _ (by rw[hd];exact agw) hq1 ?_ ?_)
   ·intro W' hq' hf';refine⟨true,rfl,?_⟩;rw[Bool.not_true];exact U W' (done++[(m,y0)]) (rt.fr hf' (by omega)) (by have:=hf'.size;omega) (by rw[hd];simp) (by simpa using hq')
   ·intro W' hd' hf';exact⟨false,rfl,ac W' hd'⟩
  ·rw[if_neg u,List.nil_append] at hd;rw[decide_eq_false u,cond_false];exact U W1 done rt (by have:=(ft λ_=>False).size;omega) hd hq1
 ·rw[decide_eq_false Z,cond_false];have:j=l.length:=by omega
  subst this;rw[List.drop_length] at hd;simp only[sx,getElem?_cons_zero,getElem?_cons_succ,r0.cell,H.row.cell];rw[afd] at hd;by_cases u:last>m
  ·rw[if_pos u] at hd;rw[decide_eq_true u,cond_true];refine kC (hy done.length (m,last,()) W _ (by rw[hd];exact agw) hq ?_ ?_)
   ·intro W' hq' hf';refine⟨true,rfl,.inl ?_⟩;rw[hd];simpa using hq'
   ·intro W' hd' hf';exact⟨false,rfl,.inr hd'⟩
  ·rw[if_neg u] at hd;rw[decide_eq_false u,cond_false];refine .inl ?_;rw[hd];simpa using hq
theorem ahq {w:World} {h:Nat} {s:eY} {xs:List P3} {l:List Pc} {last:Int} (H:HAt w h s xs l last) (hl:l.length<=2^30) (hg:∀p∈l,0<=p.1/\pend p<=65535):
  lH (some ⟨h,0,none⟩) w λv w'=>Ext w w'/\∃f0,w.heap.size<=f0/\Row w' f0 [.pointer (some ⟨h,0,none⟩)]/\
   Pj Tryz.prog [.one (.int .i64),.one (.int .i64)] v (λW=>Row W f0 [.pointer (some ⟨h,0,none⟩)]/\HAt W h s xs l last) (yG (gaps 0 l last)):=by
 apply Ib;refine⟨rfl,fP λa w1 ra ea z1 f1=> ?_⟩;exact⟨f1,a,by omega,ra,adg hl hg⟩
theorem ahd {w:World} {h:Nat} {s:eY} {xs:List P3} {l:List Pc} (H:HAt w h s xs l (iU l)) (G:Gp.Hol.Good l) (hl:l.length<=2^20):
  lG (some ⟨h,0,none⟩) w λr ok w'=>((ok=true/\0<=iU l/\gaps 0 l (iU l)=[]/\iF w' r (cat l))\/(ok=false/\(iU l<0\/gaps 0 l (iU l)≠[])/\iF w' r []))/\Ext w w':=by
 apply Ia;have hg:∀p∈l,0<=p.1/\pend p<=65535:=λp hp=>⟨(G.ok p hp).1,(G.ok p hp).2.1⟩;have hsl:=abm hg;have hsn:=xu l;refine fP λa w1 ra ea z1 f1=>fP λb w2 rb eb z2 f2=> ?_;have ra:=ra.ext f2;have f:=f1.trans f2;have H2:=H.ext f;intro J;have hT:iU l<0->J true w2:=by
  intro I;simp only[J,cond_true];refine gB ra rfl (by simp) λw3 ra3 g3 z3=> ?_;simp only[List.set_cons_zero] at ra3;have rb3:=rb.fr (g3 (·=a) rfl) (by omega);refine gB rb3 rfl (by simp) λw4 rb4 g4 z4=> ?_;simp only[List.set_cons_zero] at rb4;have ra4:=ra3.fr (g4 (·=b) rfl) (by omega);simp only[sx,getElem?_cons_zero,ra4.cell,rb4.cell];exact⟨.inr ⟨by trivial,.inl I,iF.nil⟩,f.new (S:=λx=>x=a\/x=b) ((g3 _ (.inl rfl)).trans (g4 _ (.inr rfl)) λ_ _ e=>e) (by intro x hx e;rcases e with rfl|rfl<;>omega)⟩
 have hF:0<=iU l->J false w2:=by
  intro ac;simp only[J,cond_false];clear hT;refine Hu (ahq H2 (by omega) hg) ?_;rintro v w3 ⟨f3,f0,hf0,rf,hv⟩;have ra3:=ra.ext f3;have rb3:=rb.ext f3;have e3:=f.trans f3;have hrf:=rf.lt;have hra:=ra.lt;have hrb:=rb.lt;have z3:=f3.size;have lq:jU none w3=w3.heap.size+1:=rfl;have hh:=H.row.lt;refine adS hv (λi W=>i=0/\Row W a [.slice none 0 0]/\Row W b [.bool false]/\Row W f0 [.pointer (some ⟨h,0,none⟩)]/\HAt W h s xs l (iU l)/\Ext w W)
   (λe W=>e= .ret/\gaps 0 l (iU l)≠[]/\Row W a [.slice none 0 0]/\Row W b [.bool false]/\Ext w W) (by simp) ?_ ?_ ?_ ?_ ?_ ?_ ?_ ?_ ?_
  ·exact λW hx _=>⟨rfl,ra3.ext hx,rb3.ext hx,rf.ext hx,(H2.ext f3).ext hx,e3.trans hx⟩
  ·exact λi W hI=>⟨hI.2.2.2.1,hI.2.2.2.2.1⟩
  ·rintro i W W' ⟨h1,h2,h3,h4,h5,h6⟩ hf;rw[lq] at hf;exact⟨h1,h2.fr hf (by omega),h3.fr hf (by omega),h4.fr hf (by omega),h5.fr hf (by omega) (λc hc=>by have:=H.buf.lt hc;have:=e3.size;omega) (λx hx a' ha' h0 hc=>by
    obtain⟨k,hk⟩:=getElem?_of_mem hx;obtain⟨p,hp,g1,g2,g3⟩:=H.pcs.get hk;have:=g3.lt ha' (by have:=g3.1;omega);have:=e3.size;omega),h6.new hf λx hx e=>by have:=e3.size;omega⟩
  ·rintro e W W' ⟨h1,h2,h3,h4,h5⟩ hf;rw[lq] at hf;exact⟨h1,h2,h3.fr hf (by omega),h4.fr hf (by omega),h5.new hf λx hx e=>by have:=e3.size;omega⟩
  ·exact λe W hJ=> .inl hJ.1
  ·rintro i x W Kb hx ⟨rfl,h2,h3,h4,h5,h6⟩ ab hn hj;rw[lq] at ab hn hj ⊢;refine⟨by trivial,?_⟩;have fb:=fV.fF W (w3.heap.size+1);have k2:=h2.fr fb (by omega);have k3:=h3.fr fb (by omega);have k6:Ext w (fF W (w3.heap.size+1)):=h6.new fb λx hx e=>by have:=e3.size;omega
   refine gB k2 rfl (by simp) λw4 ra4 g4 z4=> ?_;simp only[List.set_cons_zero] at ra4;have rb4:=k3.fr (g4 (·=a) rfl) (by omega);refine gB rb4 rfl (by simp) λw5 rb5 g5 z5=> ?_;simp only[List.set_cons_zero] at rb5;have ra5:=ra4.fr (g5 (·=b) rfl) (by omega);have U:fV (fF W (w3.heap.size+1)) w5 (λx=>x=a\/x=b):=(g4 _ (.inl rfl)).trans (g5 _ (.inr rfl)) λ_ _ e=>e;refine hj .ret w5 (λx=>x=a\/x=b) U (by intro x e;rcases e with rfl|rfl<;>omega) ⟨rfl,λhe=> ?_,ra5,rb5,k6.new U (by intro x hx e;rcases e with rfl|rfl<;>omega)⟩
   rw[he] at hx
   cases hx
  ·rintro W ⟨hi,h2,h3,h4,h5,h6⟩ hm;have hm:=hm rfl;have ae:gaps 0 l (iU l)=[]:=by
    have:(gaps 0 l (iU l)).length=0:=by simpa [yG] using hi
    exact List.length_eq_zero_iff.1 this
   have Y:=(Array.getElem?_eq_some_iff.1 hm).1;simp only[sx,getElem?_cons_zero,getElem?_cons_succ,h5.row.cell];refine C9 (by omega) (by omega) (by omega) (by omega) λc W1 rc ec zc fc=> ?_;have H1:=h5.ext fc;simp only[getElem?_cons_zero,fC,fE,H1.row.cell];have hlen:=H.len;have hxl:=H.pcs.len;have hb0:Buf W1 ⟨some ⟨c,0,none⟩,0,(sum l).toNat⟩ (bytesV []):=⟨rfl,.inr ⟨c,fO [Value.int .u8 0] (sum l).toNat,rfl,by simp only[vU,bytesV,map_nil,length_nil,length_cons];omega,by simpa [bytesV] using rc⟩⟩;refine fZ (λst W'=>∃j:Nat,j<=l.length/\st.2.1=(j:Int)/\Ext W W'/\Buf W' st.1 (bytesV (cat (l.take j)))/\∀x,eY.at st.1 x->W.heap.size<=x) (λst _=>(l.length - st.2.1).toNat)
    ⟨0,by omega,rfl,fc,by simpa [cat] using hb0,λx hx=>by obtain⟨o,e⟩:=hx;cases e;omega⟩ ?_
   rintro⟨t,i',⟨⟩⟩ W2 ⟨j,hj,hi',fW,z,Z⟩ next aa
   simp only at hi' z Z;subst hi';by_cases ab:(j:Int)<(s.len:Int)
   ·rw[decide_eq_true ab,cond_true];have af:=getElem?_eq_getElem (show j<xs.length by omega);generalize xs[j]=x at af;have Hj:=h5.ext fW;obtain⟨p,hp,e1,e2,e3⟩:=Hj.pcs.get af;obtain⟨y0,y1,y2,⟨⟩⟩:=x;obtain⟨p0,p1,p2⟩:=p;simp only at e1 e2 e3;subst e1 e2;refine SlN_ix oC (by omega) Hj.sl (by simp only;omega) (by simp only;rw[toNat_natCast];exact af) λa' hc=> ?_;have c0:W2.cell? (a'.add 0)=some (.int .i64 y0):=hc 0 _ rfl;have c1:W2.cell? (a'.add 1)=some (.bool y1):=hc 1 _ rfl;have c2:W2.cell? (a'.add 2)=some (.slice y2.a y2.len y2.cap):=hc 2 _ rfl;simp only[fC,fE,fD,gW,c0,c1,c2];refine uP rfl rfl λu W3 ru eu zu fu=> ?_;simp only[sx,getElem?_cons_zero,getElem?_cons_succ,ru.cell];have ag:=Gp.Hol.take_snoc' hp;have hs1:=abm (l:=l.take (j+1)) λq hq=>hg q (mem_of_mem_take hq);rw[length_take,min_eq_left (by omega),ag,<- VY,Yf,length_append] at hs1;simp only at hs1;refine kU (z.ext fu) (e3.ext fu) (by omega) λs' W4 h1 h2 h3 _=> ?_;rw[wrap_i64 (by(try simp only);omega) (by(try simp only);omega)]
    refine aa _ _ ⟨j+1,by omega,by simp,(fW.trans fu).new h2 λx hx hc=> ?_,?_,?_⟩ (by simp only;omega)
    ·have:=Z x hc;omega
    ·rw[ag,Yf];exact h1
    ·intro x hx;rcases h3 x hx with h|h
     ·exact Z x h
     ·have:=(fW.trans fu).size;omega
   ·rw[decide_eq_false ab,cond_false];have:j=l.length:=by omega
    subst this;rw[List.take_length] at z;have r1:=h2.ext fW;have r2:=h3.ext fW;refine gB r1 rfl (by simp) λw4 ra4 g4 z4=> ?_;simp only[List.set_cons_zero] at ra4;have rb4:=r2.fr (g4 (·=a) rfl) (by omega);refine gB rb4 rfl (by simp) λw5 rb5 g5 z5=> ?_;simp only[List.set_cons_zero] at rb5;have ra5:=ra4.fr (g5 (·=b) rfl) (by omega);have U:fV W2 w5 (λx=>x=a\/x=b):=(g4 _ (.inl rfl)).trans (g5 _ (.inr rfl)) λ_ _ e=>e;have hza:=h2.lt;have hzb:=h3.lt;refine⟨?_,?_⟩
    ·rw[<- hm,<- (fW λ_=>False).same w3.heap.size Y (by simp)];exact U.same _ (by have:=fW.size;omega) (by intro e;rcases e with e|e<;>omega)
    ·have fp:=fV.jh w5 w3.heap.size (.deferred none);have q1:=ra5.fr fp (by omega);have q2:=rb5.fr fp (by omega);simp only[getElem?_cons_zero,fC,fE,gW,q1.cell,q2.cell];have hb2:iF (w5.putObj w3.heap.size (.deferred none)) t (cat l):=by
      refine((iF.jI z).fr U λa' ha' _ e=> ?_).fr fp λa' ha' _ e=> ?_
      ·have:=Z _ (z.at_eq ha');rcases e with e|e<;>omega
      ·have:=Z _ (z.at_eq ha');omega
     exact⟨.inl ⟨by trivial,ac,ae,hb2⟩,(((h6.trans fW).new U (by intro x hx e;rcases e with rfl|rfl<;>omega))).new fp λx hx e=>by have:=e3.size;omega⟩
  ·rintro W ⟨_,ah,h3,h4,h5⟩ hm;have hm:=hm rfl;have Y:=(Array.getElem?_eq_some_iff.1 hm).1;refine⟨hm,?_⟩;have fp:=fV.jh W w3.heap.size (.deferred none);have q1:=h3.fr fp (by omega);have q2:=h4.fr fp (by omega);simp only[sx,getElem?_cons_zero,q1.cell,q2.cell];exact⟨.inr ⟨by trivial,.inr ah,iF.nil⟩,h5.new fp λx hx e=>by have:=e3.size;omega⟩
  ·rintro id W ⟨h1,_⟩
   cases h1
 clear_value J;refine kD (tJ H2) ?_;rintro r w0 ⟨rfl,hw⟩;have hw:=hw.symm;subst hw;rw[Bool.not_true,cond_false];simp -zeta only[sx,getElem?_cons_zero,getElem?_cons_succ,H2.row.cell];by_cases I:iU l<0
 ·rw[decide_eq_true I];exact hT I
 ·rw[decide_eq_false I];exact hF (by omega)
theorem am8 {b:Nat} (h:eY.at ⟨none,0,0⟩ b):False:=by obtain⟨o,h⟩:=h;cases h
theorem aln (w:World):Bq w [] []:=⟨rfl,λi x p hx=>by cases hx⟩
theorem ahZ (S:Nat->Prop):P6 [] S:=λx hx=>by cases hx
theorem Rk (w:World):xP w λv w'=>∃h,v=some ⟨h,0,none⟩/\h=w.heap.size/\w'.heap.size=h+1/\HAt w' h ⟨none,0,0⟩ [] [] (iU [])/\Ext w w':=by
 apply Xl;refine fP λa w1 ra ea z1 f1=> ?_;exact⟨a,rfl,ea,z1,⟨ra,jB.nil,aln _,λb hb=>(am8 hb).elim,ahZ _⟩,f1⟩
theorem HAt.old {w w':World} {h v:Nat} {s:eY} {xs:List P3} {l:List Pc} {last:Int} (H:HAt w h s xs l last) {w1:World} (hx:Ext w w1) (hv:w.heap.size<=v) (hf:fV w1 w' (·=v)):HAt w' h s xs l last:=
 (H.ext (hx.new hf λb hb e=>by omega))
end Go.Proofs.JN
end
section
namespace Gp.Jn
open Gp.Hol
abbrev Key:=ByteArray
structure Bf where
 since:Int
 head:ByteArray
 begun:Bool
 L:List Pc
abbrev JT:=List (Key×Bf)
def room (l:List Pc) (off:Int) (b:List UInt8):Int:=if ((off,true,b):Pc)∈l\/((off,false,b):Pc)∈l then 0 else b.length
def wW (l:JT):Int:=(l.map λx=>sum x.2.L).sum
def aam (now:Int):Int:=min (max now 0) 1099511627776
def fresh (now:Int):Bf:=⟨aam now,⟨#[]⟩,false,[]⟩
def Et (many:Int) (l:JT) (k:Key) (now:Int):Option Bf:=
 match yE l k with
 |some x=>some x
 |none=>if many<=(l.length:Int) then none else some (fresh now)
def begin_ (x:Bf) (off:Int) (head:ByteArray):Bf:=if off=0/\x.begun=false then {x with head:=head,begun:=true} else x
theorem abH (x:Bf) (off:Int) (head:ByteArray):(begin_ x off head).L=x.L:=by unfold begin_;split<;>rfl
theorem X9 (x:Bf) (off:Int) (head:ByteArray):(begin_ x off head).since=x.since:=by unfold begin_;split<;>rfl
def abr (L:List Pc):Bool:=decide (0<=iU L/\sum L=iU L)
structure Out where
 head:ByteArray
 done:Bool
 e:Int
 l:JT
def ahG (bytes:Int) (l:JT) (x:Bf) (k:Key) (off:Int) (more:Bool) (b:List UInt8) (head:ByteArray):Out:=
 if bytes - wW l<room x.L off b then ⟨⟨#[]⟩,false,7,l⟩
 else if (Hol.add x.L (off,more,b)).1≠0 then ⟨⟨#[]⟩,false,(Hol.add x.L (off,more,b)).1,wQ l k⟩
 else if abr (Hol.add x.L (off,more,b)).2=true then ⟨(begin_ {x with L:=(Hol.add x.L (off,more,b)).2} off head).head,true,0,wQ l k⟩
 else ⟨⟨#[]⟩,false,0,G8 l k (begin_ {x with L:=(Hol.add x.L (off,more,b)).2} off head)⟩
def YP (many bytes:Int) (l:JT) (k:Key) (off:Int) (more:Bool) (b:List UInt8) (head:ByteArray) (now:Int):Out:=
 match Et many l k now with
 |none=>⟨⟨#[]⟩,false,7,l⟩
 |some x=>ahG bytes l x k off more b head
theorem uI (x:Key×Bf) (l:JT):wW (x::l)=sum x.2.L+wW l:=by simp[wW]
theorem ahH (l:JT) (k:Key) (x:Bf):wW (G8 l k x)=wW l+sum x.L - (match yE l k with|some y=>sum y.L|none=>0):=by
 induction l with
 |nil=>simp[G8,yE,wW]
 |cons y l ih=>
  unfold G8 yE;by_cases h:k=y.1
  ·rw[if_pos h,if_pos h,uI,uI];simp only;omega
  ·rw[if_neg h,if_neg h,uI,uI,ih];omega
theorem YT (l:JT) (k:Key):wW (wQ l k)=wW l - (match yE l k with|some y=>sum y.L|none=>0):=by
 induction l with
 |nil=>simp[wQ,yE,wW]
 |cons y l ih=>
  unfold wQ yE;by_cases h:k=y.1
  ·rw[if_pos h,if_pos h,uI];simp only;omega
  ·rw[if_neg h,if_neg h,uI,uI,ih];omega
theorem alT (l:JT) (k:Key) (x:Bf):(G8 l k x).length=if (yE l k).isSome then l.length else l.length+1:=by
 induction l with
 |nil=>simp[G8,yE]
 |cons y l ih=>
  unfold G8 yE;by_cases h:k=y.1
  ·rw[if_pos h,if_pos h];simp
  ·rw[if_neg h,if_neg h,List.length_cons,ih];split<;>simp
theorem agk (l:List Pc) (p:Pc):sum (l++[p])=sum l+(p.2.2.length:Int):=by simp[sum]
theorem sum_add (L:List Pc) (off:Int) (more:Bool) (b:List UInt8):sum (Hol.add L (off,more,b)).2<=sum L+room L off b/\sum L<=sum (Hol.add L (off,more,b)).2:=by
 have h0:0<=room L off b:=by unfold room;split<;>omega
 unfold Hol.add;split
 ·simp only;omega
 split
 ·simp only;omega
 rename_i hm;split
 ·simp only;omega
 split
 ·simp only;omega
 rename_i h1 h2 h3;simp only[agk];by_cases hr:((off,true,b):Pc)∈L\/((off,false,b):Pc)∈L
 ·
  have u:∀m:Bool,((off,m,b):Pc)∈L->L.any (sh (off,more,b))=true:=by
   intro m j;refine List.any_eq_true.2 ⟨_,j,?_⟩;have:=ail ((off,more,b):Pc);unfold sh pend at this ⊢;exact this
  rcases hr with h|h
  ·exact absurd (u _ h) (by simpa using h2)
  ·exact absurd (u _ h) (by simpa using h2)
 ·unfold room;rw[if_neg hr];omega
theorem U8 {many:Int} {l:JT} {k:Key} {now:Int} {x:Bf} (h:Et many l k now=some x):(match yE l k with|some y=>sum y.L|none=>0)=sum x.L/\((yE l k).isSome=false->(l.length:Int)<many):=by
 unfold Et at h;split at h
 ·rename_i y hy
  cases h
  rw[hy];exact⟨rfl,λh=>by simp at h⟩
 ·rename_i hn;rw[hn];split at h
  ·cases h
  ·cases h
   exact⟨rfl,λ_=>by omega⟩
theorem akP (l:JT) (k:Key):(wQ l k).length<=l.length:=(Pv l k).length_le
theorem YQ {many bytes:Int} {l:JT} (h1:wW l<=bytes) (h2:(l.length:Int)<=many) (k:Key) (off:Int) (more:Bool) (b:List UInt8) (head:ByteArray) (now:Int):
  wW (YP many bytes l k off more b head now).l<=bytes/\((YP many bytes l k off more b head now).l.length:Int)<=many:=by
 unfold YP;split
 ·exact⟨h1,h2⟩
 rename_i x hx;obtain⟨hs,hm⟩:=U8 hx;have hd:=YT l k;have hdl:=akP l k;have ha:=sum_add x.L off more b;have hxn:=xu x.L;unfold ahG;split
 ·exact⟨h1,h2⟩
 rename_i hroom;split
 ·simp only;rw[hd,hs];exact⟨by omega,by omega⟩
 split
 ·simp only;rw[hd,hs];exact⟨by omega,by omega⟩
 ·simp only;rw[ahH,hs,abH,alT];refine⟨by simp only;omega,?_⟩
  cases hc:(yE l k).isSome with
  |true=>simpa using h2
  |false=>have:=hm hc;simp;omega
end Gp.Jn
end
section
open List (map_cons mem_cons_of_mem mem_cons_self nodup_cons)
namespace Go.Proofs.JN
open Gp Gp.Hol Gp.Jn
abbrev KX (k:ByteArray):Value:= .string k
structure BR where
 b:Nat
 h:Nat
 s:eY
 xs:List P3
 l:List Pc
abbrev JE:=BR×Bf
def ac6 (e:JE):Value:= .pointer (some ⟨e.1.b,0,none⟩)
def Oe (r:BR) (z:Nat):Prop:=z=r.b\/z=r.h\/eY.at r.s z\/∃x∈r.xs,∃a:Addr,x.2.2.1.a=some a/\0<x.2.2.1.len/\a.block=z
structure UD (w:World) (e:JE):Prop where
 row:Row w e.1.b [.pointer (some ⟨e.1.h,0,none⟩),.int .i64 e.2.since,.string e.2.head,.bool e.2.begun]
 H:HAt w e.1.h e.1.s e.1.xs e.1.l (iU e.1.l)
 G:Gp.Hol.Good e.1.l
 srt:e.1.l.Pairwise le
 perm:e.1.l.Perm e.2.L
 ne:e.1.b≠e.1.h/\(¬eY.at e.1.s e.1.b)/\P6 e.1.xs (·=e.1.b)
theorem UD.fr {w w':World} {e:JE} {S:Nat->Prop} (h:UD w e) (hf:fV w w' S) (hs:∀z,Oe e.1 z->¬S z):UD w' e:=
 ⟨h.row.fr hf (hs _ (.inl rfl)),h.H.fr hf (hs _ (.inr (.inl rfl))) (λb hb=>hs b (.inr (.inr (.inl hb)))) (λx hx a ha h0=>hs _ (.inr (.inr (.inr ⟨x,hx,a,ha,h0,rfl⟩)))),h.G,h.srt,h.perm,h.ne⟩
theorem UD.ext {w w':World} {e:JE} (h:UD w e) (hf:Ext w w'):UD w' e:=h.fr (hf λ_=>False) λ_ _=>by simp
theorem UD.lt {w:World} {e:JE} (h:UD w e) {z:Nat} (hz:Oe e.1 z):z<w.heap.size:=by
 rcases hz with rfl|rfl|hz|⟨x,hx,a,ha,h0,rfl⟩
 ·exact h.row.lt
 ·exact h.H.row.lt
 ·exact h.H.buf.lt hz
 ·obtain⟨i,hi⟩:=getElem?_of_mem hx;obtain⟨p,hp,_,_,hs⟩:=h.H.pcs.get hi;exact hs.lt ha (by rw[<- hs.1];exact h0)
structure Td (w:World) (t m:Nat) (many bytes wait:Int) (rs:List (Key×JE)):Prop where
 row:Row w t [.map (some m),.int .i64 many,.int .i64 bytes,.int .i64 wait]
 map:nU KX ac6 w m rs
 bufs:∀e∈rs,UD w e.2
 dis:rs.Pairwise λe e'=>∀z,Oe e.2.1 z->¬Oe e'.2.1 z
 apart:∀e∈rs,∀z,Oe e.2.1 z->z≠t/\z≠m
 tm:t≠m
 nodup:(rs.map (·.1)).Nodup
def pK (rs:List (Key×JE)):JT:=rs.map λe=>(e.1,e.2.2)
theorem Td.fr {w w':World} {t m:Nat} {many bytes wait:Int} {rs:List (Key×JE)} {S:Nat->Prop} (h:Td w t m many bytes wait rs) (hf:fV w w' S) (h1:¬S t) (h2:¬S m) (h3:∀e∈rs,∀z,Oe e.2.1 z->¬S z):Td w' t m many bytes wait rs:=
 ⟨h.row.fr hf h1,h.map.fr hf h2,λe he=>(h.bufs e he).fr hf (h3 e he),h.dis,h.apart,h.tm,h.nodup⟩
theorem Td.ext {w w':World} {t m:Nat} {many bytes wait:Int} {rs:List (Key×JE)} (h:Td w t m many bytes wait rs) (hf:Ext w w'):Td w' t m many bytes wait rs:=h.fr (hf λ_=>False) (by simp) (by simp) (λ_ _ _ _=>by simp)
theorem YU (rs:List (Key×JE)) (h:∀e∈rs,e.2.1.l.Perm e.2.2.L):wW (pK rs)=(rs.map λe=>sum e.2.1.l).sum:=by
 unfold wW pK;rw[List.map_map];congr 1;refine List.map_congr_left λe he=> ?_;simp only[Function.comp];exact(Mc (h e he)).symm
theorem Vr {γ:Type} (f:γ->Int):∀{L:List γ} {i:Nat} {x:γ},L[i]? =some x->(L.map f).sum=f x+((L.eraseIdx i).map f).sum
 |[],_,_,h=>by simp at h
 |y::L,0,x,h=>by
  rw[List.getElem?_cons_zero] at h
  cases h
  simp
 |y::L,i+1,x,h=>by
  rw[List.getElem?_cons_succ] at h;rw[List.eraseIdx_cons_succ,map_cons,map_cons,List.sum_cons,List.sum_cons,Vr f h];omega
section
variable {rs:List (Key×JE)} {k:Key} {e':JE}
theorem Rh (hn:(rs.map (·.1)).Nodup) {x:Key×JE} (h:x∈G8 rs k e'):x=(k,e')\/(x∈rs/\x.1≠k):=by
 induction rs with
 |nil=>simp[G8] at h;exact .inl h
 |cons y l ih=>
  rw[map_cons,nodup_cons] at hn;unfold G8 at h;by_cases hk:k=y.1
  ·rw[if_pos hk] at h;rcases List.mem_cons.1 h with h|h
   ·exact .inl h
   ·exact .inr ⟨mem_cons_of_mem _ h,λe=>hn.1 (by rw[<- hk,<- e];exact List.mem_map_of_mem h)⟩
  ·rw[if_neg hk] at h;rcases List.mem_cons.1 h with h|h
   ·exact .inr ⟨by rw[h];exact mem_cons_self ..,by rw[h];exact λe=>hk e.symm⟩
   ·rcases ih hn.2 h with g|⟨g1,g2⟩
    ·exact .inl g
    ·exact .inr ⟨mem_cons_of_mem _ g1,g2⟩
theorem GV (hn:(rs.map (·.1)).Nodup) {x:Key×JE} (h:x∈wQ rs k):x∈rs/\x.1≠k:=by
 induction rs with
 |nil=>simp[wQ] at h
 |cons y l ih=>
  rw[map_cons,nodup_cons] at hn;unfold wQ at h;by_cases hk:k=y.1
  ·rw[if_pos hk] at h;exact⟨mem_cons_of_mem _ h,λe=>hn.1 (by rw[<- hk,<- e];exact List.mem_map_of_mem h)⟩
  ·rw[if_neg hk] at h;rcases List.mem_cons.1 h with h|h
   ·exact⟨by rw[h];exact mem_cons_self ..,by rw[h];exact λe=>hk e.symm⟩
   ·obtain⟨g1,g2⟩:=ih hn.2 h;exact⟨mem_cons_of_mem _ g1,g2⟩
theorem anc {R:Key×JE->Key×JE->Prop} (hn:(rs.map (·.1)).Nodup) (hp:rs.Pairwise R) (h1:∀y∈rs,y.1≠k->R y (k,e')/\R (k,e') y):(G8 rs k e').Pairwise R:=by
 induction rs with
 |nil=>simp[G8]
 |cons y l ih=>
  have hn':=hn;rw[map_cons,nodup_cons] at hn;obtain⟨p1,p2⟩:=List.pairwise_cons.1 hp;unfold G8;by_cases hk:k=y.1
  ·rw[if_pos hk];refine List.pairwise_cons.2 ⟨λx hx=>(h1 x (mem_cons_of_mem _ hx) λe=>hn.1 (by rw[<- hk,<- e];exact List.mem_map_of_mem hx)).2,p2⟩
  ·rw[if_neg hk];refine List.pairwise_cons.2 ⟨λx hx=> ?_,ih hn.2 p2 λz hz=>h1 z (mem_cons_of_mem _ hz)⟩;rcases Rh hn.2 hx with rfl|⟨g1,_⟩
   ·exact(h1 y (mem_cons_self ..) λe=>hk e.symm).1
   ·exact p1 x g1
theorem SK {α β:Type} [DecidableEq α] (x:α×β) (l:List (α×β)) (a:α) (b:β):G8 (x::l) a b=if a=x.1 then (a,b)::l else x::G8 l a b:=rfl
theorem UU {α β:Type} [DecidableEq α] (x:α×β) (l:List (α×β)) (a:α):wQ (x::l) a=if a=x.1 then l else x::wQ l a:=rfl
theorem zD (x:Key×JE) (l:List (Key×JE)):pK (x::l)=(x.1,x.2.2)::pK l:=rfl
theorem ahI:pK (G8 rs k e')=G8 (pK rs) k e'.2:=by
 induction rs with
 |nil=>rfl
 |cons y l ih=>
  rw[SK,zD,SK];by_cases hk:k=y.1
  ·rw[if_pos hk,if_pos hk,zD]
  ·rw[if_neg hk,if_neg hk,zD,ih]
theorem YV:pK (wQ rs k)=wQ (pK rs) k:=by
 induction rs with
 |nil=>rfl
 |cons y l ih=>
  rw[UU,zD,UU];by_cases hk:k=y.1
  ·rw[if_pos hk,if_pos hk]
  ·rw[if_neg hk,if_neg hk,zD,ih]
theorem Q8 {α β:Type} [DecidableEq α] (x:α×β) (l:List (α×β)) (a:α):yE (x::l) a=if a=x.1 then some x.2 else yE l a:=rfl
theorem aaM:yE (pK rs) k=(yE rs k).map (·.2):=by
 induction rs with
 |nil=>rfl
 |cons y l ih=>
  rw[zD,Q8,Q8];by_cases hk:k=y.1
  ·rw[if_pos hk,if_pos hk];rfl
  ·rw[if_neg hk,if_neg hk,ih]
theorem Ju {e:JE} (h:yE rs k=some e):(k,e)∈rs:=by
 induction rs with
 |nil=>simp[yE] at h
 |cons y l ih=>
  unfold yE at h;by_cases hk:k=y.1
  ·rw[if_pos hk] at h
   cases h
   rw[hk];exact mem_cons_self ..
  ·rw[if_neg hk] at h;exact mem_cons_of_mem _ (ih h)
theorem ad1 (hn:(rs.map (·.1)).Nodup):((G8 rs k e').map (·.1)).Nodup:=agq hn k e'
theorem ac0 (hn:(rs.map (·.1)).Nodup):((wQ rs k).map (·.1)).Nodup:=hn.sublist ((Pv rs k).map _)
end
theorem Td.up {w w':World} {t m:Nat} {many bytes wait:Int} {rs:List (Key×JE)} {k:Key} {e':JE} (h:Td w t m many bytes wait rs) (hr:Row w' t [.map (some m),.int .i64 many,.int .i64 bytes,.int .i64 wait]) (hm:nU KX ac6 w' m (G8 rs k e'))
  (hb:UD w' e') (ho:∀e∈rs,e.1≠k->UD w' e.2) (hd:∀e∈rs,e.1≠k->∀z,Oe e'.1 z->¬Oe e.2.1 z) (ha:∀z,Oe e'.1 z->z≠t/\z≠m):Td w' t m many bytes wait (G8 rs k e'):=by
 refine⟨hr,hm,λe he=> ?_,anc h.nodup h.dis λy hy hk=>⟨λz h1 h2=>hd y hy hk z h2 h1,λz h1 h2=>hd y hy hk z h1 h2⟩,λe he=> ?_,h.tm,ad1 h.nodup⟩
 ·rcases Rh h.nodup he with rfl|⟨g1,g2⟩
  ·exact hb
  ·exact ho e g1 g2
 ·rcases Rh h.nodup he with rfl|⟨g1,_⟩
  ·exact ha
  ·exact h.apart e g1
theorem Td.del {w w':World} {t m:Nat} {many bytes wait:Int} {rs:List (Key×JE)} {k:Key} (h:Td w t m many bytes wait rs) (hr:Row w' t [.map (some m),.int .i64 many,.int .i64 bytes,.int .i64 wait]) (hm:nU KX ac6 w' m (wQ rs k))
  (ho:∀e∈rs,e.1≠k->UD w' e.2):Td w' t m many bytes wait (wQ rs k):=
 ⟨hr,hm,λe he=>by obtain⟨g1,g2⟩:=GV h.nodup he;exact ho e g1 g2,h.dis.sublist (Pv rs k),λe he=>h.apart e (GV h.nodup he).1,h.tm,ac0 h.nodup⟩
end Go.Proofs.JN
end
section
open List (getElem?_cons_zero)
open Option (isNone_some)
namespace Go.Proofs.JN
open Gp Gp.Hol Gp.Jn
section
variable {w w':World} {t m:Nat} {many bytes wait:Int} {rs:List (Key×JE)}
theorem M_ (h:Td w t m many bytes wait rs):jE (some ⟨t,0,none⟩) w λr w'=>r=true/\w'=w:=by
 apply Ih;simp only[sx,isNone_some,Bool.not_false,isNone_some,getElem?_cons_zero,h.row.cell];exact⟨by trivial,by trivial⟩
theorem OB (l:List (Key×JE)):0<=(l.map λe=>sum e.2.1.l).sum:=by
 induction l with
 |nil=>simp
 |cons e l ih=>rw[List.map_cons,List.sum_cons];have:=xu e.2.1.l;omega
theorem ab1 (h:Td w t m many bytes wait rs) (hl:wW (pK rs)<=2^40):kZ (some ⟨t,0,none⟩) w λn w'=>n=wW (pK rs)/\Ext w w':=by
 have I:=YU rs λe he=>(h.bufs e he).perm;rw[I] at hl ⊢;apply LP;simp only[sx,getElem?_cons_zero,h.row.cell];refine aeh h.map λw1 Y f1 z1=> ?_;have hml:=h.map.lt;have Z:w.heap.size≠m:=by omega
 refine fZ (λst W=>∃todo,ItF KX ac6 W w.heap.size m rs todo/\0<=st.1/\st.1+(todo.map λe=>sum e.2.1.l).sum=(rs.map λe=>sum e.2.1.l).sum/\(∀e∈todo,e∈rs)/\fV w1 W (·=w.heap.size)) (λ_ W=>afB W w.heap.size m)
  ⟨rs,Y,by simp,by simp,λe he=>he,fV.refl _ _⟩ ?_
 rintro⟨n,⟨⟩⟩ W ⟨todo,hi,hn0,hn,j,hf⟩ next u
 have hn0:0<=n:=hn0;have hn:n+(todo.map λe=>sum e.2.1.l).sum=(rs.map λe=>sum e.2.1.l).sum:=hn;refine⟨rfl,agO hi Z (λht=> ?_) λi x w2 hx hi2 J f2 z2=>⟨rfl,J _ ?_⟩⟩
 ·subst ht;simp only[map_nil,List.sum_nil,Int.add_zero] at hn;exact⟨hn,f1.new hf λy hy e=>by omega⟩
 ·have U:=j x (List.mem_of_getElem? hx);have f12:fV w1 w2 (·=w.heap.size):=hf.trans f2 λ_ _ e=>e;have hb:UD w2 x.2:=((h.bufs x U).ext f1).fr f12 λz hz e=>by have:=(h.bufs x U).lt hz;omega
  refine⟨_,rfl,?_⟩;simp only[getElem?_cons_zero,fC,D9,hb.row.cell];refine Fa (aeC hb.H) ?_;rintro r w3 ⟨rfl,hw⟩;subst hw;have he:(todo.map λe=>sum e.2.1.l).sum=sum x.2.1.l+((todo.eraseIdx i).map λe=>sum e.2.1.l).sum:=Vr (λe:Key×JE=>sum e.2.1.l) hx;have h1:0<=((todo.eraseIdx i).map λe=>sum e.2.1.l).sum:=OB (todo.eraseIdx i);have h2:=xu x.2.1.l;rw[wrap_i64 (by omega) (by omega)];refine u _ _ ⟨todo.eraseIdx i,hi2,by simp only;omega,by simp only;omega,λe he=>j e (List.mem_of_mem_eraseIdx he),f12⟩ ?_;rw[hi2.left,hi.left,List.length_eraseIdx];have:=(List.getElem?_eq_some_iff.1 hx).1;rw[if_pos this];omega
theorem adr (h:Td w t m many bytes wait rs) (hl:wW (pK rs)<=2^40):jD (some ⟨t,0,none⟩) w λn w'=>n=wW (pK rs)/\Ext w w':=by
 apply Ig;refine rP (M_ h) ?_;rintro r w1 ⟨rfl,hw⟩;subst hw;rw[Bool.not_true,cond_false];exact BH (ab1 h hl) λ_ _ hx=>hx
theorem XY (h:nU KX ac6 w m rs) {K:Int->Prop} (hK:K (rs.length:Int)):I5 w (some m) K:=by
 obtain⟨es,c,h1,h2,_⟩:=h;refine⟨es,c,h1,?_⟩;have:es.size=rs.length:=by
  have:=congrArg List.length h2;simpa using this
 rw[this];exact hK
theorem afu (h:Td w t m many bytes wait rs):jO (some ⟨t,0,none⟩) w λn w'=>n=(rs.length:Int)/\w'=w:=by
 apply JJ;refine rP (M_ h) ?_;rintro r w1 ⟨rfl,hw⟩;subst hw;rw[Bool.not_true,cond_false];simp only[sx,getElem?_cons_zero,h.row.cell];exact XY h.map ⟨by trivial,by trivial⟩
end
end Go.Proofs.JN
end
section
namespace Go.Proofs.JN
open Gp Gp.Hol Gp.Jn
theorem ZK {a b:ByteArray} (h:a.toList=b.toList):a=b:=by
 rw[ByteArray.toList_eq,ByteArray.toList_eq] at h
 cases a;cases b
 simp at h;rw[h]
theorem alM (a b:ByteArray):strEq a b=decide (a=b):=by
 unfold strEq;by_cases h:a=b
 ·subst h;simp
 ·rw[decide_eq_false h,beq_eq_false_iff_ne];exact λe=>h (ZK e)
theorem eqS (a b:ByteArray):DJ Tryz.prog 16 9 (KX a) (KX b)=some (decide (a=b)):=by
 have h:DJ Tryz.prog 16 9 (.string a) (.string b)=some (strEq a b):=by kernel_rfl
 rw[h,alM]
theorem keyS (a:ByteArray):nS Tryz.prog 9 (KX a)=true:=by
 have h:nS Tryz.prog 9 (.string a)=true:=by kernel_rfl
 exact h
theorem acE {α β:Type} [DecidableEq α] {enc:α->Value} {ev:β->Value} {w:World} {r:Nat} {l:List (α×β)} {P:Program} {kt:TypeId} (h:nU enc ev w r l) (hE:∀a b:α,DJ P 16 kt (enc a) (enc b)=some (decide (a=b))) (a:α) (hk:nS P kt (enc a)=true) {z:Value} {K:Value->Bool->Prop}
  (h0:yE l a=none->K z false) (h1:∀b,yE l a=some b->K (ev b) true):Bo P kt (some r) (enc a) z w K:=by
 obtain⟨es,c,g1,g2,_⟩:=h;refine⟨hk,.inr ⟨r,es,c,rfl,g1,?_⟩⟩
 cases hl:yE l a with
 |none=>
  cases l with
  |nil=>
   have:es.toList=[]:=by simpa using g2
   exact⟨none,by rw[this];rfl,h0 hl⟩
  |cons x l'=>
   rcases Lj hE a x.2 es.toList _ 0 g2 with ⟨_,q2,_⟩|⟨j,v,e,q1,_⟩
   ·exact⟨_,q2,h0 hl⟩
   ·rw[hl] at q1;cases q1
 |some b=>
  rcases Lj hE a b es.toList _ 0 g2 with ⟨q1,_,_⟩|⟨j,v,e,q1,q2,_⟩
  ·rw[hl] at q1;cases q1
  ·rw[hl] at q1;cases q1;exact⟨_,q2,h1 b hl⟩
theorem adU {l l':List Pc} (h:l.Perm l') (off:Int) (b:List UInt8):acd l off b=room l' off b:=by
 unfold acd room;simp only[h.mem_iff]
section
variable {w w':World} {t m:Nat} {many bytes wait:Int} {rs:List (Key×JE)}
theorem afv (h:Td w t m many bytes wait rs) (k:Key) (now:Int):mP (some ⟨t,0,none⟩) k now w λp e w'=>Ext w w'/\
  match Et many (pK rs) k now with
  |none=>p=none/\e=7
  |some x=>e=0/\∃r:BR,p=some ⟨r.b,0,none⟩/\UD w' (r,x)/\(yE rs k=some (r,x)\/(yE rs k=none/\∀z,Oe r z->w.heap.size<=z)):=by
 apply JK;simp only[sx,h.row.cell];refine acE h.map eqS k (keyS k) (λhl=> ?_) (λe hl=> ?_)
 ·have hj:Et many (pK rs) k now=if many<=(rs.length:Int) then none else some (fresh now):=by
   unfold Et;rw[aaM,hl];simp[pK]
  rw[hj];refine⟨none,rfl,?_⟩;simp only[cond_false];have hd:=h.ext (Ext.drew w);have rd:=hd.row;simp only[d_,fC,fD,KQ,rd.cell];refine XY hd.map ?_;simp only[true_and];by_cases hf:many<=(rs.length:Int)
  ·rw[decide_eq_true (show (rs.length:Int)>=many from hf),cond_true,if_pos hf];exact⟨Ext.drew w,by trivial⟩
  ·rw[decide_eq_false (show ¬(rs.length:Int)>=many from hf),cond_false,if_neg hf];refine V7 (Rk w.drew) ?_;rintro v w1 ⟨hb,rfl,e1,z1,H,f1⟩;refine fP λb w2 r2 e2 z2 f2=> ?_;have zd:w.drew.heap.size=w.heap.size:=rfl;have ec:(if (1099511627776:Int)<(if (0:Int)>now then 0 else now) then 1099511627776 else (if (0:Int)>now then 0 else now))=aam now:=by
    unfold aam;split<;>split<;>omega
   rw[ec] at r2;refine⟨((Ext.drew w).trans f1).trans f2,⟨b,hb,⟨none,0,0⟩,[],[]⟩,rfl,⟨r2,H.ext f2,Gp.Hol.Good.nil,List.Pairwise.nil,List.Perm.refl _,⟨by simp only;omega,(by rintro⟨o,hz⟩;cases hz),λx hx=>by simp at hx⟩⟩,.inr ⟨hl,?_⟩⟩;rintro z (g|g|⟨o,g⟩|⟨x,hx,_⟩)
   ·simp only at g;omega
   ·simp only at g;omega
   ·cases g
   ·simp at hx
 ·have hj:Et many (pK rs) k now=some e.2:=by
   unfold Et;rw[aaM,hl];rfl
  rw[hj];refine⟨some ⟨e.1.b,0,none⟩,rfl,?_⟩;simp only[cond_true];exact⟨Ext.refl _,by trivial,e.1,rfl,h.bufs _ (Ju hl),.inl hl⟩
end
end Go.Proofs.JN
end
