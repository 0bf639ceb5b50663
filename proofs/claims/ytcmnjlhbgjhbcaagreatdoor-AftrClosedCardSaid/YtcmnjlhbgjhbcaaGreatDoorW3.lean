import Derived.Test.YtcmnjlhbgjhbcaaGreatDoorW2
import Derived.Lib.Overlaps
open List (flatMap_append getElem?_eq_getElem getElem?_map length_append length_map map_cons)
open Nat (add_mul mod_lt mul_le_mul_right)
open Int (toNat_natCast)
open Option (map_some)
open Array (getElem?_setIfInBounds toList_filter toList_modify)
section
namespace Gp
open Go
theorem EU:IntKind.bits .i64=64:=rfl
theorem VG {a b:Nat} (ha:a<2^63) (hb:b<2^63):wH .i64 (a:Int) (b:Int)=((a &&& b:Nat):Int):=by
 unfold wH;have h1:(BitVec.ofInt (IntKind.bits .i64) (a:Int)).toNat=a:=by rw[EU,BitVec.toNat_ofInt];omega
 have h2:(BitVec.ofInt (IntKind.bits .i64) (b:Int)).toNat=b:=by rw[EU,BitVec.toNat_ofInt];omega
 rw[BitVec.toNat_and,h1,h2];have:a &&& b<=a:=Nat.and_le_left;rw[wrap_i64 (by omega) (by omega)]
theorem XA {a b:Nat} (ha:a<2^63) (hb:b<2^63):Xz .i64 (a:Int) (b:Int)=((a|||b:Nat):Int):=by
 unfold Xz;have h1:(BitVec.ofInt (IntKind.bits .i64) (a:Int)).toNat=a:=by rw[EU,BitVec.toNat_ofInt];omega
 have h2:(BitVec.ofInt (IntKind.bits .i64) (b:Int)).toNat=b:=by rw[EU,BitVec.toNat_ofInt];omega
 rw[BitVec.toNat_or,h1,h2];have:a|||b<2^63:=Nat.or_lt_two_pow ha hb;rw[wrap_i64 (by omega) (by omega)]
theorem akj {a b:Nat} (ha:a<256) (hb:b<256):wH .u8 (a:Int) (b:Int)=((a &&& b:Nat):Int):=by
 unfold wH;have e:IntKind.bits .u8=8:=rfl;have h1:(BitVec.ofInt (IntKind.bits .u8) (a:Int)).toNat=a:=by rw[e,BitVec.toNat_ofInt];omega
 have h2:(BitVec.ofInt (IntKind.bits .u8) (b:Int)).toNat=b:=by rw[e,BitVec.toNat_ofInt];omega
 rw[BitVec.toNat_and,h1,h2];have:a &&& b<=a:=Nat.and_le_left;rw[IntKind.wrap_u8];omega
theorem BP {a k:Nat} (hk:k<=64):jy .i64 (a:Int) (k:Int)=((a / 2^k:Nat):Int):=by
 unfold jy;have e:(2:Int)^(min (k:Int).toNat (IntKind.bits .i64))=((2^k:Nat):Int):=by
  rw[EU,toNat_natCast,Nat.min_eq_left hk];simp
 rw[e,Int.fdiv_eq_ediv_of_nonneg _ (Int.natCast_nonneg _),Int.natCast_ediv]
theorem alF {a k:Nat} (hk:k<=8):jy .u8 (a:Int) (k:Int)=((a / 2^k:Nat):Int):=by
 unfold jy;have e:(2:Int)^(min (k:Int).toNat (IntKind.bits .u8))=((2^k:Nat):Int):=by
  rw[show IntKind.bits .u8=8 from rfl,toNat_natCast,Nat.min_eq_left hk];simp
 rw[e,Int.fdiv_eq_ediv_of_nonneg _ (Int.natCast_nonneg _),Int.natCast_ediv]
theorem ain {a k:Nat} (hk:k<=64) (h:a * 2^k<2^63):LY .i64 (a:Int) (k:Int)=((a * 2^k:Nat):Int):=by
 unfold LY;have e:(2:Int)^(min (k:Int).toNat (IntKind.bits .i64))=((2^k:Nat):Int):=by
  rw[EU,toNat_natCast,Nat.min_eq_left hk];simp
 rw[e,<- Int.natCast_mul,wrap_i64 (by omega) (by omega)]
theorem agV (a k:Nat):a &&& 2^k=a / 2^k % 2 * 2^k:=by
 apply Nat.eq_of_testBit_eq;intro i;rw[Nat.testBit_and,Nat.testBit_two_pow];have h2:a.testBit k=decide (a / 2^k % 2=1):=Nat.testBit_eq_decide_div_mod_eq;have hc:a / 2^k % 2=0\/a / 2^k % 2=1:=by omega
 by_cases hk:k=i
 ·subst hk;rcases hc with h|h
  ·simp[h2,h]
  ·rw[h2,h];simp
 ·rcases hc with h|h
  ·simp[h,hk]
  ·rw[h,Nat.one_mul,Nat.testBit_two_pow];simp[hk]
theorem Pm (a k:Nat):a &&& (2^k - 1)=a % 2^k:=Nat.and_two_pow_sub_one_eq_mod a k
theorem RV {a k b:Nat} (hb:b<2^k):a * 2^k|||b=a * 2^k+b:=by
 have:=Nat.two_pow_add_eq_or_of_lt (i:=k) (b:=b) hb a;rw[Nat.mul_comm a,this]
theorem acT {n:Nat} {K:b_}:∀(ds:List Nat) (w:World),(∀d∈ds,n<=d/\w.heap[d]? =some (.deferred (some [])))->ds.Nodup->(∀w',fV w w' (λb=>n<=b)->w'.heap.size=w.heap.size->K w')->wG ds w K:=by
 intro ds
 induction ds with
 |nil=>intro w _ _ h;exact h w (fV.refl _ _) rfl
 |cons d ds ih=>
  intro w h1 h2 h;refine⟨(h1 d (List.mem_cons_self ..)).2,ih _ ?_ (List.nodup_cons.1 h2).2 ?_⟩
  ·intro e he;have:=h1 e (List.mem_cons_of_mem _ he);refine⟨this.1,?_⟩;have j:¬d=e:=λx=>(List.nodup_cons.1 h2).1 (x ▸ he);simp[World.putObj,j,this.2]
  ·intro w' f z;exact h w' (((fV.jh w d _).mono λb e=>by have:=(h1 d (List.mem_cons_self ..)).1;omega).trans f λ_ _ e=>e) (by simpa [World.putObj] using z)
end Gp
end
section
namespace Gp
open Go
structure jB {α:Type} (n:Nat) (f:α->List Value) (w:World) (s:eY) (xs:List α):Prop where
 len:s.len=xs.length
 mem:(s.a=none/\xs=[]/\s.cap=0)\/∃b pad,s.a=some ⟨b,0,none⟩/\s.cap * n=xs.length * n+pad.length/\Row w b (xs.flatMap f++pad)
structure lV {α:Type} (n:Nat) (f:α->List Value) (w:World) (s:eY) (xs:List α):Prop where
 len:s.len=xs.length
 cells:ng w s.a (s.len * n) (xs.flatMap f)
 cap:s.len<=s.cap
theorem vU {z:List Value}:∀k,(fO z k).length=k * z.length
 |0=>by simp[fO]
 |k+1=>by simp[fO,vU k,add_mul];omega
section
variable {α:Type} {n:Nat} {f:α->List Value} {w w':World} {s:eY} {xs:List α}
theorem jB.nil:jB n f w ⟨none,0,0⟩ []:=⟨rfl,.inl ⟨rfl,rfl,rfl⟩⟩
theorem jB.lt (h:jB n f w s xs) {b:Nat} (hb:eY.at s b):b<w.heap.size:=by
 obtain⟨o,hb⟩:=hb;obtain⟨_,⟨ha,_,_⟩|⟨c,pad,ha,_,hr⟩⟩:=h
 ·rw[ha] at hb;cases hb
 ·rw[ha] at hb;cases hb;exact hr.lt
theorem jB.fr {S:Nat->Prop} (h:jB n f w s xs) (hf:fV w w' S) (hs:∀b,eY.at s b->¬S b):jB n f w' s xs:=by
 obtain⟨hl,⟨ha,h1,h2⟩|⟨b,pad,ha,hc,hr⟩⟩:=h
 ·exact⟨hl,.inl ⟨ha,h1,h2⟩⟩
 ·exact⟨hl,.inr ⟨b,pad,ha,hc,hr.fr hf (hs b ⟨0,ha⟩)⟩⟩
theorem jB.ext (h:jB n f w s xs) (hf:Ext w w'):jB n f w' s xs:=h.fr (hf λ_=>False) (λ_ _=>by simp)
theorem jB.sl (hn:∀x,(f x).length=n) (h0:0<n) (h:jB n f w s xs):lV n f w s xs:=by
 obtain⟨hl,⟨ha,rfl,hc⟩|⟨b,pad,ha,hc,hr⟩⟩:=h
 ·exact⟨hl,by rw[ha];rfl,by rw[hl];simp⟩
 ·refine⟨hl,?_,?_⟩
  ·rw[ha];refine⟨by rw[kR f n hn,hl],λj hj=> ?_⟩;rw[fM,hr.cell,Nat.zero_add,List.getElem?_append_left hj]
  ·rw[hl];exact Nat.le_of_mul_le_mul_right (by omega:xs.length * n<=s.cap * n) h0
theorem lV.at_ (hn:∀x,(f x).length=n) (h0:0<n) (h:lV n f w s xs) {i:Nat} {x:α} (hi:xs[i]? =some x):∃a,s.a=some a/\∀j v,(f x)[j]? =some v->w.cell? (a.add (i * n+j))=some v:=by
 have I:=(List.getElem?_eq_some_iff.1 hi).1;have hc:=h.cells;have u:=kR f n hn xs;have hm:(i+1) * n<=xs.length * n:=mul_le_mul_right _ I;rw[add_mul] at hm
 cases z:s.a with
 |none=>
  rw[z] at hc;have h0:xs.flatMap f=[]:=hc;rw[h0] at u;simp only[List.length_nil] at u;omega
 |some a=>
  rw[z] at hc;refine⟨a,rfl,λj v hj=> ?_⟩;have J:j<n:=by have:=(List.getElem?_eq_some_iff.1 hj).1;rw[hn] at this;exact this
  rw[hc.2 _ (by omega),flat_get f n hn xs i j J,hi];exact hj
theorem lV.fr {S:Nat->Prop} (h:lV n f w s xs) (hf:fV w w' S) (hs:∀a,s.a=some a->0<xs.length->¬S a.block):lV n f w' s xs:=by
 refine⟨h.len,?_,h.cap⟩;have hc:=h.cells
 cases u:s.a with
 |none=>rw[u] at hc;exact hc
 |some a=>
  rw[u] at hc;refine⟨hc.1,λj hj=> ?_⟩;have:=hc.2 j hj;rw[getElem?_eq_getElem hj] at this ⊢;refine Pq this hf (by
   rw[block_add];refine hs a u ?_
   cases xs with
   |nil=>simp at hj
   |cons=>simp)
theorem lV.ext (h:lV n f w s xs) (hf:Ext w w'):lV n f w' s xs:=h.fr (hf λ_=>False) (by simp)
theorem ZU {e:TypeId} {bytes:Nat} {z:List Value} {ys:List α} {K:eY->b_} (hn:∀x,(f x).length=n) (h:jB n f w s xs) (hz:z.length=n) (h0:0<n) (h1:∀x,∀v∈f x,iC v=true)
  (hl:(xs.length+ys.length) * bytes<=2^46) (hl2:xs.length+ys.length<=2^46)
  (hK:∀s' w',jB n f w' s' (xs++ys)->(fV w w' (eY.at s))->(∀b,eY.at s' b->eY.at s b\/w.heap.size<=b)->K s' w'):PX e n bytes z s ys.length (ys.flatMap f) w K:=by
 obtain⟨hlen,hc⟩:=id h;have I:∀v∈ys.flatMap f,iC v=true:=λv hv=>by
  obtain⟨x,_,hx⟩:=List.mem_flatMap.1 hv;exact h1 x v hx
 have Y:=kR f n hn ys;have J:=kR f n hn xs;by_cases u:s.len+ys.length<=s.cap
 ·rcases hc with ⟨ha,rfl,hc⟩|⟨b,pad,ha,hc,hr⟩
  ·simp at hlen;have:ys=[]:=by cases ys with
    |nil=>rfl
    |cons _ _=>simp at u;omega
   subst this;refine .inl ⟨u,λa ha'=>(by rw[ha] at ha';cases ha'),I,?_⟩;rw[ha];exact hK _ _ ⟨by simp[hlen],.inl ⟨rfl,rfl,hc⟩⟩ (fV.refl _ _) (λb ⟨o,hb⟩=>by cases hb)
  ·have U:(s.len+ys.length) * n<=s.cap * n:=mul_le_mul_right _ u;rw[add_mul,hlen] at U;obtain⟨r2,f2⟩:=Ep (ys.flatMap f) w (xs.flatMap f++pad) (s.len * n) 0 hr (by simp only[length_append];rw[Y,J,hlen];omega);refine .inl ⟨u,λa ha'=> ?_,I,?_⟩
   ·rw[ha] at ha';cases ha';intro j hj;rw[fM,fM,hr.cell,hr.frozen];refine⟨?_,rfl⟩;rw[getElem?_eq_getElem (by simp only[length_append];rw[J,hlen];omega)];rfl
   ·rw[ha];simp only[fM,Nat.zero_add];have e1:(xs.flatMap f++pad).take (s.len * n+0)=xs.flatMap f:=by rw[Nat.add_zero,hlen,<- J];simp
    have e2:((xs.flatMap f++pad).drop (s.len * n+0+(ys.flatMap f).length)).length+ys.length * n=pad.length:=by
     simp only[List.length_drop,length_append];rw[J,Y,hlen];omega
    rw[e1] at r2;refine hK _ _ ⟨by simp[hlen],.inr ⟨b,(xs.flatMap f++pad).drop (s.len * n+0+(ys.flatMap f).length),rfl,?_,?_⟩⟩ (f2 _ ⟨0,ha⟩) (λc ⟨o,hc'⟩=> .inl (by cases hc';exact⟨0,ha⟩))
    ·show s.cap * n=_;simp only[length_append,add_mul];omega
    ·rw[flatMap_append];exact r2
 ·have hb:(s.len+ys.length) * bytes<=2^46:=by rw[hlen];exact hl
  refine .inr ⟨by omega,hb,by omega,xs.flatMap f,?_,λc h1' h2'=> ?_⟩
  ·exact(h.sl hn h0).cells
  ·refine hK _ _ ⟨by simp[hlen],.inr ⟨w.heap.size,fO z (c - (s.len+ys.length)),rfl,?_,by rw[flatMap_append];exact Row.new w.drew _ e⟩⟩ ((fV.drew w _).trans (fV.alloc w.drew _ _) λ_ _ e=>e) (λb ⟨o,hb⟩=> .inr (by cases hb;exact Nat.le_refl _));rw[vU,hz];simp only[length_append];rw[hlen] at h1' ⊢;rw[<- add_mul];congr 1;omega
theorem tX {e:TypeId} {bytes:Nat} {z:List Value} {t:eY} {ys:List α} {K:eY->b_} (hn:∀x,(f x).length=n) (h:jB n f w s xs) (ht:lV n f w t ys) (hz:z.length=n) (h0:0<n) (h1:∀x,∀v∈f x,iC v=true)
  (hl:(xs.length+ys.length) * bytes<=2^46) (hl2:xs.length+ys.length<=2^46)
  (hK:∀s' w',jB n f w' s' (xs++ys)->(fV w w' (eY.at s))->(∀b,eY.at s' b->eY.at s b\/w.heap.size<=b)->K s' w'):uQ e n bytes z s t w K:=by
 refine⟨ys.flatMap f,ht.cells,?_⟩;rw[ht.len];exact ZU hn h hz h0 h1 hl hl2 hK
theorem jB.row {b:Nat} (h:Row w b (xs.flatMap f)):jB n f w ⟨some ⟨b,0,none⟩,xs.length,xs.length⟩ xs:=
 ⟨rfl,.inr ⟨b,[],rfl,by simp,by simpa using h⟩⟩
theorem lV.cut (hn:∀x,(f x).length=n) (h:lV n f w s xs) {lo hi:Nat} (h1:lo<=hi) (h2:hi<=xs.length) (m:Nat) (hm:m=lo->lo=hi):
  lV n f w ⟨vW s.a m lo n,hi - lo,s.cap - lo⟩ ((xs.take hi).drop lo):=by
 have hcap:=h.cap;have hlen:=h.len;refine⟨by simp;omega,?_,by simp only;omega⟩;have hc:=h.cells
 cases z:s.a with
 |none=>
  rw[z] at hc;have h0:xs.flatMap f=[]:=hc;have:((xs.take hi).drop lo).flatMap f=[]:=by
   rw[List.flatMap_eq_nil_iff] at h0 ⊢;exact λx hx=>h0 x (List.mem_of_mem_take (List.mem_of_mem_drop hx))
  simp only[vW];split<;>simpa [ng] using this
 |some a=>
  rw[z] at hc;by_cases u:m=lo
  ·have:=hm u;subst this;simp only[vW,u,if_true,Nat.sub_self,Nat.zero_mul];have:List.drop lo (List.take lo xs)=[]:=by simp
   rw[this];exact⟨rfl,λj hj=>by simp at hj⟩
  ·simp only[vW,u,if_false,map_some];have I:(((xs.take hi).drop lo).flatMap f).length=(hi - lo) * n:=by
    rw[kR f n hn];simp;congr 1;omega
   refine⟨I,λj hj=> ?_⟩;rw[I] at hj;have e:lo * n+j<(xs.flatMap f).length:=by
    rw[kR f n hn];have h3:hi * n<=xs.length * n:=mul_le_mul_right _ h2;have h4:(hi - lo) * n=hi * n - lo * n:=Nat.sub_mul _ _ _;have h5:lo * n<=hi * n:=mul_le_mul_right _ h1;omega
   have ea:(a.add (lo * n)).add j=a.add (lo * n+j):=MB _ _ _;rw[ea,hc.2 _ e];have hn0:0<n:=by
    cases n with
    |zero=>simp at hj
    |succ n=>omega
   have hj':j=j / n * n+j % n:=by rw[Nat.mul_comm];exact(Nat.div_add_mod j n).symm
   have J:=mod_lt j hn0;have hjd:j / n<hi - lo:=(Nat.div_lt_iff_lt_mul hn0).2 hj;rw[hj',<- Nat.add_assoc,<- add_mul,flat_get f n hn _ _ _ J,flat_get f n hn _ _ _ J];rw[List.getElem?_drop,List.getElem?_take,if_pos (by omega)]
end
theorem abC {α:Type} {n:Nat} {f:α->List Value} {w:World} {s:eY} {xs:List α} {lo hi:Int} {K:eY->Prop} (hn:∀x,(f x).length=n) (h:lV n f w s xs) (h0:0<=lo) (h1:lo<=hi) (h2:hi<=xs.length)
  (hK:∀s',lV n f w s' ((xs.take hi.toNat).drop lo.toNat)->K s'):nJ s n lo hi K:=by
 have hl:=h.len;have hc:=h.cap;refine⟨h0,h1,by omega,hK _ ?_⟩;exact h.cut hn (by omega) (by omega) _ λe=>by omega
end Gp
end
section
namespace Gp
open Go
def yF {α:Type} (enc:α->Value) (w:World) (r:Nat) (xs:List α):Prop:=
 ∃es clock,w.heap[r]? =some (.map es clock)/\es.toList.map (λe=>(e.key,e.val))=xs.map λx=>(enc x,.bool true)
section
variable {α:Type} {enc:α->Value} {w w':World} {r:Nat} {xs:List α} {P:Program} {kt:TypeId}
theorem yF.fr {S:Nat->Prop} (h:yF enc w r xs) (hf:fV w w' S) (hs:¬S r):yF enc w' r xs:=by
 obtain⟨es,c,h1,h2⟩:=h;exact⟨es,c,by rw[hf.same r (Array.getElem?_eq_some_iff.1 h1).1 hs];exact h1,h2⟩
theorem yF.ext (h:yF enc w r xs) (hf:Ext w w'):yF enc w' r xs:=h.fr (hf λ_=>False) (by simp)
theorem yF.new (w:World) (enc:α->Value):yF enc (w.alloc (.map #[] 0)) w.heap.size []:=⟨#[],0,World.alloc_heap_new w _,rfl⟩
variable [DecidableEq α]
theorem U3 (hE:∀a b:α,DJ P 16 kt (enc a) (enc b)=some (decide (a=b))) (a:α):∀(es:List MapEntry) (xs:List α) (i:Nat),es.map (λe=>(e.key,e.val))=(xs.map λx=>(enc x,Value.bool true))->
  (a∈xs->∃j,oM P kt (enc a) es i=some (some (j,.bool true)))/\(a∉xs->oM P kt (enc a) es i=some none):=by
 intro es
 induction es with
 |nil=>
  intro xs i h
  cases xs with
  |nil=>exact⟨λh=>by simp at h,λ_=>rfl⟩
  |cons x xs=>simp at h
 |cons e es ih=>
  intro xs i h
  cases xs with
  |nil=>simp at h
  |cons x xs=>
   simp only[map_cons,List.cons.injEq,Prod.mk.injEq] at h;obtain⟨⟨h1,h2⟩,h3⟩:=h;have hi:=ih xs (i+1) h3;unfold oM;rw[h1,hE];by_cases hx:a=x
   ·subst hx;simp only[decide_true];exact⟨λ_=>⟨i,by rw[h2]⟩,λhn=>by simp at hn⟩
   ·simp only[hx,decide_false];exact⟨λhm=>hi.1 (by simpa [hx] using hm),λhn=>hi.2 (by simp at hn;exact hn.2)⟩
theorem J8 (h:yF enc w r xs) (hE:∀a b:α,DJ P 16 kt (enc a) (enc b)=some (decide (a=b))) (a:α) (hk:nS P kt (enc a)=true) {K:Bool->Prop} (hK:K (decide (a∈xs))):zQ P kt .bool (some r) (enc a) (.bool false) w K:=by
 obtain⟨es,c,h1,h2⟩:=h;refine⟨hk,.inr ⟨r,es,c,rfl,h1,?_⟩⟩;have hf:=U3 hE a es.toList xs 0 h2;by_cases hm:a∈xs
 ·obtain⟨j,hj⟩:=hf.1 hm;exact⟨_,hj,by simpa [hm,Kind.dec] using hK⟩
 ·exact⟨_,hf.2 hm,by simpa [hm,Kind.dec] using hK⟩
theorem J_ (h:yF enc w r xs) (hE:∀a b:α,DJ P 16 kt (enc a) (enc b)=some (decide (a=b))) (a:α) (hk:nS P kt (enc a)=true) (hn:a∉xs) {K:b_}
  (hK:∀w',yF enc w' r (xs++[a])->fV w w' (·=r)->w'.heap.size=w.heap.size->K w'):zS P kt (some r) (enc a) (.bool true) w K:=by
 obtain⟨es,c,h1,h2⟩:=h;have j:=(Array.getElem?_eq_some_iff.1 h1).1;refine⟨hk,r,es,c,rfl,h1,none,(U3 hE a es.toList xs 0 h2).2 hn,?_⟩;show K (w.putObj r (.map (es.push {key:=enc a,val:= .bool true,born:=c}) (c+1)));refine hK _ ⟨es.push {key:=enc a,val:= .bool true,born:=c},c+1,by simp[World.putObj,getElem?_setIfInBounds,j],?_⟩ (fV.jh _ _ _) (by simp[World.putObj]);simp[h2]
end
end Gp
end
section
namespace Gp
open Go
theorem alW {k:IntKind} {n:Int} (h:(Lit.int k n).wf=true):k.min<=n/\n<=k.max:=by
 simpa [Lit.wf] using h
theorem wf_u8 {n:Int} (h:(Lit.int .u8 n).wf=true):0<=n/\n<=255:=alW h
theorem XJ {α:Type} {d:iT} {n:Nat} (hn0:0<n) {w:World} {x:(iT.slice d n).T} (h:(iT.slice d n).In w x) (g:d.T->α) (f:α->List Value) (hf:∀a,(f a).length=n)
  (hg:∀y:d.T,d.In w y->f (g y)=d.cells y):lV n f w x.1 (x.2.map g):=by
 obtain⟨⟨h1,h2,h3,h4⟩,h5⟩:=h;refine⟨by rw[length_map];exact h1,?_,h2⟩;by_cases z:x.2=([]:List d.T)
 ·have hl:x.1.len=0:=by rw[h1,z];rfl
  rw[z,hl]
  cases x.1.a with
  |none=>rfl
  |some a=>exact⟨(Nat.zero_mul n).symm,λj hj=>by simp at hj⟩
 ·obtain⟨b,o,ha,hb,hc⟩:=h4 z;rw[ha];have I:=kR f n hf (x.2.map g);rw[length_map,<- h1] at I;refine⟨I,λj hj=> ?_⟩;rw[I] at hj;have u:j / n<x.2.length:=by
   rw[<- h1];exact Nat.div_lt_of_lt_mul (by rw[Nat.mul_comm];exact hj)
  have J:=mod_lt j hn0;have hx:=getElem?_eq_getElem u;have hj2:j=j / n * n+j % n:=by rw[Nat.mul_comm];exact(Nat.div_add_mod j n).symm
  have Y:=h5 _ (List.getElem_mem u);have U:=(hc _ _ hx).2 (j % n);generalize x.2[j / n]=y at hx Y U;rw[<- hg y Y] at U;rw[hj2,flat_get f n hf _ _ _ J,getElem?_map,hx];have hfl2:=hf (g y);have hv:=getElem?_eq_getElem (show j % n<(f (g y)).length by omega);simp only[map_some,Option.bind_some];rw[hv,fM,<- Nat.add_assoc];exact U _ hv
theorem aio {w:World} {x:eY×List Int} (h:(iT.slice (.int .u8) 1).In w x):iF w x.1 (x.2.map λn=>UInt8.ofNat n.toNat):=by
 obtain⟨⟨h1,h2,h3,h4⟩,h5⟩:=h;have h4:(x.2≠([]:List Int))->∃b o,x.1.a=some ⟨b,o,none⟩/\b<w.heap.size/\∀i (y:Int),x.2[i]? =some y->([Value.int .u8 y]:List Value).length=1/\∀j v,([Value.int .u8 y]:List Value)[j]? =some v->w.cell? ⟨b,o+i * 1+j,none⟩=some v:=h4;have h1:x.1.len=x.2.length:=h1;refine⟨by simpa using h1,?_,h2⟩;by_cases u:x.2=([]:List Int)
 ·rw[u] at h1 ⊢;simp only[List.length_nil] at h1;rw[h1]
  cases x.1.a with
  |none=>rfl
  |some a=>exact⟨rfl,λj hj=>by simp[bytesV] at hj⟩
 ·obtain⟨b,o,ha,hb,hc⟩:=h4 u;rw[ha];refine⟨by simp[bytesV,h1],λj hj=> ?_⟩;simp only[bytesV,length_map] at hj;have hy:=getElem?_eq_getElem hj;have:=(hc j _ hy).2 0 _ rfl;rw[fM];simp only[Nat.mul_one,Nat.add_zero] at this;rw[this];have hw:=wf_u8 (h5 _ (List.getElem_mem hj));simp only[bytesV,getElem?_map,hy,map_some];congr 2;simp;omega
end Gp
end
section
namespace Gp
open Go
def nU {α β:Type} (enc:α->Value) (ev:β->Value) (w:World) (r:Nat) (l:List (α×β)):Prop:=
 ∃es clock,w.heap[r]? =some (.map es clock)/\es.toList.map (λe=>(e.key,e.val))=(l.map λx=>(enc x.1,ev x.2))/\(es.toList.map (·.born)).Nodup/\∀e∈es.toList,e.born<clock
section
variable {α β:Type} {enc:α->Value} {ev:β->Value} {w w':World} {r:Nat} {l:List (α×β)} {P:Program} {kt:TypeId}
theorem nU.fr {S:Nat->Prop} (h:nU enc ev w r l) (hf:fV w w' S) (hs:¬S r):nU enc ev w' r l:=by
 obtain⟨es,c,h1,h2,h3⟩:=h;exact⟨es,c,by rw[hf.same r (Array.getElem?_eq_some_iff.1 h1).1 hs];exact h1,h2,h3⟩
theorem nU.ext (h:nU enc ev w r l) (hf:Ext w w'):nU enc ev w' r l:=h.fr (hf λ_=>False) (by simp)
theorem nU.lt (h:nU enc ev w r l):r<w.heap.size:=by
 obtain⟨es,c,h1,h2⟩:=h;exact(Array.getElem?_eq_some_iff.1 h1).1
theorem nU.new (w:World) (enc:α->Value) (ev:β->Value):nU enc ev (w.alloc (.map #[] 0)) w.heap.size []:=⟨#[],0,World.alloc_heap_new w _,rfl,by simp,by simp⟩
variable [DecidableEq α]
def yE:List (α×β)->α->Option β
 |[],_=>none
 |x::l,a=>if a=x.1 then some x.2 else yE l a
def G8:List (α×β)->α->β->List (α×β)
 |[],a,b=>[(a,b)]
 |x::l,a,b=>if a=x.1 then (a,b)::l else x::G8 l a b
def wQ:List (α×β)->α->List (α×β)
 |[],_=>[]
 |x::l,a=>if a=x.1 then l else x::wQ l a
theorem amY (l:List (α×β)) (a a':α) (b:β):yE (G8 l a b) a'=if a'=a then some b else yE l a':=by
 induction l with
 |nil=>unfold G8 yE;split<;>simp_all [yE]
 |cons x l ih=>
  unfold G8;by_cases h:a=x.1
  ·rw[if_pos h];unfold yE;by_cases h':a'=a
   ·rw[if_pos h',if_pos h']
   ·rw[if_neg h',if_neg h',if_neg (by rw[<- h];exact h')]
  ·rw[if_neg h];unfold yE;by_cases h':a'=x.1
   ·rw[if_pos h',if_pos h',if_neg (by rw[h'];exact λe=>h e.symm)]
   ·rw[if_neg h',if_neg h',ih]
theorem aiD (l:List (α×β)) (a:α) (b:β):(G8 l a b).map (·.1)=if a∈l.map (·.1) then l.map (·.1) else l.map (·.1)++[a]:=by
 induction l with
 |nil=>simp[G8]
 |cons x l ih=>
  unfold G8;by_cases h:a=x.1
  ·rw[if_pos h];simp[h]
  ·rw[if_neg h,map_cons,ih,map_cons];by_cases h':a∈l.map (·.1)
   ·rw[if_pos h',if_pos (List.mem_cons_of_mem _ h')]
   ·rw[if_neg h',if_neg (by simp only[List.mem_cons,not_or];exact⟨h,h'⟩)];simp
theorem agq {l:List (α×β)} (h:(l.map (·.1)).Nodup) (a:α) (b:β):((G8 l a b).map (·.1)).Nodup:=by
 rw[aiD];split
 ·exact h
 ·rename_i hn;rw[List.nodup_append];exact⟨h,by simp,λx hx y hy e=>by simp only[List.mem_singleton] at hy;subst hy;subst e;exact hn hx⟩
theorem Pv (l:List (α×β)) (a:α):(wQ l a).Sublist l:=by
 induction l with
 |nil=>exact List.Sublist.refl _
 |cons x l ih=>
  unfold wQ;split
  ·exact List.sublist_cons_self _ _
  ·exact ih.cons_cons _
theorem Lj (hE:∀a b:α,DJ P 16 kt (enc a) (enc b)=some (decide (a=b))) (a:α) (b:β):∀(es:List MapEntry) (l:List (α×β)) (i:Nat),es.map (λe=>(e.key,e.val))=(l.map λx=>(enc x.1,ev x.2))->
  (yE l a=none/\oM P kt (enc a) es i=some none/\G8 l a b=l++[(a,b)])\/
  ∃j v e,yE l a=some v/\oM P kt (enc a) es i=some (some (i+j,ev v))/\es[j]? =some e/\e.key=enc a/\
   (es.modify j λe=>{e with key:=enc a,val:=ev b}).map (λe=>(e.key,e.val))=(G8 l a b).map λx=>(enc x.1,ev x.2):=by
 intro es
 induction es with
 |nil=>
  intro l i h
  cases l with
  |nil=>exact .inl ⟨rfl,rfl,rfl⟩
  |cons x l=>simp at h
 |cons e es ih=>
  intro l i h
  cases l with
  |nil=>simp at h
  |cons x l=>
   simp only[map_cons,List.cons.injEq,Prod.mk.injEq] at h;obtain⟨⟨h1,h2⟩,h3⟩:=h;unfold oM yE G8;rw[h1,hE];by_cases hx:a=x.1
   ·simp only[hx,decide_true,if_true];refine .inr ⟨0,x.2,e,rfl,by rw[h2,Nat.add_zero],rfl,h1,?_⟩;simp[List.modify,h3]
   ·simp only[hx,decide_false,if_false];rcases ih l (i+1) h3 with ⟨g1,g2,g3⟩|⟨j,v,e',g1,g2,g3,g4,g5⟩
    ·exact .inl ⟨g1,g2,by rw[g3];rfl⟩
    ·refine .inr ⟨j+1,v,e',g1,by rw[g2];congr 3;omega,by simpa using g3,g4,?_⟩;simp only[List.modify_succ_cons,map_cons,g5,h1,h2]
theorem aee {k:Kind} (h:nU enc ev w r l) (hE:∀a b:α,DJ P 16 kt (enc a) (enc b)=some (decide (a=b))) (a:α) (hk:nS P kt (enc a)=true) {z:Value} {K:k.T->Prop}
  (h0:yE l a=none->k.dec z K) (h1:∀b,yE l a=some b->k.dec (ev b) K):zQ P kt k (some r) (enc a) z w K:=by
 obtain⟨es,c,g1,g2,_⟩:=h;refine⟨hk,.inr ⟨r,es,c,rfl,g1,?_⟩⟩
 cases hl:yE l a with
 |none=>
  cases l with
  |nil=>
   have:es.toList=[]:=by simpa using g2
   exact⟨none,by rw[this];rfl,h0 hl⟩
  |cons x l'=>
   rcases Lj hE a x.2 es.toList _ 0 g2 with ⟨_,q2,_⟩|⟨j,v,e,q1,_⟩
   ·exact⟨_,q2,h0 hl⟩
   ·rw[hl] at q1;cases q1
 |some b=>
  rcases Lj hE a b es.toList _ 0 g2 with ⟨q1,_,_⟩|⟨j,v,e,q1,q2,_⟩
  ·rw[hl] at q1;cases q1
  ·rw[hl] at q1;cases q1;exact⟨_,q2,h1 b hl⟩
theorem Oq (es:List MapEntry) (j:Nat) (k v:Value):(es.modify j λe=>{e with key:=k,val:=v}).map (·.born)=es.map (·.born):=by
 induction es generalizing j with
 |nil=>simp
 |cons e es ih=>
  cases j with
  |zero=>simp[List.modify]
  |succ j=>rw[List.modify_succ_cons,map_cons,map_cons,ih]
theorem XZ (h:nU enc ev w r l) (hE:∀a b:α,DJ P 16 kt (enc a) (enc b)=some (decide (a=b))) (a:α) (b:β) (hk:nS P kt (enc a)=true) {K:b_}
  (hK:∀w',nU enc ev w' r (G8 l a b)->fV w w' (·=r)->w'.heap.size=w.heap.size->K w'):zS P kt (some r) (enc a) (ev b) w K:=by
 obtain⟨es,c,h1,h2,h3,h4⟩:=h;have u:=(Array.getElem?_eq_some_iff.1 h1).1;rcases Lj hE a b es.toList _ 0 h2 with ⟨_,q2,q3⟩|⟨j,v,e,q1,q2,q3,q4,q5⟩
 ·refine⟨hk,r,es,c,rfl,h1,none,q2,?_⟩;show K (w.putObj r (.map (es.push {key:=enc a,val:=ev b,born:=c}) (c+1)));refine hK _ ⟨es.push {key:=enc a,val:=ev b,born:=c},c+1,by simp[World.putObj,getElem?_setIfInBounds,u],?_,?_,?_⟩ (fV.jh _ _ _) (by simp[World.putObj])
  ·rw[q3];simp[h2]
  ·rw[Array.toList_push,List.map_append,List.nodup_append];refine⟨h3,by simp,λx hx y hy e=> ?_⟩;obtain⟨e',he',rfl⟩:=List.mem_map.1 hx;have:=h4 e' he';simp at hy;omega
  ·intro e he;rw[Array.toList_push] at he;rcases List.mem_append.1 he with he|he
   ·have:=h4 e he;omega
   ·have:e={key:=enc a,val:=ev b,born:=c}:=by simpa using he
    rw[this];simp
 ·rw[Nat.zero_add] at q2;refine⟨hk,r,es,c,rfl,h1,_,q2,⟨e,by rw[<- Array.getElem?_toList];exact q3,q4⟩,?_⟩;refine hK _ ⟨_,c,by simp[World.putObj,getElem?_setIfInBounds,u];rfl,?_,?_,?_⟩ (fV.jh _ _ _) (by simp[World.putObj])
  ·rw[toList_modify];exact q5
  ·rw[toList_modify,Oq];exact h3
  ·intro e' he';have hm:e'.born∈(es.toList.map (·.born)):=by
    rw[<- Oq es.toList j (enc a) (ev b),<- toList_modify];exact List.mem_map_of_mem he'
   obtain⟨e'',he'',hb⟩:=List.mem_map.1 hm;rw[<- hb];exact h4 e'' he''
theorem ada (hE:∀a b:α,DJ P 16 kt (enc a) (enc b)=some (decide (a=b))) (a:α):∀(es:List MapEntry) (l:List (α×β)) (i:Nat),es.map (λe=>(e.key,e.val))=(l.map λx=>(enc x.1,ev x.2))->
  (oM P kt (enc a) es i=some none/\wQ l a=l)\/
  ∃j v,j<es.length/\oM P kt (enc a) es i=some (some (i+j,v))/\(es.eraseIdx j).map (λe=>(e.key,e.val))=(wQ l a).map λx=>(enc x.1,ev x.2):=by
 intro es
 induction es with
 |nil=>
  intro l i h
  cases l with
  |nil=>exact .inl ⟨rfl,rfl⟩
  |cons x l=>simp at h
 |cons e es ih=>
  intro l i h
  cases l with
  |nil=>simp at h
  |cons x l=>
   simp only[map_cons,List.cons.injEq,Prod.mk.injEq] at h;obtain⟨⟨h1,h2⟩,h3⟩:=h;unfold oM wQ;rw[h1,hE];by_cases hx:a=x.1
   ·simp only[hx,decide_true,if_true];exact .inr ⟨0,e.val,by simp,by rw[Nat.add_zero],by simpa using h3⟩
   ·simp only[hx,decide_false,if_false];rcases ih l (i+1) h3 with ⟨g1,g2⟩|⟨j,v,g1,g2,g3⟩
    ·exact .inl ⟨g1,by rw[g2]⟩
    ·refine .inr ⟨j+1,v,by simp;omega,by rw[g2];congr 3;omega,?_⟩;simp only[List.eraseIdx_cons_succ,map_cons,g3,h1,h2]
theorem XW (h:nU enc ev w r l) (hE:∀a b:α,DJ P 16 kt (enc a) (enc b)=some (decide (a=b))) (a:α) (hk:nS P kt (enc a)=true) {K:b_}
  (hK:∀w',nU enc ev w' r (wQ l a)->fV w w' (·=r)->w'.heap.size=w.heap.size->K w'):Me P kt (some r) (enc a) w K:=by
 obtain⟨es,c,h1,h2,h3,h4⟩:=h;have z:=(Array.getElem?_eq_some_iff.1 h1).1;rcases ada hE a es.toList _ 0 h2 with ⟨q1,q2⟩|⟨j,v,q0,q1,q2⟩
 ·refine⟨hk,.inr ⟨r,es,c,rfl,h1,none,q1,?_⟩⟩;refine hK _ ⟨es,c,by simp[World.putObj,getElem?_setIfInBounds,z],?_,h3,h4⟩ (fV.jh _ _ _) (by simp[World.putObj]);rw[q2];exact h2
 ·rw[Nat.zero_add] at q1;refine⟨hk,.inr ⟨r,es,c,rfl,h1,_,q1,?_⟩⟩;have u:(es.eraseIdxIfInBounds j).toList.Sublist es.toList:=by rw[Array.toList_eraseIdxIfInBounds];exact List.eraseIdx_sublist _ _
  refine hK _ ⟨es.eraseIdxIfInBounds j,c,by simp[World.putObj,getElem?_setIfInBounds,z],?_,h3.sublist (u.map _),λe he=>h4 e (u.mem he)⟩ (fV.jh _ _ _) (by simp[World.putObj]);rw[Array.toList_eraseIdxIfInBounds];exact q2
end
end Gp
end
section
namespace Gp
open Go
def spl (L:List Value) (o:Nat) (vs:List Value):List Value:=L.take o++vs++L.drop (o+vs.length)
theorem PU {A B C vs:List Value} (h:B.length=vs.length):spl (A++(B++C)) A.length vs=A++(vs++C):=by
 unfold spl;rw[List.take_left,<- h,<- List.drop_drop,List.drop_left,List.drop_left];simp only[List.append_assoc]
theorem DK {n m o dl dc:Nat} {w:World} {b:Nat} {src:eY} {L vs:List Value} {K:Int->b_} (hm:Nat.min src.len dl=m) (hc:ng w src.a (m * n) vs) (hr:Row w b L) (hl:o+vs.length<=L.length)
  (u:∀v∈vs,iC v=true) (hK:∀w',Row w' b (spl L o vs)->fV w w' (·=b)->K (m:Nat) w'):EO n ⟨some ⟨b,o,none⟩,dl,dc⟩ src w K:=by
 refine⟨vs,by simp only[hm];exact hc,?_,u,?_⟩
 ·rintro a ha
  cases ha
  intro j hj;rw[fM,hr.cell];exact⟨by simp;omega,hr.frozen _⟩
 ·obtain⟨r,f⟩:=Ep vs w L o 0 hr (by omega);simp only[hm];refine hK _ ?_ (f (·=b) rfl);simpa [spl] using r
theorem MO {w:World} {b o n:Nat} {A B C:List Value} (hr:Row w b (A++(B++C))) (ha:A.length=o) (hb:B.length=n):ng w (some ⟨b,o,none⟩) n B:=by
 refine⟨hb,λj hj=> ?_⟩;rw[fM,hr.cell,List.getElem?_append_right (by omega),List.getElem?_append_left (by omega)];congr 1;omega
theorem ZT {e:TypeId} {n bytes:Nat} {z old:List Value} {s:eY} {m:Nat} {w:World} {K:eY->b_} (h1:s.cap<s.len+m) (h2:(s.len+m) * bytes<=2^46) (h3:s.len+m<=2^46)
  (hc:ng w s.a (s.len * n) old)
  (hK:∀(c:Nat) w',s.len+m<=c->Row w' w.heap.size (old++(fO z m++fO z (c - (s.len+m))))->Ext w w'->w'.heap.size=w.heap.size+1->K ⟨some ⟨w.heap.size,0,none⟩,s.len+m,c⟩ w'):abu e n bytes z s (m:Int) w K:=by
 have hmb:m * bytes<=(s.len+m) * bytes:=mul_le_mul_right _ (by omega);have hz:((m * bytes:Nat):Int)<=2^46:=by omega
 rw[Int.natCast_mul] at hz;refine⟨by omega,hz,by omega,?_⟩;rw[toNat_natCast];refine .inr ⟨h1,h2,by omega,old,hc,λc h4 h5=>hK c _ h4 ?_ ?_ ?_⟩
 ·rw[<- List.append_assoc];exact Row.new w.drew _ e
 ·exact λS=>(fV.drew w S).trans (fV.alloc w.drew _ S) λ_ _ e=>e
 ·simp
theorem Tf {P:Program} {f:FuncId} {fn:Func} {tS tR e:TypeId} (hf:P.funcs[f]? =some fn) (j:(fn.name=="runtime.NumGoroutine")=false) (hb:fn.body.isNone=true)
  (hn:Extern.findNext fn=none) (he:Extern.find fn=some (Extern.SlicesOverlaps.overlaps #[tS,tS] #[tR])) (ht:P.underlying tS=some (.slice e)) (hi:(P.info? e).isSome=true)
  {w:World} {b c:Nat} {L M:List Value} {o la ca lb cb:Nat} (hr:Row w b L) (hr':Row w c M) (u:b≠c) (hM:M≠[]) {K:Value->b_} (hK:K (.bool false) w):
  aj7 P f [Value.slice (some ⟨b,0,none⟩) la ca,Value.slice (some ⟨c,o,none⟩) lb cb] w K:=by
 obtain⟨i,hi⟩:=Option.isSome_iff_exists.1 hi;refine⟨_,_,?_,hK⟩;obtain⟨tA,hA⟩:=id hr;obtain⟨tB,hB⟩:=id hr';have z:=Lib.run_overlaps_apart (P:=P) w tS tR e ht i.size (λw=>by simp[Go.sizeOf,run_typeInfo hi]) ⟨b,0,none⟩ ⟨c,o,none⟩ la ca lb cb u tA tB L.length M.length
  (by simp[World.shape?,hA]) (by simp[World.shape?,hB]) (by simpa using hM) (hr.frozen 0) (hr.frozen _)
 rw[run_callFunc_extern hf j hb hn he];simp only[z];rfl
section
variable {α:Type} {n:Nat} {f:α->List Value}
theorem aaz {xs:List α} {i:Nat} {x:α} (hx:xs[i]? =some x):xs.flatMap f=(xs.take i).flatMap f++(f x++(xs.drop (i+1)).flatMap f):=by
 obtain⟨h,rfl⟩:=List.getElem?_eq_some_iff.1 hx
 conv=>lhs;rw[<- List.take_append_drop i xs,List.drop_eq_getElem_cons h]
 rw[flatMap_append,List.flatMap_cons]
theorem WO {xs:List α} {i:Nat}:xs.flatMap f=(xs.take i).flatMap f++(xs.drop i).flatMap f:=by
 conv=>lhs;rw[<- List.take_append_drop i xs]
 rw[flatMap_append]
end
end Gp
end
section
namespace Gp
open Go
def ItF {α β:Type} (enc:α->Value) (ev:β->Value) (w:World) (q r:Nat) (l todo:List (α×β)):Prop:=
 ∃seen es clock,w.heap[q]? =some (.mapIter (some r) clock seen clock)/\w.heap[r]? =some (.map es clock)/\
  es.toList.map (λe=>(e.key,e.val))=(l.map λx=>(enc x.1,ev x.2))/\(es.toList.map (·.born)).Nodup/\(∀e∈es.toList,e.born<clock)/\
  (leftOf es seen).toList.map (λe=>(e.key,e.val))=todo.map λx=>(enc x.1,ev x.2)
def anX {α β:Type} (enc:α->Value) (ev:β->Value) (w:World) (q:Nat) (x:α×β):Prop:=∀K:Value->Value->Prop,K (enc x.1) (ev x.2)->Vy q w K
section
variable {α β:Type} {enc:α->Value} {ev:β->Value} {w w':World} {q r:Nat} {l todo:List (α×β)} {P:Program} {kt:TypeId}
theorem aaI (es:Array MapEntry):(leftOf es #[]).toList=es.toList:=by
 unfold leftOf;rw[toList_filter];exact List.filter_eq_self.2 λx _=>by simp
theorem aeh (h:nU enc ev w r l) {K:Addr->b_} (hK:∀w',ItF enc ev w' w.heap.size r l l->Ext w w'->w'.heap.size=w.heap.size+1->K ⟨w.heap.size,0,none⟩ w'):VB (some r) w K:=by
 obtain⟨es,c,h1,h2,h3,h4⟩:=h;refine .inr ⟨r,es,c,rfl,h1,hK _ ⟨#[],es,c,World.alloc_heap_new w _,?_,h2,h3,h4,by rw[aaI];exact h2⟩ (λS=>fV.alloc w _ S) (by simp)⟩;have:=(fV.alloc w (.mapIter (some r) c #[] c) λ_=>False).same r (Array.getElem?_eq_some_iff.1 h1).1 (by simp);rw[this];exact h1
theorem Lc:∀{L:List MapEntry} {i:Nat} {e:MapEntry},(L.map (·.born)).Nodup->L[i]? =some e->L.filter (λx=> !(x.born==e.born))=L.eraseIdx i
 |[],i,e,_,h=>by simp at h
 |x::L,0,e,hn,h=>by
  rw[List.getElem?_cons_zero] at h
  cases h
  rw[map_cons,List.nodup_cons] at hn;rw[List.filter_cons_of_neg (by simp),List.eraseIdx_cons_zero];refine List.filter_eq_self.2 λy hy=> ?_;have:y.born≠x.born:=λe=>hn.1 (List.mem_map.2 ⟨y,hy,e⟩);simp[this]
 |x::L,i+1,e,hn,h=>by
  rw[List.getElem?_cons_succ] at h;rw[map_cons,List.nodup_cons] at hn;have:x.born≠e.born:=λhe=>hn.1 (List.mem_map.2 ⟨e,List.mem_of_getElem? h,he.symm⟩);rw[List.filter_cons_of_pos (by simp[this]),List.eraseIdx_cons_succ,Lc hn.2 h]
theorem IJ {γ δ:Type} (f:γ->δ) (L:List γ) (i:Nat):(L.eraseIdx i).map f=(L.map f).eraseIdx i:=by
 induction L generalizing i with
 |nil=>simp
 |cons x L ih=>cases i<;>simp[ih]
theorem agO (h:ItF enc ev w q r l todo) (u:q≠r) {Kend:b_} {Kstep:Value->Value->b_} (he:todo=[]->Kend w)
  (hs:∀i x w',todo[i]? =some x->ItF enc ev w' q r l (todo.eraseIdx i)->anX enc ev w' q x->fV w w' (·=q)->w'.heap.size=w.heap.size->Kstep (enc x.1) (ev x.2) w'):abB q w Kend Kstep:=by
 obtain⟨seen,es,c,g1,g2,g3,g4,g5,g6⟩:=h;refine .inr ⟨r,c,seen,c,es,c,g1,g2,g5,Nat.le_refl _,λh0=>he ?_,λe hm w1 hw1=> ?_⟩
 ·have:(leftOf es seen).toList=[]:=by
   have:leftOf es seen= #[]:=Array.eq_empty_of_size_eq_zero h0;rw[this]
  rw[this] at g6;exact List.map_eq_nil_iff.1 g6.symm
 ·obtain⟨i,hi⟩:=List.getElem?_of_mem hm;have hx:=congrArg (λL=>L[i]?) g6;simp only[getElem?_map,hi,map_some] at hx;obtain⟨x,hx1,hx2⟩:=Option.map_eq_some_iff.1 hx.symm;simp only[Prod.mk.injEq] at hx2;have z:=(Array.getElem?_eq_some_iff.1 g1).1;have hrl:=(Array.getElem?_eq_some_iff.1 g2).1;have j:w1.heap=w.heap:=by rcases hw1 with rfl|rfl<;>rfl
  have I:e∈es.toList:=by
   unfold leftOf at hm;rw[toList_filter] at hm;exact(List.mem_filter.1 hm).1
  have q1:(w1.putObj q (.mapIter (some r) c (seen.push e.born) c)).heap[q]? =some (.mapIter (some r) c (seen.push e.born) c):=by
   simp[World.putObj,j,getElem?_setIfInBounds,z]
  have r1:(w1.putObj q (.mapIter (some r) c (seen.push e.born) c)).heap[r]? =some (.map es c):=by
   simp[World.putObj,j,getElem?_setIfInBounds,u,g2]
  have J:((leftOf es seen).toList.map (·.born)).Nodup:=by
   unfold leftOf;rw[toList_filter];exact g4.sublist ((List.filter_sublist).map _)
  have fr:fV w (w1.putObj q (.mapIter (some r) c (seen.push e.born) c)) (·=q):=by
   rcases hw1 with rfl|rfl
   ·exact fV.jh _ _ _
   ·exact(fV.drew w _).trans (fV.jh _ _ _) λ_ _ e=>e
  have:=hs i x _ hx1 ⟨seen.push e.born,es,c,q1,r1,g3,g4,g5,?_⟩ (λK hK=>⟨r,c,seen,es,c,e,q1,r1,I,g4,by rw[<- hx2.1,<- hx2.2];exact hK⟩) fr (by simp[World.putObj,j])
  ·rw[hx2.1,hx2.2] at this;exact this
  ·have hl:(leftOf es (seen.push e.born)).toList=(leftOf es seen).toList.eraseIdx i:=by
    rw[<- Lc J hi];unfold leftOf;rw[toList_filter,toList_filter,List.filter_filter];refine List.filter_congr λy _=> ?_;rw[contains_push]
    cases seen.contains y.born<;>cases (y.born==e.born)<;>rfl
   rw[hl,IJ,g6,<- IJ]
end
end Gp
namespace Gp
open Go
def afB (w:World) (q r:Nat):Nat:=
 match w.heap[q]?,w.heap[r]? with
 |some (.mapIter _ _ seen _),some (.map es _)=>(leftOf es seen).size
 |_,_=>0
theorem ItF.left {α β:Type} {enc:α->Value} {ev:β->Value} {w:World} {q r:Nat} {l todo:List (α×β)} (h:ItF enc ev w q r l todo):afB w q r=todo.length:=by
 obtain⟨seen,es,c,g1,g2,_,_,_,g6⟩:=h;unfold afB;rw[g1,g2];have:=congrArg List.length g6;simpa using this
end Gp
end
section
namespace Gp
open Go
def fill:Code->CY->CY
 | .seq a b,an=>match an with
  | .leaf=> .seq (fill a .leaf) (fill b .leaf)
  | .seq x y=> .seq (fill a x) (fill b y)
  | .join st x y=> .join st (fill a x) (fill b y)
  |x=>x
 | .cond _ a b,an=>match an with
  | .leaf=> .cond (fill a .leaf) (fill b .leaf)
  | .cond x y=> .cond (fill a x) (fill b y)
  |x=>x
 | .block _ a,an=>match an with
  | .leaf=> .blk (fill a .leaf)
  | .blk x=> .blk (fill a x)
  |x=>x
 | .loop a,an=>match an with
  | .loop st x=> .loop st (fill a x)
  |x=>x
 | .scope a,an=>fill a an
 | .rangeFunc _ _ a b,an=>match an with
  | .rng ks x y=> .rng ks (fill a x) (fill b y)
  |x=>x
 |_,an=>an
def XV:(ks:List Kind)->PZ ks->PZ ks->Prop
 |[],K,K'=>∀w,K w->K' w
 |k::ks,K,K'=>∀x:k.T,XV ks (K x) (K' x)
theorem QD {rest:List Kind}:∀(ks:List Kind) {K K':PZ (ks++rest)} {φ ψ:List Value->PZ rest->Prop},XV (ks++rest) K K'->
  (∀vs c c',XV rest c c'->φ vs c->ψ vs c')->YB ks rest K φ->YB ks rest K' ψ
 |[],_,_,_,_,h,hp,hk=>hp _ _ _ h hk
 |_::ks,_,_,_,_,h,hp,⟨x,hk⟩=>⟨x,QD ks (h x) (λ_ _ _ hc hh=>hp _ _ _ hc hh) hk⟩
theorem MZ:∀(sh:List Shape) {K K':PZ (flat sh)} {φ:List Value->Prop} {w:World},XV (flat sh) K K'->YC sh K φ w->YC sh K' φ w
 |[],_,_,_,_,h,hk=>⟨hk.1,h _ hk.2⟩
 | .one _::sh,_,_,_,_,h,⟨x,hk⟩=>⟨x,MZ sh (h x) hk⟩
 | .agg ks::sh,_,_,_,_,h,hk=>QD ks h (λ_ _ _ hc hh=>MZ sh hc hh) hk
def fA (P:Program) (f:FuncId) (args:List Value) (sh:List Shape) (w:World) (K:PZ (flat sh)):Prop:=
 Calls P f ⟨args⟩ w λe w'=>YC sh K (λus=>e= .returned (kW us)) w'
theorem fA.mono {P:Program} {f:FuncId} {args:List Value} {sh:List Shape} {w:World} {K K':PZ (flat sh)} (h:fA P f args sh w K) (hk:XV (flat sh) K K'):fA P f args sh w K':=
 Calls.mono h λ_ _ hh=>MZ sh hk hh
def amM (P:Program) (fn:Func) (sh:List Shape) (an:CY) (args:List Value) (w:World) (K:PZ (flat sh)):Prop:=
 match fn.body with
 |some c=>cond (Nat.ble args.length fn.ntmps) (den P fn.ntmps c none (fill c an) (DN 0 args) [] w (anf P fn.results.toList sh K)) False
 |none=>False
@[reducible] def fU (A B:Prop):Prop:=B->A
theorem okF {P:Program} (hP:ET P) {f:FuncId} {fn:Func} (hf:P.funcs[f]? =some fn) {args:List Value} {sh:List Shape} {w:World} {K:PZ (flat sh)} {S:Prop} (an:CY)
  (e:amM P fn sh an args w K=S):fU (fA P f args sh w K) S:=by
 intro h;rw[<- e] at h;unfold amM at h
 cases hb:fn.body with
 |none=>rw[hb] at h;exact h.elim
 |some c=>
  rw[hb] at h;dsimp only at h
  cases hl:Nat.ble args.length fn.ntmps with
  |false=>rw[hl] at h;exact h.elim
  |true=>
   rw[hl] at h;exact afb hP hf hb rfl (rs:=fn.results.toList) rfl sh K (fill c an) args hl w h
@[reducible] def Pt (p:eG) (K:Addr->Prop):Prop:=∃a,p=some a/\K a
theorem jc {a:Addr} {K:Addr->Prop}:Pt (some a) K↔K a:=
 ⟨λ⟨_,h,k⟩=>by cases h;exact k,λk=>⟨a,rfl,k⟩⟩
def S_:List Value->World->Addr->Nat->Prop->Prop
 |[],_,_,_,R=>R
 |v::vs,w,a,i,R=>w.cell? (a.add i)=some v/\S_ vs w a (i+1) R
theorem gJ (v:Value) (vs:List Value) (w:World) (a:Addr) (i:Nat) (R:Prop):S_ (v::vs) w a i R↔(w.cell? (a.add i)=some v/\S_ vs w a (i+1) R):=Iff.rfl
theorem ig (w:World) (a:Addr) (i:Nat) (R:Prop):S_ [] w a i R↔R:=Iff.rfl
theorem sx:(∀(w:World) (a:Addr) (i:Nat) (K:b_),iL [] w a i K=K w)/\(∀(a:Addr),(some a).isNone=false)/\((none:eG).isNone=true)/\
  (∀(a b:Prop),cond false a b=b)/\(∀(a b:Prop),cond true a b=a)/\(∀(a:Addr) (P:Addr->Prop),(∃x,some a=some x/\P x)↔P a)/\
  (∀(k:Kind) (w:World) (a:Addr) (K:k.T->Prop),Ld k w a K↔G_ k (w.cell? a) K)/\
  (∀(a:Value) (l:List Value),(a::l)[0]? =some a)/\(∀(a:Value) (l:List Value) (i:Nat),(a::l)[i+1]? =l[i]?)/\
  (∀(k:Kind) (v:Value) (K:k.T->Prop),G_ k (some v) K=k.dec v K)/\(∀(a:eG) (l c:Nat) (K:eY->Prop),Kind.dec .slice (.slice a l c) K=K ⟨a,l,c⟩)/\
  (∀(k:IntKind) (n:Int) (K:Int->Prop),Kind.dec (.int k) (.int k n) K=K n)/\(∀(b:Bool) (K:Bool->Prop),Kind.dec .bool (.bool b) K=K b)/\
  (∀(a:eG) (K:eG->Prop),Kind.dec .ptr (.pointer a) K=K a)/\(∀(b:ByteArray) (K:ByteArray->Prop),Kind.dec .str (.string b) K=K b)/\
  (∀(r:Option Nat) (K:Option Nat->Prop),Kind.dec .map (.map r) K=K r)/\(∀(v:Value) (K:Value->Prop),Kind.dec .any v K=K v)/\
  (∀(a:Addr) (l c size:Nat) (i:Int) (K:Addr->Prop),iP ⟨some a,l,c⟩ size i K↔(0<=i/\i<(l:Int)/\K (a.add (i.toNat * size))))/\
  (∀(b o n:Nat),(⟨b,o,none⟩:Addr).add n=⟨b,o+n,none⟩)/\(∀n:Nat,0+n=n)/\(∀n:Nat,n+0=n):=
 ⟨agQ,λ_=>rfl,rfl,λ_ _=>rfl,λ_ _=>rfl,KZ,aiL,λ_ _=>rfl,λ_ _ _=>rfl,fC,fE,fD,gW,D9,abN,KQ,Wp,wF,fM,Nat.zero_add,λ_=>rfl⟩
def aec (P:Program) (x:Value) (name:String) (args:List Value) (sh:List Shape) (w:World) (K:PZ (flat sh)):Prop:=
 match x with
 | .iface t v=>match P.underlying t,Rj P t name with
  |some d,some f=>cond (!Jr d && jZ P f) (fA P f (v::args) sh w K) False
  |_,_=>False
 |_=>False
end Gp
end
