import Derived.Test.YtdmbjlliegbpcaaGreatDoorW2
import Derived.Lib.Overlaps
open List (flatMap_append getElem?_eq_getElem getElem?_map getElem?_take length_append length_drop length_take map_cons)
open Nat (add_mul mul_le_mul_right)
open Int (toNat_natCast)
open Option (map_some)
open Array (toList_modify)
section
namespace Gp
open Go
def bytesV (l:List UInt8):List Value:=l.map λb=> .int .u8 b.toNat
theorem D9 (l:List UInt8):∀v∈bytesV l,iL v=true:=by
 intro v hv;simp only[bytesV,List.mem_map] at hv;obtain⟨b,_,rfl⟩:=hv;rfl
theorem iU (l:List UInt8):(bytesV l).length=l.length:=by simp[bytesV]
def iq (w:θ) (s:fU) (l:List UInt8):Prop:=s.len=l.length/\mF w s.a s.len (bytesV l)/\s.len<=s.cap
theorem iq.nil {w:θ}:iq w ⟨none,0,0⟩ []:=⟨rfl,rfl,Nat.le_refl _⟩
theorem iq.iD {w:θ} {s:fU} {l:List UInt8} (h:Buf w s (bytesV l)):iq w s l:=⟨by rw[h.1,iU],h.cells,by
 obtain⟨h1,⟨_,h2,h3⟩|⟨b,pad,_,h3,_⟩⟩:=h
 ·rw[h1,h2];simp
 ·omega⟩
theorem Ph {w:θ} {s:fU} {l:List UInt8} {K:ByteArray->Prop} (h:iq w s l) (hK:K ⟨⟨l⟩⟩):vC w s K:=
 ⟨⟨⟨l⟩⟩,h.1.symm,h.2.1,hK⟩
theorem iq.at_ {w:θ} {s:fU} {l:List UInt8} (h:iq w s l) {i:Nat} {b:UInt8} (hi:l[i]? =some b):∃a,s.a=some a/\w.cell? (a.add i)=some (.int .u8 b.toNat):=by
 have I:=(List.getElem?_eq_some_iff.1 hi).1;have hc:=h.2.1
 cases u:s.a with
 |none=>
  rw[u] at hc;have:(bytesV l).length=0:=by rw[show bytesV l=[] from hc];rfl
  rw[iU] at this;omega
 |some a=>
  rw[u] at hc;refine⟨a,rfl,?_⟩;rw[hc.2 i (by rw[iU];exact I)];simp[bytesV,hi]
theorem iq.empty {w:θ} {s:fU} {l:List UInt8} (h:iq w s l) (ha:s.a= .none):l=[]:=by
 have:=h.2.1;rw[ha] at this;have h2:bytesV l=[]:=this;simpa [bytesV] using h2
theorem iq.fr {w w':θ} {s:fU} {l:List UInt8} {S:Nat->Prop} (h:iq w s l) (hf:gW w w' S) (hs:∀a,s.a=some a->0<l.length->¬S a.block):iq w' s l:=by
 refine⟨h.1,?_,h.2.2⟩;have hc:=h.2.1
 cases u:s.a with
 |none=>rw[u] at hc;exact hc
 |some a=>
  rw[u] at hc;refine⟨hc.1,λj hj=> ?_⟩;have:=hc.2 j hj;rw[getElem?_eq_getElem hj] at this ⊢;exact LQ this hf (by rw[block_add];exact hs a u (by rw[iU] at hj;omega))
theorem iq.lt {w:θ} {s:fU} {l:List UInt8} (h:iq w s l) {a:Addr} (ha:s.a=some a) (hl:0<l.length):a.block<w.heap.size:=by
 obtain⟨a',h1,h2⟩:=h.at_ (getElem?_eq_getElem hl);rw[ha] at h1;cases h1;have:=cell_lt h2
 rwa [block_add] at this
theorem iq.ext {w w':θ} {s:fU} {l:List UInt8} (h:iq w s l) (hf:Ext w w'):iq w' s l:=h.fr (hf λ_=>False) (by simp)
theorem iq.unique {w:θ} {s:fU} {l m:List UInt8} (h:iq w s l) (h':iq w s m):l=m:=by
 apply List.ext_getElem?;intro i;by_cases hi:i<l.length
 ·have hm:i<m.length:=by rw[<- h'.1,h.1];exact hi
  obtain⟨a,ha,hc⟩:=h.at_ (getElem?_eq_getElem hi);obtain⟨a',ha',hc'⟩:=h'.at_ (getElem?_eq_getElem hm);rw[ha] at ha';cases ha';rw[hc] at hc';simp only[Option.some.injEq,Value.int.injEq,true_and] at hc';rw[getElem?_eq_getElem hi,getElem?_eq_getElem hm];congr 1;exact UInt8.toNat_inj.1 (by omega)
 ·have hm:¬i<m.length:=by rw[<- h'.1,h.1];exact hi
  rw[List.getElem?_eq_none (by omega),List.getElem?_eq_none (by omega)]
theorem NQ (a:Addr) (i j:Nat):(a.add i).add j=a.add (i+j):=by
 unfold Addr.add;by_cases h0:i=0<;>by_cases h1:j=0<;>simp[h0,h1,Nat.add_assoc]
theorem iq.cut {w:θ} {s:fU} {l:List UInt8} {lo hi:Nat} (h:iq w s l) (h1:lo<=hi) (h2:hi<=l.length) (c:Nat) (hc':hi<=c) (m:Nat) (hm:m=lo->s.a= .none\/lo=hi\/lo=0):
  iq w ⟨qm s.a m lo 1,hi - lo,c - lo⟩ ((l.take hi).drop lo):=by
 refine⟨by simp;omega,?_,by simp only;omega⟩;have hc:=h.2.1
 cases I:s.a with
 |none=>
  have:l=[]:=h.empty I;subst this;simp only[qm];split<;>simp[mF,bytesV]
 |some a=>
  rw[I] at hc;by_cases u:m=lo
  ·rcases hm u with hx|hx|hx
   ·rw[I] at hx;cases hx
   ·subst hx;simp only[qm,u,if_true,Nat.sub_self];have:List.drop lo (List.take lo l)=[]:=by simp
    rw[this];exact⟨rfl,λj hj=>by simp[bytesV] at hj⟩
   ·subst hx;simp only[qm,u,if_true,Nat.sub_zero,List.drop_zero];refine⟨by simp[bytesV];omega,λj hj=> ?_⟩;simp only[iU,length_take] at hj;rw[hc.2 j (by rw[iU];omega)];simp only[bytesV,getElem?_map,getElem?_take];rw[if_pos (by omega)]
  ·simp only[qm,u,if_false,map_some];refine⟨by simp only[iU,length_drop,length_take];omega,λj hj=> ?_⟩;simp only[iU,length_take,length_drop] at hj;rw[NQ,Nat.mul_one,hc.2 (lo+j) (by rw[iU];omega)];simp only[bytesV,getElem?_map,getElem?_take,List.getElem?_drop];rw[if_pos (by omega)]
theorem kN {w:θ} {s:fU} {l:List UInt8} {lo hi:Int} {K:fU->Prop} (h:iq w s l) (h0:0<=lo) (h1:lo<=hi) (h2:hi<=l.length)
  (hK:∀s',iq w s' ((l.take hi.toNat).drop lo.toNat)->(∀a',s'.a=some a'->∃a,s.a=some a/\a'.block=a.block)->K s'):kT s 1 lo hi K:=by
 have hl:=h.1;have hc:=h.2.2;refine⟨h0,h1,by omega,hK _ ?_ ?_⟩
 ·refine h.cut (by omega) (by omega) _ (by omega) _ λe=> ?_;right;left;omega
 ·intro a' ha';simp only[qm] at ha';split at ha'
  ·exact⟨a',ha',rfl⟩
  ·cases hs:s.a with
   |none=>rw[hs] at ha';cases ha'
   |some a=>rw[hs] at ha';simp only[map_some,Option.some.injEq] at ha';exact⟨a,rfl,by rw[<- ha',block_add]⟩
theorem jd {e:TypeId} {w:θ} {s x:fU} {l m:List UInt8} {K:fU->b_} (hs:Buf w s (bytesV l)) (hx:iq w x m) (hl:l.length+m.length<=2^46)
  (hK:∀s' w',Buf w' s' (bytesV (l++m))->gW w w' (fU.at s)->(∀b,fU.at s' b->fU.at s b\/w.heap.size<=b)->(s'.a=none->l++m=[]/\s.a=none)->K s' w'):lK e 1 1 [(Value.int .u8 0)] s x w K:=by
 refine⟨bytesV m,by rw[Nat.mul_one];exact hx.2.1,?_⟩;rw[hx.1,<- iU m];refine abI hs (D9 m) (by simp only[iU];omega) λs' w' h1 h2 h3 h4=>hK s' w' (by simpa [bytesV] using h1) h2 h3 λh=> ?_;obtain⟨h5,h6⟩:=h4 h;refine⟨?_,h6⟩;rw[<- List.length_eq_zero_iff] at h5 ⊢;simpa [bytesV] using h5
theorem iq.row {w:θ} {b:Nat} {l:List UInt8} (h:Row w b (bytesV l)):Buf w ⟨some ⟨b,0,none⟩,l.length,l.length⟩ (bytesV l):=
 ⟨by simp[bytesV],.inr ⟨b,[],rfl,by simp[bytesV],by simpa using h⟩⟩
theorem Buf.nil {w:θ}:Buf w ⟨none,0,0⟩ []:=⟨rfl,.inl ⟨rfl,rfl,rfl⟩⟩
theorem Buf.set {w:θ} {s:fU} {vs:List Value} (h:Buf w s vs) {i:Nat} (hi:i<vs.length):∃b,s.a=some ⟨b,0,none⟩/\∀(v:Value) (K:b_),iL v=true->
  (∀w',Buf w' s (vs.set i v)->gW w w' (fU.at s)->w'.heap.size=w.heap.size->K w')->St w ⟨b,i,none⟩ v K:=by
 obtain⟨hl,⟨_,h1,_⟩|⟨b,pad,ha,hc,hr⟩⟩:=h
 ·rw[h1] at hi;simp at hi
 ·refine⟨b,ha,λv K hv hK=>g_ hr hv (by simp;omega) λw1 r1 f1 z1=>hK w1 ⟨by simp[hl],.inr ⟨b,pad,ha,by simp[hc],?_⟩⟩ (f1 _ ⟨0,ha⟩) z1⟩;rw[List.set_append_left _ _ hi] at r1;exact r1
theorem Buf.lt {w:θ} {s:fU} {vs:List Value} (h:Buf w s vs) {b:Nat} (hb:fU.at s b):b<w.heap.size:=by
 obtain⟨o,hb⟩:=hb;obtain⟨_,⟨ha,_,_⟩|⟨c,pad,ha,_,hr⟩⟩:=h
 ·rw[ha] at hb;cases hb
 ·rw[ha] at hb;cases hb;exact hr.lt
theorem Buf.at_eq {w:θ} {s:fU} {vs:List Value} (h:Buf w s vs) {a:Addr} (ha:s.a=some a):fU.at s a.block:=by
 obtain⟨_,⟨ha',_,_⟩|⟨c,pad,ha',_,hr⟩⟩:=h
 ·rw[ha'] at ha;cases ha
 ·rw[ha'] at ha;cases ha;exact⟨0,ha'⟩
theorem r_:IntKind.bits .i64=64:=rfl
theorem D7 {a b:Nat} (ha:a<2^63) (hb:b<2^63):kF .i64 (a:Int) (b:Int)=((a &&& b:Nat):Int):=by
 unfold kF;have h1:(BitVec.ofInt (IntKind.bits .i64) (a:Int)).toNat=a:=by rw[r_,BitVec.toNat_ofInt];omega
 have h2:(BitVec.ofInt (IntKind.bits .i64) (b:Int)).toNat=b:=by rw[r_,BitVec.toNat_ofInt];omega
 rw[BitVec.toNat_and,h1,h2];have:a &&& b<=a:=Nat.and_le_left;rw[wrap_i64 (by omega) (by omega)]
theorem OW {a b:Nat} (ha:a<2^63) (hb:b<2^63):Ql .i64 (a:Int) (b:Int)=((a|||b:Nat):Int):=by
 unfold Ql;have h1:(BitVec.ofInt (IntKind.bits .i64) (a:Int)).toNat=a:=by rw[r_,BitVec.toNat_ofInt];omega
 have h2:(BitVec.ofInt (IntKind.bits .i64) (b:Int)).toNat=b:=by rw[r_,BitVec.toNat_ofInt];omega
 rw[BitVec.toNat_or,h1,h2];have:a|||b<2^63:=Nat.or_lt_two_pow ha hb;rw[wrap_i64 (by omega) (by omega)]
theorem ahr {a b:Nat} (ha:a<256) (hb:b<256):kF .u8 (a:Int) (b:Int)=((a &&& b:Nat):Int):=by
 unfold kF;have e:IntKind.bits .u8=8:=rfl;have h1:(BitVec.ofInt (IntKind.bits .u8) (a:Int)).toNat=a:=by rw[e,BitVec.toNat_ofInt];omega
 have h2:(BitVec.ofInt (IntKind.bits .u8) (b:Int)).toNat=b:=by rw[e,BitVec.toNat_ofInt];omega
 rw[BitVec.toNat_and,h1,h2];have:a &&& b<=a:=Nat.and_le_left;rw[IntKind.wrap_u8];omega
theorem xM {a k:Nat} (hk:k<=64):jH .i64 (a:Int) (k:Int)=((a / 2^k:Nat):Int):=by
 unfold jH;have e:(2:Int)^(min (k:Int).toNat (IntKind.bits .i64))=((2^k:Nat):Int):=by
  rw[r_,toNat_natCast,Nat.min_eq_left hk];simp
 rw[e,Int.fdiv_eq_ediv_of_nonneg _ (Int.natCast_nonneg _),Int.natCast_ediv]
theorem ah3 {a k:Nat} (hk:k<=8):jH .u8 (a:Int) (k:Int)=((a / 2^k:Nat):Int):=by
 unfold jH;have e:(2:Int)^(min (k:Int).toNat (IntKind.bits .u8))=((2^k:Nat):Int):=by
  rw[show IntKind.bits .u8=8 from rfl,toNat_natCast,Nat.min_eq_left hk];simp
 rw[e,Int.fdiv_eq_ediv_of_nonneg _ (Int.natCast_nonneg _),Int.natCast_ediv]
theorem abv {a k:Nat} (hk:k<=64) (h:a * 2^k<2^63):FU .i64 (a:Int) (k:Int)=((a * 2^k:Nat):Int):=by
 unfold FU;have e:(2:Int)^(min (k:Int).toNat (IntKind.bits .i64))=((2^k:Nat):Int):=by
  rw[r_,toNat_natCast,Nat.min_eq_left hk];simp
 rw[e,<- Int.natCast_mul,wrap_i64 (by omega) (by omega)]
theorem afA (a k:Nat):a &&& 2^k=a / 2^k % 2 * 2^k:=by
 apply Nat.eq_of_testBit_eq;intro i;rw[Nat.testBit_and,Nat.testBit_two_pow];have h2:a.testBit k=decide (a / 2^k % 2=1):=Nat.testBit_eq_decide_div_mod_eq;have hc:a / 2^k % 2=0\/a / 2^k % 2=1:=by omega
 by_cases hk:k=i
 ·subst hk;rcases hc with h|h
  ·simp[h2,h]
  ·rw[h2,h];simp
 ·rcases hc with h|h
  ·simp[h,hk]
  ·rw[h,Nat.one_mul,Nat.testBit_two_pow];simp[hk]
theorem AZ (a k:Nat):a &&& (2^k - 1)=a % 2^k:=Nat.and_two_pow_sub_one_eq_mod a k
theorem Ll {a k b:Nat} (hb:b<2^k):a * 2^k|||b=a * 2^k+b:=by
 have:=Nat.two_pow_add_eq_or_of_lt (i:=k) (b:=b) hb a;rw[Nat.mul_comm a,this]
theorem Dq {n:Nat} {K:b_}:∀(ds:List Nat) (w:θ),(∀d∈ds,n<=d/\w.heap[d]? =some (.deferred (some [])))->ds.Nodup->(∀w',gW w w' (λb=>n<=b)->w'.heap.size=w.heap.size->K w')->yj ds w K:=by
 intro ds
 induction ds with
 |nil=>intro w _ _ h;exact h w (gW.refl _ _) rfl
 |cons d ds ih=>
  intro w h1 h2 h;refine⟨(h1 d (List.mem_cons_self ..)).2,ih _ ?_ (List.nodup_cons.1 h2).2 ?_⟩
  ·intro e he;have:=h1 e (List.mem_cons_of_mem _ he);refine⟨this.1,?_⟩;have u:¬d=e:=λx=>(List.nodup_cons.1 h2).1 (x ▸ he);simp[World.putObj,u,this.2]
  ·intro w' f z;exact h w' (((gW.qV w d _).mono λb e=>by have:=(h1 d (List.mem_cons_self ..)).1;omega).trans f λ_ _ e=>e) (by simpa [World.putObj] using z)
end Gp
end
section
namespace Gp
open Go
structure iV {α:Type} (n:Nat) (f:α->List Value) (w:θ) (s:fU) (xs:List α):Prop where
 len:s.len=xs.length
 mem:(s.a=none/\xs=[]/\s.cap=0)\/∃b pad,s.a=some ⟨b,0,none⟩/\s.cap * n=xs.length * n+pad.length/\Row w b (xs.flatMap f++pad)
structure mQ {α:Type} (n:Nat) (f:α->List Value) (w:θ) (s:fU) (xs:List α):Prop where
 len:s.len=xs.length
 cells:mF w s.a (s.len * n) (xs.flatMap f)
 cap:s.len<=s.cap
theorem nD {z:List Value}:∀k,(gZ z k).length=k * z.length
 |0=>by simp[gZ]
 |k+1=>by simp[gZ,nD k,add_mul];omega
section
variable {α:Type} {n:Nat} {f:α->List Value} {w w':θ} {s:fU} {xs:List α}
theorem iV.nil:iV n f w ⟨none,0,0⟩ []:=⟨rfl,.inl ⟨rfl,rfl,rfl⟩⟩
theorem iV.lt (h:iV n f w s xs) {b:Nat} (hb:fU.at s b):b<w.heap.size:=by
 obtain⟨o,hb⟩:=hb;obtain⟨_,⟨ha,_,_⟩|⟨c,pad,ha,_,hr⟩⟩:=h
 ·rw[ha] at hb;cases hb
 ·rw[ha] at hb;cases hb;exact hr.lt
theorem iV.fr {S:Nat->Prop} (h:iV n f w s xs) (hf:gW w w' S) (hs:∀b,fU.at s b->¬S b):iV n f w' s xs:=by
 obtain⟨hl,⟨ha,h1,h2⟩|⟨b,pad,ha,hc,hr⟩⟩:=h
 ·exact⟨hl,.inl ⟨ha,h1,h2⟩⟩
 ·exact⟨hl,.inr ⟨b,pad,ha,hc,hr.fr hf (hs b ⟨0,ha⟩)⟩⟩
theorem iV.ext (h:iV n f w s xs) (hf:Ext w w'):iV n f w' s xs:=h.fr (hf λ_=>False) (λ_ _=>by simp)
theorem iV.sl (hn:∀x,(f x).length=n) (h0:0<n) (h:iV n f w s xs):mQ n f w s xs:=by
 obtain⟨hl,⟨ha,rfl,hc⟩|⟨b,pad,ha,hc,hr⟩⟩:=h
 ·exact⟨hl,by rw[ha];rfl,by rw[hl];simp⟩
 ·refine⟨hl,?_,?_⟩
  ·rw[ha];refine⟨by rw[jo f n hn,hl],λj hj=> ?_⟩;rw[gy,hr.cell,Nat.zero_add,List.getElem?_append_left hj]
  ·rw[hl];exact Nat.le_of_mul_le_mul_right (by omega:xs.length * n<=s.cap * n) h0
theorem mQ.nil:mQ n f w ⟨none,0,0⟩ []:=⟨rfl,rfl,Nat.le_refl _⟩
theorem mQ.at_ (hn:∀x,(f x).length=n) (h0:0<n) (h:mQ n f w s xs) {i:Nat} {x:α} (hi:xs[i]? =some x):∃a,s.a=some a/\∀j v,(f x)[j]? =some v->w.cell? (a.add (i * n+j))=some v:=by
 have J:=(List.getElem?_eq_some_iff.1 hi).1;have hc:=h.cells;have u:=jo f n hn xs;have hm:(i+1) * n<=xs.length * n:=mul_le_mul_right _ J;rw[add_mul] at hm
 cases I:s.a with
 |none=>
  rw[I] at hc;have h0:xs.flatMap f=[]:=hc;rw[h0] at u;simp only[List.length_nil] at u;omega
 |some a=>
  rw[I] at hc;refine⟨a,rfl,λj v hj=> ?_⟩;have N:j<n:=by have:=(List.getElem?_eq_some_iff.1 hj).1;rw[hn] at this;exact this
  rw[hc.2 _ (by omega),flat_get f n hn xs i j N,hi];exact hj
theorem mQ.fr {S:Nat->Prop} (h:mQ n f w s xs) (hf:gW w w' S) (hs:∀a,s.a=some a->0<xs.length->¬S a.block):mQ n f w' s xs:=by
 refine⟨h.len,?_,h.cap⟩;have hc:=h.cells
 cases u:s.a with
 |none=>rw[u] at hc;exact hc
 |some a=>
  rw[u] at hc;refine⟨hc.1,λj hj=> ?_⟩;have:=hc.2 j hj;rw[getElem?_eq_getElem hj] at this ⊢;refine LQ this hf (by
   rw[block_add];refine hs a u ?_
   cases xs with
   |nil=>simp at hj
   |cons=>simp)
theorem mQ.ext (h:mQ n f w s xs) (hf:Ext w w'):mQ n f w' s xs:=h.fr (hf λ_=>False) (by simp)
theorem ϔ {e:TypeId} {bytes:Nat} {z:List Value} {ys:List α} {K:fU->b_} (hn:∀x,(f x).length=n) (h:iV n f w s xs) (hz:z.length=n) (h0:0<n) (h1:∀x,∀v∈f x,iL v=true)
  (hl:(xs.length+ys.length) * bytes<=2^46) (hl2:xs.length+ys.length<=2^46)
  (hK:∀s' w',iV n f w' s' (xs++ys)->(gW w w' (fU.at s))->(∀b,fU.at s' b->fU.at s b\/w.heap.size<=b)->K s' w'):Vl e n bytes z s ys.length (ys.flatMap f) w K:=by
 obtain⟨hlen,hc⟩:=id h;have I:∀v∈ys.flatMap f,iL v=true:=λv hv=>by
  obtain⟨x,_,hx⟩:=List.mem_flatMap.1 hv;exact h1 x v hx
 have O:=jo f n hn ys;have J:=jo f n hn xs;by_cases u:s.len+ys.length<=s.cap
 ·rcases hc with ⟨ha,rfl,hc⟩|⟨b,pad,ha,hc,hr⟩
  ·simp at hlen;have:ys=[]:=by cases ys with
    |nil=>rfl
    |cons _ _=>simp at u;omega
   subst this;refine .inl ⟨u,λa ha'=>(by rw[ha] at ha';cases ha'),I,?_⟩;rw[ha];exact hK _ _ ⟨by simp[hlen],.inl ⟨rfl,rfl,hc⟩⟩ (gW.refl _ _) (λb ⟨o,hb⟩=>by cases hb)
  ·have N:(s.len+ys.length) * n<=s.cap * n:=mul_le_mul_right _ u;rw[add_mul,hlen] at N;obtain⟨r2,f2⟩:=zl (ys.flatMap f) w (xs.flatMap f++pad) (s.len * n) 0 hr (by simp only[length_append];rw[O,J,hlen];omega);refine .inl ⟨u,λa ha'=> ?_,I,?_⟩
   ·rw[ha] at ha';cases ha';intro j hj;rw[gy,gy,hr.cell,hr.frozen];refine⟨?_,rfl⟩;rw[getElem?_eq_getElem (by simp only[length_append];rw[J,hlen];omega)];rfl
   ·rw[ha];simp only[gy,Nat.zero_add];have e1:(xs.flatMap f++pad).take (s.len * n+0)=xs.flatMap f:=by rw[Nat.add_zero,hlen,<- J];simp
    have e2:((xs.flatMap f++pad).drop (s.len * n+0+(ys.flatMap f).length)).length+ys.length * n=pad.length:=by
     simp only[length_drop,length_append];rw[J,O,hlen];omega
    rw[e1] at r2;refine hK _ _ ⟨by simp[hlen],.inr ⟨b,(xs.flatMap f++pad).drop (s.len * n+0+(ys.flatMap f).length),rfl,?_,?_⟩⟩ (f2 _ ⟨0,ha⟩) (λc ⟨o,hc'⟩=> .inl (by cases hc';exact⟨0,ha⟩))
    ·show s.cap * n=_;simp only[length_append,add_mul];omega
    ·rw[flatMap_append];exact r2
 ·have hb:(s.len+ys.length) * bytes<=2^46:=by rw[hlen];exact hl
  refine .inr ⟨by omega,hb,by omega,xs.flatMap f,?_,λc h1' h2'=> ?_⟩
  ·exact(h.sl hn h0).cells
  ·refine hK _ _ ⟨by simp[hlen],.inr ⟨w.heap.size,gZ z (c - (s.len+ys.length)),rfl,?_,by rw[flatMap_append];exact Row.new w.drew _ e⟩⟩ ((gW.drew w _).trans (gW.alloc w.drew _ _) λ_ _ e=>e) (λb ⟨o,hb⟩=> .inr (by cases hb;exact Nat.le_refl _));rw[nD,hz];simp only[length_append];rw[hlen] at h1' ⊢;rw[<- add_mul];congr 1;omega
theorem mD {e:TypeId} {bytes:Nat} {z:List Value} {t:fU} {ys:List α} {K:fU->b_} (hn:∀x,(f x).length=n) (h:iV n f w s xs) (ht:mQ n f w t ys) (hz:z.length=n) (h0:0<n) (h1:∀x,∀v∈f x,iL v=true)
  (hl:(xs.length+ys.length) * bytes<=2^46) (hl2:xs.length+ys.length<=2^46)
  (hK:∀s' w',iV n f w' s' (xs++ys)->(gW w w' (fU.at s))->(∀b,fU.at s' b->fU.at s b\/w.heap.size<=b)->K s' w'):lK e n bytes z s t w K:=by
 refine⟨ys.flatMap f,ht.cells,?_⟩;rw[ht.len];exact ϔ hn h hz h0 h1 hl hl2 hK
theorem iV.row {b:Nat} (h:Row w b (xs.flatMap f)):iV n f w ⟨some ⟨b,0,none⟩,xs.length,xs.length⟩ xs:=
 ⟨rfl,.inr ⟨b,[],rfl,by simp,by simpa using h⟩⟩
theorem mQ.cut (hn:∀x,(f x).length=n) (h:mQ n f w s xs) {lo hi:Nat} (h1:lo<=hi) (h2:hi<=xs.length) (m:Nat) (hm:m=lo->lo=hi):
  mQ n f w ⟨qm s.a m lo n,hi - lo,s.cap - lo⟩ ((xs.take hi).drop lo):=by
 have hcap:=h.cap;have hlen:=h.len;refine⟨by simp;omega,?_,by simp only;omega⟩;have hc:=h.cells
 cases I:s.a with
 |none=>
  rw[I] at hc;have h0:xs.flatMap f=[]:=hc;have:((xs.take hi).drop lo).flatMap f=[]:=by
   rw[List.flatMap_eq_nil_iff] at h0 ⊢;exact λx hx=>h0 x (List.mem_of_mem_take (List.mem_of_mem_drop hx))
  simp only[qm];split<;>simpa [mF] using this
 |some a=>
  rw[I] at hc;by_cases u:m=lo
  ·have:=hm u;subst this;simp only[qm,u,if_true,Nat.sub_self,Nat.zero_mul];have:List.drop lo (List.take lo xs)=[]:=by simp
   rw[this];exact⟨rfl,λj hj=>by simp at hj⟩
  ·simp only[qm,u,if_false,map_some];have J:(((xs.take hi).drop lo).flatMap f).length=(hi - lo) * n:=by
    rw[jo f n hn];simp;congr 1;omega
   refine⟨J,λj hj=> ?_⟩;rw[J] at hj;have e:lo * n+j<(xs.flatMap f).length:=by
    rw[jo f n hn];have h3:hi * n<=xs.length * n:=mul_le_mul_right _ h2;have h4:(hi - lo) * n=hi * n - lo * n:=Nat.sub_mul _ _ _;have h5:lo * n<=hi * n:=mul_le_mul_right _ h1;omega
   have ea:(a.add (lo * n)).add j=a.add (lo * n+j):=NQ _ _ _;rw[ea,hc.2 _ e];have hn0:0<n:=by
    cases n with
    |zero=>simp at hj
    |succ n=>omega
   have hj':j=j / n * n+j % n:=by rw[Nat.mul_comm];exact(Nat.div_add_mod j n).symm
   have N:=Nat.mod_lt j hn0;have hjd:j / n<hi - lo:=(Nat.div_lt_iff_lt_mul hn0).2 hj;rw[hj',<- Nat.add_assoc,<- add_mul,flat_get f n hn _ _ _ N,flat_get f n hn _ _ _ N];rw[List.getElem?_drop,getElem?_take,if_pos (by omega)]
end
theorem aaX {α:Type} {n:Nat} {f:α->List Value} {w:θ} {s:fU} {xs:List α} {lo hi:Int} {K:fU->Prop} (hn:∀x,(f x).length=n) (h:mQ n f w s xs) (h0:0<=lo) (h1:lo<=hi) (h2:hi<=xs.length)
  (hK:∀s',mQ n f w s' ((xs.take hi.toNat).drop lo.toNat)->K s'):kT s n lo hi K:=by
 have hl:=h.len;have hc:=h.cap;refine⟨h0,h1,by omega,hK _ ?_⟩;exact h.cut hn (by omega) (by omega) _ λe=>by omega
end Gp
end
section
namespace Gp
open Go
def xO {α:Type} (enc:α->Value) (w:θ) (r:Nat) (xs:List α):Prop:=
 ∃es clock,w.heap[r]? =some (.map es clock)/\es.toList.map (λe=>(e.key,e.val))=xs.map λx=>(enc x,.bool true)
section
variable {α:Type} {enc:α->Value} {w w':θ} {r:Nat} {xs:List α} {P:Program} {kt:TypeId}
theorem xO.fr {S:Nat->Prop} (h:xO enc w r xs) (hf:gW w w' S) (hs:¬S r):xO enc w' r xs:=by
 obtain⟨es,c,h1,h2⟩:=h;exact⟨es,c,by rw[hf.same r (Array.getElem?_eq_some_iff.1 h1).1 hs];exact h1,h2⟩
theorem xO.ext (h:xO enc w r xs) (hf:Ext w w'):xO enc w' r xs:=h.fr (hf λ_=>False) (by simp)
theorem xO.new (w:θ) (enc:α->Value):xO enc (w.alloc (.map #[] 0)) w.heap.size []:=⟨#[],0,World.alloc_heap_new w _,rfl⟩
variable [DecidableEq α]
theorem VA (hE:∀a b:α,Fa P 16 kt (enc a) (enc b)=some (decide (a=b))) (a:α):∀(es:List MapEntry) (xs:List α) (i:Nat),es.map (λe=>(e.key,e.val))=(xs.map λx=>(enc x,Value.bool true))->
  (a∈xs->∃j,vW P kt (enc a) es i=some (some (j,.bool true)))/\(a∉xs->vW P kt (enc a) es i=some none):=by
 intro es
 induction es with
 |nil=>
  intro xs i h
  cases xs with
  |nil=>exact⟨λh=>by simp at h,λ_=>rfl⟩
  |cons x xs=>simp at h
 |cons e es ih=>
  intro xs i h
  cases xs with
  |nil=>simp at h
  |cons x xs=>
   simp only[map_cons,List.cons.injEq,Prod.mk.injEq] at h;obtain⟨⟨h1,h2⟩,h3⟩:=h;have hi:=ih xs (i+1) h3;unfold vW;rw[h1,hE];by_cases hx:a=x
   ·subst hx;simp only[decide_true];exact⟨λ_=>⟨i,by rw[h2]⟩,λhn=>by simp at hn⟩
   ·simp only[hx,decide_false];exact⟨λhm=>hi.1 (by simpa [hx] using hm),λhn=>hi.2 (by simp at hn;exact hn.2)⟩
theorem adt (h:xO enc w r xs) (hE:∀a b:α,Fa P 16 kt (enc a) (enc b)=some (decide (a=b))) (a:α) (hk:ny P kt (enc a)=true) {K:Bool->Prop} (hK:K (decide (a∈xs))):qG P kt .bool (some r) (enc a) (.bool false) w K:=by
 obtain⟨es,c,h1,h2⟩:=h;refine⟨hk,.inr ⟨r,es,c,rfl,h1,?_⟩⟩;have hf:=VA hE a es.toList xs 0 h2;by_cases hm:a∈xs
 ·obtain⟨j,hj⟩:=hf.1 hm;exact⟨_,hj,by simpa [hm,Kind.dec] using hK⟩
 ·exact⟨_,hf.2 hm,by simpa [hm,Kind.dec] using hK⟩
theorem adu (h:xO enc w r xs) (hE:∀a b:α,Fa P 16 kt (enc a) (enc b)=some (decide (a=b))) (a:α) (hk:ny P kt (enc a)=true) (hn:a∉xs) {K:b_}
  (hK:∀w',xO enc w' r (xs++[a])->gW w w' (·=r)->w'.heap.size=w.heap.size->K w'):og P kt (some r) (enc a) (.bool true) w K:=by
 obtain⟨es,c,h1,h2⟩:=h;have u:=(Array.getElem?_eq_some_iff.1 h1).1;refine⟨hk,r,es,c,rfl,h1,none,(VA hE a es.toList xs 0 h2).2 hn,?_⟩;show K (w.putObj r (.map (es.push {key:=enc a,val:= .bool true,born:=c}) (c+1)));refine hK _ ⟨es.push {key:=enc a,val:= .bool true,born:=c},c+1,by simp[World.putObj,u],?_⟩ (gW.qV _ _ _) (by simp[World.putObj]);simp[h2]
end
end Gp
end
section
namespace Gp
open Go
theorem afn {k:IntKind} {n:Int} (h:(Lit.int k n).wf=true):k.min<=n/\n<=k.max:=by
 simpa [Lit.wf] using h
theorem wf_u8 {n:Int} (h:(Lit.int .u8 n).wf=true):0<=n/\n<=255:=afn h
theorem wf_u16 {n:Int} (h:(Lit.int .u16 n).wf=true):0<=n/\n<=65535:=afn h
theorem agI {w:θ} {x:fU×List Int} (h:(jV.slice (.int .u8) 1).In w x):iq w x.1 (x.2.map λn=>UInt8.ofNat n.toNat):=by
 obtain⟨⟨h1,h2,h3,h4⟩,h5⟩:=h;have h4:(x.2≠([]:List Int))->∃b o,x.1.a=some ⟨b,o,none⟩/\b<w.heap.size/\∀i (y:Int),x.2[i]? =some y->([Value.int .u8 y]:List Value).length=1/\∀j v,([Value.int .u8 y]:List Value)[j]? =some v->w.cell? ⟨b,o+i * 1+j,none⟩=some v:=h4;have h1:x.1.len=x.2.length:=h1;refine⟨by simpa using h1,?_,h2⟩;by_cases u:x.2=([]:List Int)
 ·rw[u] at h1 ⊢;simp only[List.length_nil] at h1;rw[h1]
  cases x.1.a with
  |none=>rfl
  |some a=>exact⟨rfl,λj hj=>by simp[bytesV] at hj⟩
 ·obtain⟨b,o,ha,hb,hc⟩:=h4 u;rw[ha];refine⟨by simp[bytesV,h1],λj hj=> ?_⟩;simp only[bytesV,List.length_map] at hj;have hy:=getElem?_eq_getElem hj;have:=(hc j _ hy).2 0 _ rfl;rw[gy];simp only[Nat.mul_one,Nat.add_zero] at this;rw[this];have hw:=wf_u8 (h5 _ (List.getElem_mem hj));simp only[bytesV,getElem?_map,hy,map_some];congr 2;simp;omega
end Gp
end
section
namespace Gp
open Go
def pY {α β:Type} (enc:α->Value) (ev:β->Value) (w:θ) (r:Nat) (l:List (α×β)):Prop:=
 ∃es clock,w.heap[r]? =some (.map es clock)/\es.toList.map (λe=>(e.key,e.val))=(l.map λx=>(enc x.1,ev x.2))/\(es.toList.map (·.born)).Nodup/\∀e∈es.toList,e.born<clock
section
variable {α β:Type} {enc:α->Value} {ev:β->Value} {w w':θ} {r:Nat} {l:List (α×β)} {P:Program} {kt:TypeId}
theorem pY.fr {S:Nat->Prop} (h:pY enc ev w r l) (hf:gW w w' S) (hs:¬S r):pY enc ev w' r l:=by
 obtain⟨es,c,h1,h2,h3⟩:=h;exact⟨es,c,by rw[hf.same r (Array.getElem?_eq_some_iff.1 h1).1 hs];exact h1,h2,h3⟩
theorem pY.ext (h:pY enc ev w r l) (hf:Ext w w'):pY enc ev w' r l:=h.fr (hf λ_=>False) (by simp)
theorem pY.lt (h:pY enc ev w r l):r<w.heap.size:=by
 obtain⟨es,c,h1,h2⟩:=h;exact(Array.getElem?_eq_some_iff.1 h1).1
theorem pY.new (w:θ) (enc:α->Value) (ev:β->Value):pY enc ev (w.alloc (.map #[] 0)) w.heap.size []:=⟨#[],0,World.alloc_heap_new w _,rfl,by simp,by simp⟩
variable [DecidableEq α]
def vw:List (α×β)->α->Option β
 |[],_=>none
 |x::l,a=>if a=x.1 then some x.2 else vw l a
def zn:List (α×β)->α->β->List (α×β)
 |[],a,b=>[(a,b)]
 |x::l,a,b=>if a=x.1 then (a,b)::l else x::zn l a b
theorem Ar (l:List (α×β)) (a a':α) (b:β):vw (zn l a b) a'=if a'=a then some b else vw l a':=by
 induction l with
 |nil=>unfold zn vw;split<;>simp_all [vw]
 |cons x l ih=>
  unfold zn;by_cases h:a=x.1
  ·rw[if_pos h];unfold vw;by_cases h':a'=a
   ·rw[if_pos h',if_pos h']
   ·rw[if_neg h',if_neg h',if_neg (by rw[<- h];exact h')]
  ·rw[if_neg h];unfold vw;by_cases h':a'=x.1
   ·rw[if_pos h',if_pos h',if_neg (by rw[h'];exact λe=>h e.symm)]
   ·rw[if_neg h',if_neg h',ih]
theorem Bz {l:List (α×β)} {a:α}:vw l a=none↔a∉l.map (·.1):=by
 induction l with
 |nil=>simp[vw]
 |cons x l ih=>
  unfold vw;by_cases h:a=x.1
  ·rw[if_pos h];simp[h]
  ·rw[if_neg h,ih];simp[h]
theorem QC (l:List (α×β)) (a:α) (b:β):(zn l a b).map (·.1)=if a∈l.map (·.1) then l.map (·.1) else l.map (·.1)++[a]:=by
 induction l with
 |nil=>simp[zn]
 |cons x l ih=>
  unfold zn;by_cases h:a=x.1
  ·rw[if_pos h];simp[h]
  ·rw[if_neg h,map_cons,ih,map_cons];by_cases h':a∈l.map (·.1)
   ·rw[if_pos h',if_pos (List.mem_cons_of_mem _ h')]
   ·rw[if_neg h',if_neg (by simp only[List.mem_cons,not_or];exact⟨h,h'⟩)];simp
theorem NM {l:List (α×β)} (h:(l.map (·.1)).Nodup) (a:α) (b:β):((zn l a b).map (·.1)).Nodup:=by
 rw[QC];split
 ·exact h
 ·rename_i hn;rw[List.nodup_append];exact⟨h,by simp,λx hx y hy e=>by simp only[List.mem_singleton] at hy;subst hy;subst e;exact hn hx⟩
theorem MC (hE:∀a b:α,Fa P 16 kt (enc a) (enc b)=some (decide (a=b))) (a:α) (b:β):∀(es:List MapEntry) (l:List (α×β)) (i:Nat),es.map (λe=>(e.key,e.val))=(l.map λx=>(enc x.1,ev x.2))->
  (vw l a=none/\vW P kt (enc a) es i=some none/\zn l a b=l++[(a,b)])\/
  ∃j v e,vw l a=some v/\vW P kt (enc a) es i=some (some (i+j,ev v))/\es[j]? =some e/\e.key=enc a/\
   (es.modify j λe=>{e with key:=enc a,val:=ev b}).map (λe=>(e.key,e.val))=(zn l a b).map λx=>(enc x.1,ev x.2):=by
 intro es
 induction es with
 |nil=>
  intro l i h
  cases l with
  |nil=>exact .inl ⟨rfl,rfl,rfl⟩
  |cons x l=>simp at h
 |cons e es ih=>
  intro l i h
  cases l with
  |nil=>simp at h
  |cons x l=>
   simp only[map_cons,List.cons.injEq,Prod.mk.injEq] at h;obtain⟨⟨h1,h2⟩,h3⟩:=h;unfold vW vw zn;rw[h1,hE];by_cases hx:a=x.1
   ·simp only[hx,decide_true,if_true];refine .inr ⟨0,x.2,e,rfl,by rw[h2,Nat.add_zero],rfl,h1,?_⟩;simp[List.modify,h3]
   ·simp only[hx,decide_false,if_false];rcases ih l (i+1) h3 with ⟨g1,g2,g3⟩|⟨j,v,e',g1,g2,g3,g4,g5⟩
    ·exact .inl ⟨g1,g2,by rw[g3];rfl⟩
    ·refine .inr ⟨j+1,v,e',g1,by rw[g2];congr 3;omega,by simpa using g3,g4,?_⟩;simp only[List.modify_succ_cons,map_cons,g5,h1,h2]
theorem FW {k:Kind} (h:pY enc ev w r l) (hE:∀a b:α,Fa P 16 kt (enc a) (enc b)=some (decide (a=b))) (a:α) (hk:ny P kt (enc a)=true) {z:Value} {K:k.T->Prop}
  (h0:vw l a=none->k.dec z K) (h1:∀b,vw l a=some b->k.dec (ev b) K):qG P kt k (some r) (enc a) z w K:=by
 obtain⟨es,c,g1,g2,_⟩:=h;refine⟨hk,.inr ⟨r,es,c,rfl,g1,?_⟩⟩
 cases hl:vw l a with
 |none=>
  cases l with
  |nil=>
   have:es.toList=[]:=by simpa using g2
   exact⟨none,by rw[this];rfl,h0 hl⟩
  |cons x l'=>
   rcases MC hE a x.2 es.toList _ 0 g2 with ⟨_,q2,_⟩|⟨j,v,e,q1,_⟩
   ·exact⟨_,q2,h0 hl⟩
   ·rw[hl] at q1;cases q1
 |some b=>
  rcases MC hE a b es.toList _ 0 g2 with ⟨q1,_,_⟩|⟨j,v,e,q1,q2,_⟩
  ·rw[hl] at q1;cases q1
  ·rw[hl] at q1;cases q1;exact⟨_,q2,h1 b hl⟩
theorem PD (es:List MapEntry) (j:Nat) (k v:Value):(es.modify j λe=>{e with key:=k,val:=v}).map (·.born)=es.map (·.born):=by
 induction es generalizing j with
 |nil=>simp
 |cons e es ih=>
  cases j with
  |zero=>simp[List.modify]
  |succ j=>rw[List.modify_succ_cons,map_cons,map_cons,ih]
theorem xP (h:pY enc ev w r l) (hE:∀a b:α,Fa P 16 kt (enc a) (enc b)=some (decide (a=b))) (a:α) (b:β) (hk:ny P kt (enc a)=true) {K:b_}
  (hK:∀w',pY enc ev w' r (zn l a b)->gW w w' (·=r)->w'.heap.size=w.heap.size->K w'):og P kt (some r) (enc a) (ev b) w K:=by
 obtain⟨es,c,h1,h2,h3,h4⟩:=h;have u:=(Array.getElem?_eq_some_iff.1 h1).1;rcases MC hE a b es.toList _ 0 h2 with ⟨_,q2,q3⟩|⟨j,v,e,q1,q2,q3,q4,q5⟩
 ·refine⟨hk,r,es,c,rfl,h1,none,q2,?_⟩;show K (w.putObj r (.map (es.push {key:=enc a,val:=ev b,born:=c}) (c+1)));refine hK _ ⟨es.push {key:=enc a,val:=ev b,born:=c},c+1,by simp[World.putObj,u],?_,?_,?_⟩ (gW.qV _ _ _) (by simp[World.putObj])
  ·rw[q3];simp[h2]
  ·rw[Array.toList_push,List.map_append,List.nodup_append];refine⟨h3,by simp,λx hx y hy e=> ?_⟩;obtain⟨e',he',rfl⟩:=List.mem_map.1 hx;have:=h4 e' he';simp at hy;omega
  ·intro e he;rw[Array.toList_push] at he;rcases List.mem_append.1 he with he|he
   ·have:=h4 e he;omega
   ·have:e={key:=enc a,val:=ev b,born:=c}:=by simpa using he
    rw[this];simp
 ·rw[Nat.zero_add] at q2;refine⟨hk,r,es,c,rfl,h1,_,q2,⟨e,by rw[<- Array.getElem?_toList];exact q3,q4⟩,?_⟩;refine hK _ ⟨_,c,by simp[World.putObj,u];rfl,?_,?_,?_⟩ (gW.qV _ _ _) (by simp[World.putObj])
  ·rw[toList_modify];exact q5
  ·rw[toList_modify,PD];exact h3
  ·intro e' he';have hm:e'.born∈(es.toList.map (·.born)):=by
    rw[<- PD es.toList j (enc a) (ev b),<- toList_modify];exact List.mem_map_of_mem he'
   obtain⟨e'',he'',hb⟩:=List.mem_map.1 hm;rw[<- hb];exact h4 e'' he''
end
end Gp
end
section
namespace Gp
open Go
def spl (L:List Value) (o:Nat) (vs:List Value):List Value:=L.take o++vs++L.drop (o+vs.length)
theorem NC {A B C vs:List Value} (h:B.length=vs.length):spl (A++(B++C)) A.length vs=A++(vs++C):=by
 unfold spl;rw[List.take_left,<- h,<- List.drop_drop,List.drop_left,List.drop_left];simp only[List.append_assoc]
theorem uq {n m o dl dc:Nat} {w:θ} {b:Nat} {src:fU} {L vs:List Value} {K:Int->b_} (hm:Nat.min src.len dl=m) (hc:mF w src.a (m * n) vs) (hr:Row w b L) (hl:o+vs.length<=L.length)
  (u:∀v∈vs,iL v=true) (hK:∀w',Row w' b (spl L o vs)->gW w w' (·=b)->K (m:Nat) w'):wL n ⟨some ⟨b,o,none⟩,dl,dc⟩ src w K:=by
 refine⟨vs,by simp only[hm];exact hc,?_,u,?_⟩
 ·rintro a ha
  cases ha
  intro j hj;rw[gy,hr.cell];exact⟨by simp;omega,hr.frozen _⟩
 ·obtain⟨r,f⟩:=zl vs w L o 0 hr (by omega);simp only[hm];refine hK _ ?_ (f (·=b) rfl);simpa [spl] using r
theorem N_ {w:θ} {b o n:Nat} {A B C:List Value} (hr:Row w b (A++(B++C))) (ha:A.length=o) (hb:B.length=n):mF w (some ⟨b,o,none⟩) n B:=by
 refine⟨hb,λj hj=> ?_⟩;rw[gy,hr.cell,List.getElem?_append_right (by omega),List.getElem?_append_left (by omega)];congr 1;omega
theorem JQ {e:TypeId} {n bytes:Nat} {z old:List Value} {s:fU} {m:Nat} {w:θ} {K:fU->b_} (h1:s.cap<s.len+m) (h2:(s.len+m) * bytes<=2^46) (h3:s.len+m<=2^46)
  (hc:mF w s.a (s.len * n) old)
  (hK:∀(c:Nat) w',s.len+m<=c->Row w' w.heap.size (old++(gZ z m++gZ z (c - (s.len+m))))->Ext w w'->w'.heap.size=w.heap.size+1->K ⟨some ⟨w.heap.size,0,none⟩,s.len+m,c⟩ w'):QE e n bytes z s (m:Int) w K:=by
 have hmb:m * bytes<=(s.len+m) * bytes:=mul_le_mul_right _ (by omega);have hz:((m * bytes:Nat):Int)<=2^46:=by omega
 rw[Int.natCast_mul] at hz;refine⟨by omega,hz,by omega,?_⟩;rw[toNat_natCast];refine .inr ⟨h1,h2,by omega,old,hc,λc h4 h5=>hK c _ h4 ?_ ?_ ?_⟩
 ·rw[<- List.append_assoc];exact Row.new w.drew _ e
 ·exact λS=>(gW.drew w S).trans (gW.alloc w.drew _ S) λ_ _ e=>e
 ·simp
theorem Uj {P:Program} {f:FuncId} {fn:Func} {tS tR e:TypeId} (hf:P.funcs[f]? =some fn) (u:(fn.name=="runtime.NumGoroutine")=false) (hb:fn.body.isNone=true)
  (hn:Extern.findNext fn=none) (he:Extern.find fn=some (Extern.SlicesOverlaps.overlaps #[tS,tS] #[tR])) (ht:P.underlying tS=some (.slice e)) (hi:(P.info? e).isSome=true)
  {w:θ} {b c:Nat} {L M:List Value} {o la ca lb cb:Nat} (hr:Row w b L) (hr':Row w c M) (I:b≠c) (hM:M≠[]) {K:Value->b_} (hK:K (.bool false) w):
  ahf P f [Value.slice (some ⟨b,0,none⟩) la ca,Value.slice (some ⟨c,o,none⟩) lb cb] w K:=by
 obtain⟨i,hi⟩:=Option.isSome_iff_exists.1 hi;refine⟨_,_,?_,hK⟩;obtain⟨tA,hA⟩:=id hr;obtain⟨tB,hB⟩:=id hr';have J:=Lib.run_overlaps_apart (P:=P) w tS tR e ht i.size (λw=>by simp[Go.sizeOf,run_typeInfo hi]) ⟨b,0,none⟩ ⟨c,o,none⟩ la ca lb cb I tA tB L.length M.length
  (by simp[World.shape?,hA]) (by simp[World.shape?,hB]) (by simpa using hM) (hr.frozen 0) (hr.frozen _)
 rw[run_callFunc_extern hf u hb hn he];simp only[J];rfl
section
variable {α:Type} {n:Nat} {f:α->List Value}
theorem ϱ {xs:List α} {i:Nat} {x:α} (hx:xs[i]? =some x):xs.flatMap f=(xs.take i).flatMap f++(f x++(xs.drop (i+1)).flatMap f):=by
 obtain⟨h,rfl⟩:=List.getElem?_eq_some_iff.1 hx
 conv=>lhs;rw[<- List.take_append_drop i xs,List.drop_eq_getElem_cons h]
 rw[flatMap_append,List.flatMap_cons]
theorem Xc {xs:List α} {i:Nat}:xs.flatMap f=(xs.take i).flatMap f++(xs.drop i).flatMap f:=by
 conv=>lhs;rw[<- List.take_append_drop i xs]
 rw[flatMap_append]
end
end Gp
end
section
namespace Gp
open Go
def ItF {α β:Type} (enc:α->Value) (ev:β->Value) (w:θ) (q r:Nat) (l todo:List (α×β)):Prop:=
 ∃seen es clock,w.heap[q]? =some (.mapIter (some r) clock seen clock)/\w.heap[r]? =some (.map es clock)/\
  es.toList.map (λe=>(e.key,e.val))=(l.map λx=>(enc x.1,ev x.2))/\(es.toList.map (·.born)).Nodup/\(∀e∈es.toList,e.born<clock)/\
  (leftOf es seen).toList.map (λe=>(e.key,e.val))=todo.map λx=>(enc x.1,ev x.2)
section
variable {α β:Type} {enc:α->Value} {ev:β->Value} {w w':θ} {q r:Nat} {l todo:List (α×β)} {P:Program} {kt:TypeId}
theorem ItF.map (h:ItF enc ev w q r l todo):pY enc ev w r l:=by
 obtain⟨seen,es,c,_,h2,h3,h4,h5,_⟩:=h;exact⟨es,c,h2,h3,h4,h5⟩
end
end Gp
namespace Gp
open Go
def aha (w:θ) (q r:Nat):Nat:=
 match w.heap[q]?,w.heap[r]? with
 |some (.mapIter _ _ seen _),some (.map es _)=>(leftOf es seen).size
 |_,_=>0
theorem ItF.left {α β:Type} {enc:α->Value} {ev:β->Value} {w:θ} {q r:Nat} {l todo:List (α×β)} (h:ItF enc ev w q r l todo):aha w q r=todo.length:=by
 obtain⟨seen,es,c,g1,g2,_,_,_,g6⟩:=h;unfold aha;rw[g1,g2];have:=congrArg List.length g6;simpa using this
end Gp
end
section
namespace Gp
open Go
def fill:Code->ϓ->ϓ
 | .seq a b,an=>match an with
  | .leaf=> .seq (fill a .leaf) (fill b .leaf)
  | .seq x y=> .seq (fill a x) (fill b y)
  | .join st x y=> .join st (fill a x) (fill b y)
  |x=>x
 | .cond _ a b,an=>match an with
  | .leaf=> .cond (fill a .leaf) (fill b .leaf)
  | .cond x y=> .cond (fill a x) (fill b y)
  |x=>x
 | .block _ a,an=>match an with
  | .leaf=> .blk (fill a .leaf)
  | .blk x=> .blk (fill a x)
  |x=>x
 | .loop a,an=>match an with
  | .loop st x=> .loop st (fill a x)
  |x=>x
 | .scope a,an=>fill a an
 | .rangeFunc _ _ a b,an=>match an with
  | .rng ks x y=> .rng ks (fill a x) (fill b y)
  |x=>x
 |_,an=>an
def Yw:(ks:List Kind)->QF ks->QF ks->Prop
 |[],K,K'=>∀w,K w->K' w
 |k::ks,K,K'=>∀x:k.T,Yw ks (K x) (K' x)
theorem Rt {rest:List Kind}:∀(ks:List Kind) {K K':QF (ks++rest)} {φ ψ:List Value->QF rest->Prop},Yw (ks++rest) K K'->
  (∀vs c c',Yw rest c c'->φ vs c->ψ vs c')->YX ks rest K φ->YX ks rest K' ψ
 |[],_,_,_,_,h,hp,hk=>hp _ _ _ h hk
 |_::ks,_,_,_,_,h,hp,⟨x,hk⟩=>⟨x,Rt ks (h x) (λ_ _ _ hc hh=>hp _ _ _ hc hh) hk⟩
theorem Oo:∀(sh:List Shape) {K K':QF (flat sh)} {φ:List Value->Prop} {w:θ},Yw (flat sh) K K'->YZ sh K φ w->YZ sh K' φ w
 |[],_,_,_,_,h,hk=>⟨hk.1,h _ hk.2⟩
 | .one _::sh,_,_,_,_,h,⟨x,hk⟩=>⟨x,Oo sh (h x) hk⟩
 | .agg ks::sh,_,_,_,_,h,hk=>Rt ks h (λ_ _ _ hc hh=>Oo sh hc hh) hk
def fZ (P:Program) (f:FuncId) (args:List Value) (sh:List Shape) (w:θ) (K:QF (flat sh)):Prop:=
 Calls P f ⟨args⟩ w λe w'=>YZ sh K (λus=>e= .returned (Yr us)) w'
theorem fZ.mono {P:Program} {f:FuncId} {args:List Value} {sh:List Shape} {w:θ} {K K':QF (flat sh)} (h:fZ P f args sh w K) (hk:Yw (flat sh) K K'):fZ P f args sh w K':=
 Calls.mono h λ_ _ hh=>Oo sh hk hh
def aiA (P:Program) (fn:Func) (sh:List Shape) (an:ϓ) (args:List Value) (w:θ) (K:QF (flat sh)):Prop:=
 match fn.body with
 |some c=>cond (Nat.ble args.length fn.ntmps) (den P fn.ntmps c none (fill c an) (NT 0 args) [] w (aiQ P fn.results.toList sh K)) False
 |none=>False
@[reducible] def gI (A B:Prop):Prop:=B->A
theorem okF {P:Program} (hP:Vo P) {f:FuncId} {fn:Func} (hf:P.funcs[f]? =some fn) {args:List Value} {sh:List Shape} {w:θ} {K:QF (flat sh)} {S:Prop} (an:ϓ)
  (e:aiA P fn sh an args w K=S):gI (fZ P f args sh w K) S:=by
 intro h;rw[<- e] at h;unfold aiA at h
 cases hb:fn.body with
 |none=>rw[hb] at h;exact h.elim
 |some c=>
  rw[hb] at h;dsimp only at h
  cases hl:Nat.ble args.length fn.ntmps with
  |false=>rw[hl] at h;exact h.elim
  |true=>
   rw[hl] at h;exact aep hP hf hb rfl (rs:=fn.results.toList) rfl sh K (fill c an) args hl w h
@[reducible] def Pt (p:fO) (K:Addr->Prop):Prop:=∃a,p=some a/\K a
theorem iI {a:Addr} {K:Addr->Prop}:Pt (some a) K↔K a:=
 ⟨λ⟨_,h,k⟩=>by cases h;exact k,λk=>⟨a,rfl,k⟩⟩
def u_:List Value->θ->Addr->Nat->Prop->Prop
 |[],_,_,_,R=>R
 |v::vs,w,a,i,R=>w.cell? (a.add i)=some v/\u_ vs w a (i+1) R
theorem h_ (v:Value) (vs:List Value) (w:θ) (a:Addr) (i:Nat) (R:Prop):u_ (v::vs) w a i R↔(w.cell? (a.add i)=some v/\u_ vs w a (i+1) R):=Iff.rfl
theorem iC (w:θ) (a:Addr) (i:Nat) (R:Prop):u_ [] w a i R↔R:=Iff.rfl
theorem sx:(∀(w:θ) (a:Addr) (i:Nat) (K:b_),iw [] w a i K=K w)/\(∀(a:Addr),(some a).isNone=false)/\((none:fO).isNone=true)/\
  (∀(a b:Prop),cond false a b=b)/\(∀(a b:Prop),cond true a b=a)/\(∀(a:Addr) (P:Addr->Prop),(∃x,some a=some x/\P x)↔P a)/\
  (∀(k:Kind) (w:θ) (a:Addr) (K:k.T->Prop),Ld k w a K↔LdV k (w.cell? a) K)/\
  (∀(a:Value) (l:List Value),(a::l)[0]? =some a)/\(∀(a:Value) (l:List Value) (i:Nat),(a::l)[i+1]? =l[i]?)/\
  (∀(k:Kind) (v:Value) (K:k.T->Prop),LdV k (some v) K=k.dec v K)/\(∀(a:fO) (l c:Nat) (K:fU->Prop),Kind.dec .slice (.slice a l c) K=K ⟨a,l,c⟩)/\
  (∀(k:IntKind) (n:Int) (K:Int->Prop),Kind.dec (.int k) (.int k n) K=K n)/\(∀(b:Bool) (K:Bool->Prop),Kind.dec .bool (.bool b) K=K b)/\
  (∀(a:fO) (K:fO->Prop),Kind.dec .ptr (.pointer a) K=K a)/\(∀(b:ByteArray) (K:ByteArray->Prop),Kind.dec .str (.string b) K=K b)/\
  (∀(r:Option Nat) (K:Option Nat->Prop),Kind.dec .map (.map r) K=K r)/\(∀(v:Value) (K:Value->Prop),Kind.dec .any v K=K v)/\
  (∀(a:Addr) (l c size:Nat) (i:Int) (K:Addr->Prop),iM ⟨some a,l,c⟩ size i K↔(0<=i/\i<(l:Int)/\K (a.add (i.toNat * size))))/\
  (∀(b o n:Nat),(⟨b,o,none⟩:Addr).add n=⟨b,o+n,none⟩)/\(∀n:Nat,0+n=n)/\(∀n:Nat,n+0=n):=
 ⟨aaW,λ_=>rfl,rfl,λ_ _=>rfl,λ_ _=>rfl,MB,Vm,λ_ _=>rfl,λ_ _ _=>rfl,f_,gQ,gJ,iY,EG,aa6,L6,Iy,uQ,gy,Nat.zero_add,λ_=>rfl⟩
def JR (P:Program) (x:Value) (name:String) (args:List Value) (sh:List Shape) (w:θ) (K:QF (flat sh)):Prop:=
 match x with
 | .iface t v=>match P.underlying t,Xx P t name with
  |some d,some f=>cond (!Xn d && ni P f) (fZ P f (v::args) sh w K) False
  |_,_=>False
 |_=>False
def AsT (t:TypeId) (x:Value) (Kt:Value->Prop) (Kf:Prop):Prop:=
 match x with
 | .iface t' v=>cond (Nat.beq t' t) (Kt v) Kf
 | .nilIface=>Kf
 |_=>False
def StA (n:Nat) (v:Value) (w:θ) (a:Addr) (K:b_):Prop:=
 match v with
 | .agg cs=>cond (Nat.beq cs.toList.length n) (iw cs.toList w a 0 K) False
 |_=>False
def IfB (v:Value) (K:Bool->Prop):Prop:=
 match v with
 | .bool b=>K b
 |_=>False
end Gp
end
