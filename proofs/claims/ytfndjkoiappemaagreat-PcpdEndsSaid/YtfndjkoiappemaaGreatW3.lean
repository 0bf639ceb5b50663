import Derived.Test.YtfndjkoiappemaaGreatW2
import Derived.Lib.Overlaps
section
namespace Gp
open Go
def bytesV (l:List UInt8):List Value:=l.map fun b=> .int .u8 b.toNat
theorem zG (l:List UInt8):∀v∈bytesV l,gY v=true:=by
 intro v hv
 simp only [bytesV,List.mem_map] at hv
 obtain⟨b,_,rfl⟩:=hv
 rfl
theorem iG (l:List UInt8):(bytesV l).length=l.length:=by simp [bytesV]
theorem N8 (l m:List UInt8):bytesV (l++m)=bytesV l++bytesV m:=by simp [bytesV]
def rO (w:World) (s:b_) (l:List UInt8):Prop:=s.len=l.length/\sV w s.a s.len (bytesV l)/\s.len<=s.cap
theorem rO.nil {w:World}:rO w ⟨none,0,0⟩ []:=⟨rfl,rfl,Nat.le_refl _⟩
theorem rO.IB {w:World} {s:b_} {l:List UInt8} (h:Buf w s (bytesV l)):rO w s l:=⟨by rw [h.1,iG],h.cells,by
 obtain⟨h1,⟨_,h2,h3⟩|⟨b,pad,_,h3,_⟩⟩:=h
 ·rw [h1,h2];simp
 ·omega⟩
theorem Ut {w:World} {s:b_} {l:List UInt8} {K:ByteArray->Prop} (h:rO w s l) (hK:K ⟨⟨l⟩⟩):Jy w s K:=
 ⟨⟨⟨l⟩⟩,h.1.symm,h.2.1,hK⟩
theorem rO.at_ {w:World} {s:b_} {l:List UInt8} (h:rO w s l) {i:Nat} {b:UInt8} (hi:l[i]? =some b):∃a,s.a=some a/\w.cell? (a.add i)=some (.int .u8 b.toNat):=by
 have hlt:=(List.getElem?_eq_some_iff.1 hi).1
 have hc:=h.2.1
 cases hsa:s.a with
 |none=>
  rw [hsa] at hc
  have:(bytesV l).length=0:=by rw [show bytesV l=[] from hc];rfl
  rw [iG] at this;omega
 |some a=>
  rw [hsa] at hc
  refine⟨a,rfl,?_⟩
  rw [hc.2 i (by rw [iG];exact hlt)]
  simp [bytesV,hi]
theorem rO.empty {w:World} {s:b_} {l:List UInt8} (h:rO w s l) (ha:s.a= .none):l=[]:=by
 have:=h.2.1
 rw [ha] at this
 have h2:bytesV l=[]:=this
 simpa [bytesV] using h2
theorem rO.fr {w w':World} {s:b_} {l:List UInt8} {S:Nat->Prop} (h:rO w s l) (hf:fD w w' S) (hs:∀a,s.a=some a->0<l.length->¬S a.block):rO w' s l:=by
 refine⟨h.1,?_,h.2.2⟩
 have hc:=h.2.1
 cases hsa:s.a with
 |none=>rw [hsa] at hc;exact hc
 |some a=>
  rw [hsa] at hc
  refine⟨hc.1,fun j hj=> ?_⟩
  have:=hc.2 j hj
  rw [List.getElem?_eq_getElem hj] at this ⊢
  exact Az this hf (by rw [block_add];exact hs a hsa (by rw [iG] at hj;omega))
theorem rO.lt {w:World} {s:b_} {l:List UInt8} (h:rO w s l) {a:Addr} (ha:s.a=some a) (hl:0<l.length):a.block<w.heap.size:=by
 obtain⟨a',h1,h2⟩:=h.at_ (List.getElem?_eq_getElem hl)
 rw [ha] at h1;cases h1
 have:=cell_lt h2
 rwa [block_add] at this
theorem rO.ext {w w':World} {s:b_} {l:List UInt8} (h:rO w s l) (hf:Ext w w'):rO w' s l:=h.fr (hf fun _=>False) (by simp)
theorem Qs (a:Addr) (i j:Nat):(a.add i).add j=a.add (i+j):=by
 unfold Addr.add
 by_cases h0:i=0<;>by_cases h1:j=0<;>simp [h0,h1,Nat.add_assoc]
theorem rO.cut {w:World} {s:b_} {l:List UInt8} {lo hi:Nat} (h:rO w s l) (h1:lo<=hi) (h2:hi<=l.length) (c:Nat) (hc':hi<=c) (m:Nat) (hm:m=lo->s.a= .none\/lo=hi\/lo=0):
  rO w ⟨Dh s.a m lo 1,hi - lo,c - lo⟩ ((l.take hi).drop lo):=by
 refine⟨by simp;omega,?_,by simp only;omega⟩
 have hc:=h.2.1
 cases hsa:s.a with
 |none=>
  have:l=[]:=h.empty hsa
  subst this
  simp only [Dh]
  split<;>simp [sV,bytesV]
 |some a=>
  rw [hsa] at hc
  by_cases hml:m=lo
  ·rcases hm hml with hx|hx|hx
   ·rw [hsa] at hx;cases hx
   ·subst hx
    simp only [Dh,hml,if_true,Nat.sub_self]
    have:List.drop lo (List.take lo l)=[]:=by simp
    rw [this]
    exact⟨rfl,fun j hj=>by simp [bytesV] at hj⟩
   ·subst hx
    simp only [Dh,hml,if_true,Nat.sub_zero,List.drop_zero]
    refine⟨by simp [bytesV];omega,fun j hj=> ?_⟩
    simp only [iG,List.length_take] at hj
    rw [hc.2 j (by rw [iG];omega)]
    simp only [bytesV,List.getElem?_map,List.getElem?_take]
    rw [if_pos (by omega)]
  ·simp only [Dh,hml,if_false,Option.map_some]
   refine⟨by simp only [iG,List.length_drop,List.length_take];omega,fun j hj=> ?_⟩
   simp only [iG,List.length_take,List.length_drop] at hj
   rw [Qs,Nat.mul_one,hc.2 (lo+j) (by rw [iG];omega)]
   simp only [bytesV,List.getElem?_map,List.getElem?_take,List.getElem?_drop]
   rw [if_pos (by omega)]
theorem EZ {w:World} {s:b_} {l:List UInt8} {lo hi:Int} {K:b_->Prop} (h:rO w s l) (h0:0<=lo) (h1:lo<=hi) (h2:hi<=l.length)
  (hK:∀s',rO w s' ((l.take hi.toNat).drop lo.toNat)->(∀a',s'.a=some a'->∃a,s.a=some a/\a'.block=a.block)->K s'):EG s 1 lo hi K:=by
 have hl:=h.1
 have hc:=h.2.2
 refine⟨h0,h1,by omega,hK _ ?_ ?_⟩
 ·refine h.cut (by omega) (by omega) _ (by omega) _ fun e=> ?_
  right;left;omega
 ·intro a' ha'
  simp only [Dh] at ha'
  split at ha'
  ·exact⟨a',ha',rfl⟩
  ·cases hs:s.a with
   |none=>rw [hs] at ha';cases ha'
   |some a=>rw [hs] at ha';simp only [Option.map_some,Option.some.injEq] at ha';exact⟨a,rfl,by rw [<- ha',block_add]⟩
theorem uX {e:TypeId} {w:World} {s x:b_} {l m:List UInt8} {K:b_->World->Prop} (hs:Buf w s (bytesV l)) (hx:rO w x m) (hl:l.length+m.length<=2^46)
  (hK:∀s' w',Buf w' s' (bytesV (l++m))->fD w w' (b_.at s)->(∀b,b_.at s' b->b_.at s b\/w.heap.size<=b)->(s'.a=none->l++m=[]/\s.a=none)->K s' w'):rY e 1 1 [(Value.int .u8 0)] s x w K:=by
 refine⟨bytesV m,by rw [Nat.mul_one];exact hx.2.1,?_⟩
 rw [hx.1,<- iG m]
 refine YJ hs (zG m) (by simp only [iG];omega) fun s' w' h1 h2 h3 h4=>hK s' w' (by simpa [bytesV] using h1) h2 h3 fun h=> ?_
 obtain⟨h5,h6⟩:=h4 h
 refine⟨?_,h6⟩
 rw [<- List.length_eq_zero_iff] at h5 ⊢
 simpa [bytesV] using h5
theorem rO.row {w:World} {b:Nat} {l:List UInt8} (h:Row w b (bytesV l)):Buf w ⟨some ⟨b,0,none⟩,l.length,l.length⟩ (bytesV l):=
 ⟨by simp [bytesV],.inr ⟨b,[],rfl,by simp [bytesV],by simpa using h⟩⟩
theorem Buf.nil {w:World}:Buf w ⟨none,0,0⟩ []:=⟨rfl,.inl ⟨rfl,rfl,rfl⟩⟩
theorem Buf.set {w:World} {s:b_} {vs:List Value} (h:Buf w s vs) {i:Nat} (hi:i<vs.length):∃b,s.a=some ⟨b,0,none⟩/\∀(v:Value) (K:World->Prop),gY v=true->
  (∀w',Buf w' s (vs.set i v)->fD w w' (b_.at s)->w'.heap.size=w.heap.size->K w')->St w ⟨b,i,none⟩ v K:=by
 obtain⟨hl,⟨_,h1,_⟩|⟨b,pad,ha,hc,hr⟩⟩:=h
 ·rw [h1] at hi;simp at hi
 ·refine⟨b,ha,fun v K hv hK=>gu hr hv (by simp;omega) fun w1 r1 f1 z1=>hK w1 ⟨by simp [hl],.inr ⟨b,pad,ha,by simp [hc],?_⟩⟩ (f1 _ ⟨0,ha⟩) z1⟩
  rw [List.set_append_left _ _ hi] at r1
  exact r1
theorem Buf.lt {w:World} {s:b_} {vs:List Value} (h:Buf w s vs) {b:Nat} (hb:b_.at s b):b<w.heap.size:=by
 obtain⟨o,hb⟩:=hb
 obtain⟨_,⟨ha,_,_⟩|⟨c,pad,ha,_,hr⟩⟩:=h
 ·rw [ha] at hb;cases hb
 ·rw [ha] at hb;cases hb;exact hr.lt
end Gp
end
section
namespace Gp
open Go
theorem Ci:IntKind.bits .i64=64:=rfl
theorem CG {a k:Nat} (hk:k<=64):jU .i64 (a:Int) (k:Int)=((a / 2^k:Nat):Int):=by
 unfold jU
 have e:(2:Int)^(min (k:Int).toNat (IntKind.bits .i64))=((2^k:Nat):Int):=by
  rw [Ci,Int.toNat_natCast,Nat.min_eq_left hk];simp
 rw [e,Int.fdiv_eq_ediv_of_nonneg _ (Int.natCast_nonneg _),Int.natCast_ediv]
theorem RF (a k:Nat):a &&& (2^k - 1)=a % 2^k:=Nat.and_two_pow_sub_one_eq_mod a k
end Gp
end
section
namespace Gp
open Go
structure iI {α:Type} (n:Nat) (f:α->List Value) (w:World) (s:b_) (xs:List α):Prop where
 len:s.len=xs.length
 mem:(s.a=none/\xs=[]/\s.cap=0)\/∃b pad,s.a=some ⟨b,0,none⟩/\s.cap * n=xs.length * n+pad.length/\Row w b (xs.flatMap f++pad)
structure kH {α:Type} (n:Nat) (f:α->List Value) (w:World) (s:b_) (xs:List α):Prop where
 len:s.len=xs.length
 cells:sV w s.a (s.len * n) (xs.flatMap f)
 cap:s.len<=s.cap
theorem yI {z:List Value}:∀k,(fH z k).length=k * z.length
 |0=>by simp [fH]
 |k+1=>by simp [fH,yI k,Nat.add_mul];omega
section
variable {α:Type} {n:Nat} {f:α->List Value} {w w':World} {s:b_} {xs:List α}
theorem iI.nil:iI n f w ⟨none,0,0⟩ []:=⟨rfl,.inl ⟨rfl,rfl,rfl⟩⟩
theorem iI.lt (h:iI n f w s xs) {b:Nat} (hb:b_.at s b):b<w.heap.size:=by
 obtain⟨o,hb⟩:=hb
 obtain⟨_,⟨ha,_,_⟩|⟨c,pad,ha,_,hr⟩⟩:=h
 ·rw [ha] at hb;cases hb
 ·rw [ha] at hb;cases hb;exact hr.lt
theorem iI.fr {S:Nat->Prop} (h:iI n f w s xs) (hf:fD w w' S) (hs:∀b,b_.at s b->¬S b):iI n f w' s xs:=by
 obtain⟨hl,⟨ha,h1,h2⟩|⟨b,pad,ha,hc,hr⟩⟩:=h
 ·exact⟨hl,.inl ⟨ha,h1,h2⟩⟩
 ·exact⟨hl,.inr ⟨b,pad,ha,hc,hr.fr hf (hs b ⟨0,ha⟩)⟩⟩
theorem iI.ext (h:iI n f w s xs) (hf:Ext w w'):iI n f w' s xs:=h.fr (hf fun _=>False) (fun _ _=>by simp)
theorem iI.sl (hn:∀x,(f x).length=n) (h0:0<n) (h:iI n f w s xs):kH n f w s xs:=by
 obtain⟨hl,⟨ha,rfl,hc⟩|⟨b,pad,ha,hc,hr⟩⟩:=h
 ·exact⟨hl,by rw [ha];rfl,by rw [hl];simp⟩
 ·refine⟨hl,?_,?_⟩
  ·rw [ha]
   refine⟨by rw [iH f n hn,hl],fun j hj=> ?_⟩
   rw [kC,hr.cell,Nat.zero_add,List.getElem?_append_left hj]
  ·rw [hl]
   exact Nat.le_of_mul_le_mul_right (by omega:xs.length * n<=s.cap * n) h0
theorem kH.nil:kH n f w ⟨none,0,0⟩ []:=⟨rfl,rfl,Nat.le_refl _⟩
theorem kH.at_ (hn:∀x,(f x).length=n) (h0:0<n) (h:kH n f w s xs) {i:Nat} {x:α} (hi:xs[i]? =some x):∃a,s.a=some a/\∀j v,(f x)[j]? =some v->w.cell? (a.add (i * n+j))=some v:=by
 have hlt:=(List.getElem?_eq_some_iff.1 hi).1
 have hc:=h.cells
 have hfl:=iH f n hn xs
 have hm:(i+1) * n<=xs.length * n:=Nat.mul_le_mul_right _ hlt
 rw [Nat.add_mul] at hm
 cases hsa:s.a with
 |none=>
  rw [hsa] at hc
  have h0:xs.flatMap f=[]:=hc
  rw [h0] at hfl
  simp only [List.length_nil] at hfl
  omega
 |some a=>
  rw [hsa] at hc
  refine⟨a,rfl,fun j v hj=> ?_⟩
  have hjn:j<n:=by have:=(List.getElem?_eq_some_iff.1 hj).1;rw [hn] at this;exact this
  rw [hc.2 _ (by omega),flat_get f n hn xs i j hjn,hi]
  exact hj
theorem kH.fr {S:Nat->Prop} (h:kH n f w s xs) (hf:fD w w' S) (hs:∀a,s.a=some a->0<xs.length->¬S a.block):kH n f w' s xs:=by
 refine⟨h.len,?_,h.cap⟩
 have hc:=h.cells
 cases hsa:s.a with
 |none=>rw [hsa] at hc;exact hc
 |some a=>
  rw [hsa] at hc
  refine⟨hc.1,fun j hj=> ?_⟩
  have:=hc.2 j hj
  rw [List.getElem?_eq_getElem hj] at this ⊢
  refine Az this hf (by
   rw [block_add]
   refine hs a hsa ?_
   cases xs with
   |nil=>simp at hj
   |cons=>simp)
theorem kH.ext (h:kH n f w s xs) (hf:Ext w w'):kH n f w' s xs:=h.fr (hf fun _=>False) (by simp)
theorem VL {e:TypeId} {bytes:Nat} {z:List Value} {ys:List α} {K:b_->World->Prop} (hn:∀x,(f x).length=n) (h:iI n f w s xs) (hz:z.length=n) (h0:0<n) (h1:∀x,∀v∈f x,gY v=true)
  (hl:(xs.length+ys.length) * bytes<=2^46) (hl2:xs.length+ys.length<=2^46)
  (hK:∀s' w',iI n f w' s' (xs++ys)->(fD w w' (b_.at s))->(∀b,b_.at s' b->b_.at s b\/w.heap.size<=b)->K s' w'):QT e n bytes z s ys.length (ys.flatMap f) w K:=by
 obtain⟨hlen,hc⟩:=id h
 have hone:∀v∈ys.flatMap f,gY v=true:=fun v hv=>by
  obtain⟨x,_,hx⟩:=List.mem_flatMap.1 hv
  exact h1 x v hx
 have hyl:=iH f n hn ys
 have hxl:=iH f n hn xs
 by_cases hcap:s.len+ys.length<=s.cap
 ·rcases hc with ⟨ha,rfl,hc⟩|⟨b,pad,ha,hc,hr⟩
  ·simp at hlen
   have:ys=[]:=by cases ys with
    |nil=>rfl
    |cons _ _=>simp at hcap;omega
   subst this
   refine .inl ⟨hcap,fun a ha'=>(by rw [ha] at ha';cases ha'),hone,?_⟩
   rw [ha]
   exact hK _ _ ⟨by simp [hlen],.inl ⟨rfl,rfl,hc⟩⟩ (fD.refl _ _) (fun b ⟨o,hb⟩=>by cases hb)
  ·have hmul:(s.len+ys.length) * n<=s.cap * n:=Nat.mul_le_mul_right _ hcap
   rw [Nat.add_mul,hlen] at hmul
   obtain⟨r2,f2⟩:=yH (ys.flatMap f) w (xs.flatMap f++pad) (s.len * n) 0 hr (by simp only [List.length_append];rw [hyl,hxl,hlen];omega)
   refine .inl ⟨hcap,fun a ha'=> ?_,hone,?_⟩
   ·rw [ha] at ha';cases ha'
    intro j hj
    rw [kC,kC,hr.cell,hr.frozen]
    refine⟨?_,rfl⟩
    rw [List.getElem?_eq_getElem (by simp only [List.length_append];rw [hxl,hlen];omega)]
    rfl
   ·rw [ha]
    simp only [kC,Nat.zero_add]
    have e1:(xs.flatMap f++pad).take (s.len * n+0)=xs.flatMap f:=by rw [Nat.add_zero,hlen,<- hxl];simp
    have e2:((xs.flatMap f++pad).drop (s.len * n+0+(ys.flatMap f).length)).length+ys.length * n=pad.length:=by
     simp only [List.length_drop,List.length_append]
     rw [hxl,hyl,hlen];omega
    rw [e1] at r2
    refine hK _ _ ⟨by simp [hlen],.inr ⟨b,(xs.flatMap f++pad).drop (s.len * n+0+(ys.flatMap f).length),rfl,?_,?_⟩⟩ (f2 _ ⟨0,ha⟩) (fun c ⟨o,hc'⟩=> .inl (by cases hc';exact⟨0,ha⟩))
    ·show s.cap * n=_
     simp only [List.length_append,Nat.add_mul];omega
    ·rw [List.flatMap_append];exact r2
 ·have hb:(s.len+ys.length) * bytes<=2^46:=by rw [hlen];exact hl
  refine .inr ⟨by omega,hb,by omega,xs.flatMap f,?_,fun c h1' h2'=> ?_⟩
  ·exact(h.sl hn h0).cells
  ·refine hK _ _ ⟨by simp [hlen],.inr ⟨w.heap.size,fH z (c - (s.len+ys.length)),rfl,?_,by rw [List.flatMap_append];exact Row.new w.drew _ e⟩⟩ ((fD.drew w _).trans (fD.alloc w.drew _ _) fun _ _ e=>e) (fun b ⟨o,hb⟩=> .inr (by cases hb;exact Nat.le_refl _))
   rw [yI,hz]
   simp only [List.length_append]
   rw [hlen] at h1' ⊢
   rw [<- Nat.add_mul]
   congr 1
   omega
theorem mg {e:TypeId} {bytes:Nat} {z:List Value} {t:b_} {ys:List α} {K:b_->World->Prop} (hn:∀x,(f x).length=n) (h:iI n f w s xs) (ht:kH n f w t ys) (hz:z.length=n) (h0:0<n) (h1:∀x,∀v∈f x,gY v=true)
  (hl:(xs.length+ys.length) * bytes<=2^46) (hl2:xs.length+ys.length<=2^46)
  (hK:∀s' w',iI n f w' s' (xs++ys)->(fD w w' (b_.at s))->(∀b,b_.at s' b->b_.at s b\/w.heap.size<=b)->K s' w'):rY e n bytes z s t w K:=by
 refine⟨ys.flatMap f,ht.cells,?_⟩
 rw [ht.len]
 exact VL hn h hz h0 h1 hl hl2 hK
theorem iI.row {b:Nat} (h:Row w b (xs.flatMap f)):iI n f w ⟨some ⟨b,0,none⟩,xs.length,xs.length⟩ xs:=
 ⟨rfl,.inr ⟨b,[],rfl,by simp,by simpa using h⟩⟩
theorem kH.cut (hn:∀x,(f x).length=n) (h:kH n f w s xs) {lo hi:Nat} (h1:lo<=hi) (h2:hi<=xs.length) (m:Nat) (hm:m=lo->lo=hi):
  kH n f w ⟨Dh s.a m lo n,hi - lo,s.cap - lo⟩ ((xs.take hi).drop lo):=by
 have hcap:=h.cap
 have hlen:=h.len
 refine⟨by simp;omega,?_,by simp only;omega⟩
 have hc:=h.cells
 cases hsa:s.a with
 |none=>
  rw [hsa] at hc
  have h0:xs.flatMap f=[]:=hc
  have:((xs.take hi).drop lo).flatMap f=[]:=by
   rw [List.flatMap_eq_nil_iff] at h0 ⊢
   exact fun x hx=>h0 x (List.mem_of_mem_take (List.mem_of_mem_drop hx))
  simp only [Dh]
  split<;>simpa [sV] using this
 |some a=>
  rw [hsa] at hc
  by_cases hml:m=lo
  ·have:=hm hml
   subst this
   simp only [Dh,hml,if_true,Nat.sub_self,Nat.zero_mul]
   have:List.drop lo (List.take lo xs)=[]:=by simp
   rw [this]
   exact⟨rfl,fun j hj=>by simp at hj⟩
  ·simp only [Dh,hml,if_false,Option.map_some]
   have hfl:(((xs.take hi).drop lo).flatMap f).length=(hi - lo) * n:=by
    rw [iH f n hn];simp;congr 1;omega
   refine⟨hfl,fun j hj=> ?_⟩
   rw [hfl] at hj
   have e:lo * n+j<(xs.flatMap f).length:=by
    rw [iH f n hn]
    have h3:hi * n<=xs.length * n:=Nat.mul_le_mul_right _ h2
    have h4:(hi - lo) * n=hi * n - lo * n:=Nat.sub_mul _ _ _
    have h5:lo * n<=hi * n:=Nat.mul_le_mul_right _ h1
    omega
   have ea:(a.add (lo * n)).add j=a.add (lo * n+j):=Qs _ _ _
   rw [ea,hc.2 _ e]
   have hn0:0<n:=by
    cases n with
    |zero=>simp at hj
    |succ n=>omega
   have hj':j=j / n * n+j % n:=by rw [Nat.mul_comm];exact(Nat.div_add_mod j n).symm
   have hjm:=Nat.mod_lt j hn0
   have hjd:j / n<hi - lo:=(Nat.div_lt_iff_lt_mul hn0).2 hj
   rw [hj',<- Nat.add_assoc,<- Nat.add_mul,flat_get f n hn _ _ _ hjm,flat_get f n hn _ _ _ hjm]
   rw [List.getElem?_drop,List.getElem?_take,if_pos (by omega)]
end
theorem abx {α:Type} {n:Nat} {f:α->List Value} {w:World} {s:b_} {xs:List α} {lo hi:Int} {K:b_->Prop} (hn:∀x,(f x).length=n) (h:kH n f w s xs) (h0:0<=lo) (h1:lo<=hi) (h2:hi<=xs.length)
  (hK:∀s',kH n f w s' ((xs.take hi.toNat).drop lo.toNat)->K s'):EG s n lo hi K:=by
 have hl:=h.len
 have hc:=h.cap
 refine⟨h0,h1,by omega,hK _ ?_⟩
 exact h.cut hn (by omega) (by omega) _ fun e=>by omega
end Gp
end
section
namespace Gp
open Go
def xR {α:Type} (enc:α->Value) (w:World) (r:Nat) (xs:List α):Prop:=
 ∃es clock,w.heap[r]? =some (.map es clock)/\es.toList.map (fun e=>(e.key,e.val))=xs.map fun x=>(enc x,.bool true)
section
variable {α:Type} {enc:α->Value} {w w':World} {r:Nat} {xs:List α} {P:Program} {kt:TypeId}
theorem xR.fr {S:Nat->Prop} (h:xR enc w r xs) (hf:fD w w' S) (hs:¬S r):xR enc w' r xs:=by
 obtain⟨es,c,h1,h2⟩:=h
 exact⟨es,c,by rw [hf.same r (Array.getElem?_eq_some_iff.1 h1).1 hs];exact h1,h2⟩
theorem xR.ext (h:xR enc w r xs) (hf:Ext w w'):xR enc w' r xs:=h.fr (hf fun _=>False) (by simp)
theorem xR.lt (h:xR enc w r xs):r<w.heap.size:=by
 obtain⟨es,c,h1,h2⟩:=h
 exact(Array.getElem?_eq_some_iff.1 h1).1
theorem xR.new (w:World) (enc:α->Value):xR enc (w.alloc (.map #[] 0)) w.heap.size []:=⟨#[],0,World.alloc_heap_new w _,rfl⟩
variable [DecidableEq α]
theorem Qy (hE:∀a b:α,A_ P 16 kt (enc a) (enc b)=some (decide (a=b))) (a:α):∀(es:List MapEntry) (xs:List α) (i:Nat),es.map (fun e=>(e.key,e.val))=(xs.map fun x=>(enc x,Value.bool true))->
  (a∈xs->∃j,rX P kt (enc a) es i=some (some (j,.bool true)))/\(a∉xs->rX P kt (enc a) es i=some none):=by
 intro es
 induction es with
 |nil=>
  intro xs i h
  cases xs with
  |nil=>exact⟨fun h=>by simp at h,fun _=>rfl⟩
  |cons x xs=>simp at h
 |cons e es ih=>
  intro xs i h
  cases xs with
  |nil=>simp at h
  |cons x xs=>
   simp only [List.map_cons,List.cons.injEq,Prod.mk.injEq] at h
   obtain⟨⟨h1,h2⟩,h3⟩:=h
   have hi:=ih xs (i+1) h3
   unfold rX
   rw [h1,hE]
   by_cases hx:a=x
   ·subst hx
    simp only [decide_true]
    exact⟨fun _=>⟨i,by rw [h2]⟩,fun hn=>by simp at hn⟩
   ·simp only [hx,decide_false]
    exact⟨fun hm=>hi.1 (by simpa [hx] using hm),fun hn=>hi.2 (by simp at hn;exact hn.2)⟩
theorem JJ (h:xR enc w r xs) (hE:∀a b:α,A_ P 16 kt (enc a) (enc b)=some (decide (a=b))) (a:α) (hk:kZ P kt (enc a)=true) {K:Bool->Prop} (hK:K (decide (a∈xs))):sH P kt .bool (some r) (enc a) (.bool false) w K:=by
 obtain⟨es,c,h1,h2⟩:=h
 refine⟨hk,.inr ⟨r,es,c,rfl,h1,?_⟩⟩
 have hf:=Qy hE a es.toList xs 0 h2
 by_cases hm:a∈xs
 ·obtain⟨j,hj⟩:=hf.1 hm
  exact⟨_,hj,by simpa [hm,Kind.dec] using hK⟩
 ·exact⟨_,hf.2 hm,by simpa [hm,Kind.dec] using hK⟩
theorem JI (h:xR enc w r xs) (hE:∀a b:α,A_ P 16 kt (enc a) (enc b)=some (decide (a=b))) (a:α) (hk:kZ P kt (enc a)=true) (hn:a∉xs) {K:World->Prop}
  (hK:∀w',xR enc w' r (xs++[a])->fD w w' (·=r)->w'.heap.size=w.heap.size->K w'):wJ P kt (some r) (enc a) (.bool true) w K:=by
 obtain⟨es,c,h1,h2⟩:=h
 have hlt:=(Array.getElem?_eq_some_iff.1 h1).1
 refine⟨hk,r,es,c,rfl,h1,none,(Qy hE a es.toList xs 0 h2).2 hn,?_⟩
 show K (w.putObj r (.map (es.push {key:=enc a,val:= .bool true,born:=c}) (c+1)))
 refine hK _ ⟨es.push {key:=enc a,val:= .bool true,born:=c},c+1,by simp [World.putObj,Array.getElem?_setIfInBounds,hlt],?_⟩ (fD.jC _ _ _) (by simp [World.putObj])
 simp [h2]
end
end Gp
end
section
namespace Gp
open Go
theorem Zd {k:IntKind} {n:Int} (h:(Lit.int k n).wf=true):k.min<=n/\n<=k.max:=by
 simpa [Lit.wf] using h
theorem wf_u8 {n:Int} (h:(Lit.int .u8 n).wf=true):0<=n/\n<=255:=Zd h
theorem wf_i64 {n:Int} (h:(Lit.int .i64 n).wf=true): -9223372036854775808<=n/\n<=9223372036854775807:=Zd h
end Gp
end
section
namespace Gp
open Go
theorem Sm {α:Type} {d:iP} {n:Nat} (hn0:0<n) {w:World} {x:(iP.slice d n).T} (h:(iP.slice d n).In w x) (g:d.T->α) (f:α->List Value) (hf:∀a,(f a).length=n)
  (hg:∀y:d.T,d.In w y->f (g y)=d.cells y):kH n f w x.1 (x.2.map g):=by
 obtain⟨⟨h1,h2,h3,h4⟩,h5⟩:=h
 refine⟨by rw [List.length_map];exact h1,?_,h2⟩
 by_cases hne:x.2=([]:List d.T)
 ·have hl:x.1.len=0:=by rw [h1,hne];rfl
  rw [hne,hl]
  cases x.1.a with
  |none=>rfl
  |some a=>exact⟨(Nat.zero_mul n).symm,fun j hj=>by simp at hj⟩
 ·obtain⟨b,o,ha,hb,hc⟩:=h4 hne
  rw [ha]
  have hfl:=iH f n hf (x.2.map g)
  rw [List.length_map,<- h1] at hfl
  refine⟨hfl,fun j hj=> ?_⟩
  rw [hfl] at hj
  have hdiv:j / n<x.2.length:=by
   rw [<- h1];exact Nat.div_lt_of_lt_mul (by rw [Nat.mul_comm];exact hj)
  have hmod:=Nat.mod_lt j hn0
  have hx:=List.getElem?_eq_getElem hdiv
  have hj2:j=j / n * n+j % n:=by rw [Nat.mul_comm];exact(Nat.div_add_mod j n).symm
  have hin:=h5 _ (List.getElem_mem hdiv)
  have hcc:=(hc _ _ hx).2 (j % n)
  generalize x.2[j / n]=y at hx hin hcc
  rw [<- hg y hin] at hcc
  rw [hj2,flat_get f n hf _ _ _ hmod,List.getElem?_map,hx]
  have hfl2:=hf (g y)
  have hv:=List.getElem?_eq_getElem (show j % n<(f (g y)).length by omega)
  simp only [Option.map_some,Option.bind_some]
  rw [hv,kC,<- Nat.add_assoc]
  exact hcc _ hv
theorem abH {w:World} {x:b_×List Int} (h:(iP.slice (.int .u8) 1).In w x):rO w x.1 (x.2.map fun n=>UInt8.ofNat n.toNat):=by
 obtain⟨⟨h1,h2,h3,h4⟩,h5⟩:=h
 have h4:(x.2≠([]:List Int))->∃b o,x.1.a=some ⟨b,o,none⟩/\b<w.heap.size/\∀i (y:Int),x.2[i]? =some y->([Value.int .u8 y]:List Value).length=1/\∀j v,([Value.int .u8 y]:List Value)[j]? =some v->w.cell? ⟨b,o+i * 1+j,none⟩=some v:=h4
 have h1:x.1.len=x.2.length:=h1
 refine⟨by simpa using h1,?_,h2⟩
 by_cases hne:x.2=([]:List Int)
 ·rw [hne] at h1 ⊢
  simp only [List.length_nil] at h1
  rw [h1]
  cases x.1.a with
  |none=>rfl
  |some a=>exact⟨rfl,fun j hj=>by simp [bytesV] at hj⟩
 ·obtain⟨b,o,ha,hb,hc⟩:=h4 hne
  rw [ha]
  refine⟨by simp [bytesV,h1],fun j hj=> ?_⟩
  simp only [bytesV,List.length_map] at hj
  have hy:=List.getElem?_eq_getElem hj
  have:=(hc j _ hy).2 0 _ rfl
  rw [kC]
  simp only [Nat.mul_one,Nat.add_zero] at this
  rw [this]
  have hw:=wf_u8 (h5 _ (List.getElem_mem hj))
  simp only [bytesV,List.getElem?_map,hy,Option.map_some]
  congr 2
  simp
  omega
end Gp
end
section
namespace Gp
open Go
def oz {α β:Type} (enc:α->Value) (ev:β->Value) (w:World) (r:Nat) (l:List (α×β)):Prop:=
 ∃es clock,w.heap[r]? =some (.map es clock)/\es.toList.map (fun e=>(e.key,e.val))=(l.map fun x=>(enc x.1,ev x.2))/\(es.toList.map (·.born)).Nodup/\∀e∈es.toList,e.born<clock
section
variable {α β:Type} {enc:α->Value} {ev:β->Value} {w w':World} {r:Nat} {l:List (α×β)} {P:Program} {kt:TypeId}
theorem oz.fr {S:Nat->Prop} (h:oz enc ev w r l) (hf:fD w w' S) (hs:¬S r):oz enc ev w' r l:=by
 obtain⟨es,c,h1,h2,h3⟩:=h
 exact⟨es,c,by rw [hf.same r (Array.getElem?_eq_some_iff.1 h1).1 hs];exact h1,h2,h3⟩
theorem oz.ext (h:oz enc ev w r l) (hf:Ext w w'):oz enc ev w' r l:=h.fr (hf fun _=>False) (by simp)
theorem oz.lt (h:oz enc ev w r l):r<w.heap.size:=by
 obtain⟨es,c,h1,h2⟩:=h
 exact(Array.getElem?_eq_some_iff.1 h1).1
theorem oz.new (w:World) (enc:α->Value) (ev:β->Value):oz enc ev (w.alloc (.map #[] 0)) w.heap.size []:=⟨#[],0,World.alloc_heap_new w _,rfl,by simp,by simp⟩
variable [DecidableEq α]
def jl:List (α×β)->α->Option β
 |[],_=>none
 |x::l,a=>if a=x.1 then some x.2 else jl l a
def Ej:List (α×β)->α->β->List (α×β)
 |[],a,b=>[(a,b)]
 |x::l,a,b=>if a=x.1 then (a,b)::l else x::Ej l a b
def uN:List (α×β)->α->List (α×β)
 |[],_=>[]
 |x::l,a=>if a=x.1 then l else x::uN l a
theorem Du (l:List (α×β)) (a a':α) (b:β):jl (Ej l a b) a'=if a'=a then some b else jl l a':=by
 induction l with
 |nil=>unfold Ej jl;split<;>simp_all [jl]
 |cons x l ih=>
  unfold Ej
  by_cases h:a=x.1
  ·rw [if_pos h]
   unfold jl
   by_cases h':a'=a
   ·rw [if_pos h',if_pos h']
   ·rw [if_neg h',if_neg h',if_neg (by rw [<- h];exact h')]
  ·rw [if_neg h]
   unfold jl
   by_cases h':a'=x.1
   ·rw [if_pos h',if_pos h',if_neg (by rw [h'];exact fun e=>h e.symm)]
   ·rw [if_neg h',if_neg h',ih]
theorem rM {l:List (α×β)} {a:α}:jl l a=none↔a∉l.map (·.1):=by
 induction l with
 |nil=>simp [jl]
 |cons x l ih=>
  unfold jl
  by_cases h:a=x.1
  ·rw [if_pos h];simp [h]
  ·rw [if_neg h,ih];simp [h]
theorem SI (l:List (α×β)) (a:α) (b:β):(Ej l a b).map (·.1)=if a∈l.map (·.1) then l.map (·.1) else l.map (·.1)++[a]:=by
 induction l with
 |nil=>simp [Ej]
 |cons x l ih=>
  unfold Ej
  by_cases h:a=x.1
  ·rw [if_pos h];simp [h]
  ·rw [if_neg h,List.map_cons,ih,List.map_cons]
   by_cases h':a∈l.map (·.1)
   ·rw [if_pos h',if_pos (List.mem_cons_of_mem _ h')]
   ·rw [if_neg h',if_neg (by simp only [List.mem_cons,not_or];exact⟨h,h'⟩)];simp
theorem EY {l:List (α×β)} (h:(l.map (·.1)).Nodup) (a:α) (b:β):((Ej l a b).map (·.1)).Nodup:=by
 rw [SI]
 split
 ·exact h
 ·rename_i hn
  rw [List.nodup_append]
  exact⟨h,by simp,fun x hx y hy e=>by simp only [List.mem_singleton] at hy;subst hy;subst e;exact hn hx⟩
theorem Jm (l:List (α×β)) (a:α):(uN l a).Sublist l:=by
 induction l with
 |nil=>exact List.Sublist.refl _
 |cons x l ih=>
  unfold uN
  split
  ·exact List.sublist_cons_self _ _
  ·exact ih.cons_cons _
theorem DV {l:List (α×β)} (h:(l.map (·.1)).Nodup) (a a':α):jl (uN l a) a'=if a'=a then none else jl l a':=by
 induction l with
 |nil=>unfold uN jl;split<;>rfl
 |cons x l ih=>
  rw [List.map_cons,List.nodup_cons] at h
  unfold uN
  by_cases hx:a=x.1
  ·rw [if_pos hx]
   by_cases h':a'=a
   ·rw [if_pos h',h',hx];exact rM.2 h.1
   ·rw [if_neg h']
    conv=>rhs;unfold jl
    rw [if_neg (by rw [<- hx];exact h')]
  ·rw [if_neg hx]
   unfold jl
   rw [ih h.2]
   by_cases h':a'=x.1
   ·rw [if_pos h',if_pos h',if_neg (by rw [h'];exact fun e=>hx e.symm)]
   ·rw [if_neg h',if_neg h']
theorem FD (hE:∀a b:α,A_ P 16 kt (enc a) (enc b)=some (decide (a=b))) (a:α) (b:β):∀(es:List MapEntry) (l:List (α×β)) (i:Nat),es.map (fun e=>(e.key,e.val))=(l.map fun x=>(enc x.1,ev x.2))->
  (jl l a=none/\rX P kt (enc a) es i=some none/\Ej l a b=l++[(a,b)])\/
  ∃j v e,jl l a=some v/\rX P kt (enc a) es i=some (some (i+j,ev v))/\es[j]? =some e/\e.key=enc a/\
   (es.modify j fun e=>{e with key:=enc a,val:=ev b}).map (fun e=>(e.key,e.val))=(Ej l a b).map fun x=>(enc x.1,ev x.2):=by
 intro es
 induction es with
 |nil=>
  intro l i h
  cases l with
  |nil=>exact .inl ⟨rfl,rfl,rfl⟩
  |cons x l=>simp at h
 |cons e es ih=>
  intro l i h
  cases l with
  |nil=>simp at h
  |cons x l=>
   simp only [List.map_cons,List.cons.injEq,Prod.mk.injEq] at h
   obtain⟨⟨h1,h2⟩,h3⟩:=h
   unfold rX jl Ej
   rw [h1,hE]
   by_cases hx:a=x.1
   ·simp only [hx,decide_true,if_true]
    refine .inr ⟨0,x.2,e,rfl,by rw [h2,Nat.add_zero],rfl,h1,?_⟩
    simp [List.modify,h3]
   ·simp only [hx,decide_false,if_false]
    rcases ih l (i+1) h3 with ⟨g1,g2,g3⟩|⟨j,v,e',g1,g2,g3,g4,g5⟩
    ·exact .inl ⟨g1,g2,by rw [g3];rfl⟩
    ·refine .inr ⟨j+1,v,e',g1,by rw [g2];congr 3;omega,by simpa using g3,g4,?_⟩
     simp only [List.modify_succ_cons,List.map_cons,g5,h1,h2]
theorem BP {k:Kind} (h:oz enc ev w r l) (hE:∀a b:α,A_ P 16 kt (enc a) (enc b)=some (decide (a=b))) (a:α) (hk:kZ P kt (enc a)=true) {z:Value} {K:k.T->Prop}
  (h0:jl l a=none->k.dec z K) (h1:∀b,jl l a=some b->k.dec (ev b) K):sH P kt k (some r) (enc a) z w K:=by
 obtain⟨es,c,g1,g2,_⟩:=h
 refine⟨hk,.inr ⟨r,es,c,rfl,g1,?_⟩⟩
 cases hl:jl l a with
 |none=>
  cases l with
  |nil=>
   have:es.toList=[]:=by simpa using g2
   exact⟨none,by rw [this];rfl,h0 hl⟩
  |cons x l'=>
   rcases FD hE a x.2 es.toList _ 0 g2 with ⟨_,q2,_⟩|⟨j,v,e,q1,_⟩
   ·exact⟨_,q2,h0 hl⟩
   ·rw [hl] at q1;cases q1
 |some b=>
  rcases FD hE a b es.toList _ 0 g2 with ⟨q1,_,_⟩|⟨j,v,e,q1,q2,_⟩
  ·rw [hl] at q1;cases q1
  ·rw [hl] at q1;cases q1
   exact⟨_,q2,h1 b hl⟩
theorem LV (es:List MapEntry) (j:Nat) (k v:Value):(es.modify j fun e=>{e with key:=k,val:=v}).map (·.born)=es.map (·.born):=by
 induction es generalizing j with
 |nil=>simp
 |cons e es ih=>
  cases j with
  |zero=>simp [List.modify]
  |succ j=>rw [List.modify_succ_cons,List.map_cons,List.map_cons,ih]
theorem I9 (h:oz enc ev w r l) (hE:∀a b:α,A_ P 16 kt (enc a) (enc b)=some (decide (a=b))) (a:α) (b:β) (hk:kZ P kt (enc a)=true) {K:World->Prop}
  (hK:∀w',oz enc ev w' r (Ej l a b)->fD w w' (·=r)->w'.heap.size=w.heap.size->K w'):wJ P kt (some r) (enc a) (ev b) w K:=by
 obtain⟨es,c,h1,h2,h3,h4⟩:=h
 have hlt:=(Array.getElem?_eq_some_iff.1 h1).1
 rcases FD hE a b es.toList _ 0 h2 with ⟨_,q2,q3⟩|⟨j,v,e,q1,q2,q3,q4,q5⟩
 ·refine⟨hk,r,es,c,rfl,h1,none,q2,?_⟩
  show K (w.putObj r (.map (es.push {key:=enc a,val:=ev b,born:=c}) (c+1)))
  refine hK _ ⟨es.push {key:=enc a,val:=ev b,born:=c},c+1,by simp [World.putObj,Array.getElem?_setIfInBounds,hlt],?_,?_,?_⟩ (fD.jC _ _ _) (by simp [World.putObj])
  ·rw [q3]
   simp [h2]
  ·rw [Array.toList_push,List.map_append,List.nodup_append]
   refine⟨h3,by simp,fun x hx y hy e=> ?_⟩
   obtain⟨e',he',rfl⟩:=List.mem_map.1 hx
   have:=h4 e' he'
   simp at hy
   omega
  ·intro e he
   rw [Array.toList_push] at he
   rcases List.mem_append.1 he with he|he
   ·have:=h4 e he;omega
   ·have:e={key:=enc a,val:=ev b,born:=c}:=by simpa using he
    rw [this];simp
 ·rw [Nat.zero_add] at q2
  refine⟨hk,r,es,c,rfl,h1,_,q2,⟨e,by rw [<- Array.getElem?_toList];exact q3,q4⟩,?_⟩
  refine hK _ ⟨_,c,by simp [World.putObj,Array.getElem?_setIfInBounds,hlt];rfl,?_,?_,?_⟩ (fD.jC _ _ _) (by simp [World.putObj])
  ·rw [Array.toList_modify]
   exact q5
  ·rw [Array.toList_modify,LV];exact h3
  ·intro e' he'
   have hm:e'.born∈(es.toList.map (·.born)):=by
    rw [<- LV es.toList j (enc a) (ev b),<- Array.toList_modify]
    exact List.mem_map_of_mem he'
   obtain⟨e'',he'',hb⟩:=List.mem_map.1 hm
   rw [<- hb];exact h4 e'' he''
theorem Yc (hE:∀a b:α,A_ P 16 kt (enc a) (enc b)=some (decide (a=b))) (a:α):∀(es:List MapEntry) (l:List (α×β)) (i:Nat),es.map (fun e=>(e.key,e.val))=(l.map fun x=>(enc x.1,ev x.2))->
  (rX P kt (enc a) es i=some none/\uN l a=l)\/
  ∃j v,j<es.length/\rX P kt (enc a) es i=some (some (i+j,v))/\(es.eraseIdx j).map (fun e=>(e.key,e.val))=(uN l a).map fun x=>(enc x.1,ev x.2):=by
 intro es
 induction es with
 |nil=>
  intro l i h
  cases l with
  |nil=>exact .inl ⟨rfl,rfl⟩
  |cons x l=>simp at h
 |cons e es ih=>
  intro l i h
  cases l with
  |nil=>simp at h
  |cons x l=>
   simp only [List.map_cons,List.cons.injEq,Prod.mk.injEq] at h
   obtain⟨⟨h1,h2⟩,h3⟩:=h
   unfold rX uN
   rw [h1,hE]
   by_cases hx:a=x.1
   ·simp only [hx,decide_true,if_true]
    exact .inr ⟨0,e.val,by simp,by rw [Nat.add_zero],by simpa using h3⟩
   ·simp only [hx,decide_false,if_false]
    rcases ih l (i+1) h3 with ⟨g1,g2⟩|⟨j,v,g1,g2,g3⟩
    ·exact .inl ⟨g1,by rw [g2]⟩
    ·refine .inr ⟨j+1,v,by simp;omega,by rw [g2];congr 3;omega,?_⟩
     simp only [List.eraseIdx_cons_succ,List.map_cons,g3,h1,h2]
theorem JR (h:oz enc ev w r l) (hE:∀a b:α,A_ P 16 kt (enc a) (enc b)=some (decide (a=b))) (a:α) (hk:kZ P kt (enc a)=true) {K:World->Prop}
  (hK:∀w',oz enc ev w' r (uN l a)->fD w w' (·=r)->w'.heap.size=w.heap.size->K w'):Dl P kt (some r) (enc a) w K:=by
 obtain⟨es,c,h1,h2,h3,h4⟩:=h
 have hlt:=(Array.getElem?_eq_some_iff.1 h1).1
 rcases Yc hE a es.toList _ 0 h2 with ⟨q1,q2⟩|⟨j,v,q0,q1,q2⟩
 ·refine⟨hk,.inr ⟨r,es,c,rfl,h1,none,q1,?_⟩⟩
  refine hK _ ⟨es,c,by simp [World.putObj,Array.getElem?_setIfInBounds,hlt],?_,h3,h4⟩ (fD.jC _ _ _) (by simp [World.putObj])
  rw [q2];exact h2
 ·rw [Nat.zero_add] at q1
  refine⟨hk,.inr ⟨r,es,c,rfl,h1,_,q1,?_⟩⟩
  have hsub:(es.eraseIdxIfInBounds j).toList.Sublist es.toList:=by rw [Array.toList_eraseIdxIfInBounds];exact List.eraseIdx_sublist _ _
  refine hK _ ⟨es.eraseIdxIfInBounds j,c,by simp [World.putObj,Array.getElem?_setIfInBounds,hlt],?_,h3.sublist (hsub.map _),fun e he=>h4 e (hsub.mem he)⟩ (fD.jC _ _ _) (by simp [World.putObj])
  rw [Array.toList_eraseIdxIfInBounds]
  exact q2
end
end Gp
end
section
namespace Gp
open Go
def spl (L:List Value) (o:Nat) (vs:List Value):List Value:=L.take o++vs++L.drop (o+vs.length)
theorem abX {A B C vs:List Value} (h:B.length=vs.length):spl (A++(B++C)) A.length vs=A++(vs++C):=by
 unfold spl
 rw [List.take_left,<- h,<- List.drop_drop,List.drop_left,List.drop_left];simp only [List.append_assoc]
theorem CY {n m o dl dc:Nat} {w:World} {b:Nat} {src:b_} {L vs:List Value} {K:Int->World->Prop} (hm:Nat.min src.len dl=m) (hc:sV w src.a (m * n) vs) (hr:Row w b L) (hl:o+vs.length<=L.length)
  (hone:∀v∈vs,gY v=true) (hK:∀w',Row w' b (spl L o vs)->fD w w' (·=b)->K (m:Nat) w'):Ic n ⟨some ⟨b,o,none⟩,dl,dc⟩ src w K:=by
 refine⟨vs,by simp only [hm];exact hc,?_,hone,?_⟩
 ·rintro a ha
  cases ha
  intro j hj
  rw [kC,hr.cell]
  exact⟨by simp;omega,hr.frozen _⟩
 ·obtain⟨r,f⟩:=yH vs w L o 0 hr (by omega)
  simp only [hm]
  refine hK _ ?_ (f (·=b) rfl)
  simpa [spl] using r
end Gp
end
section
namespace Gp
open Go
def Yq {α β:Type} (enc:α->Value) (ev:β->Value) (w:World) (q r:Nat) (l todo:List (α×β)):Prop:=
 ∃seen es clock,w.heap[q]? =some (.mapIter (some r) clock seen clock)/\w.heap[r]? =some (.map es clock)/\
  es.toList.map (fun e=>(e.key,e.val))=(l.map fun x=>(enc x.1,ev x.2))/\(es.toList.map (·.born)).Nodup/\(∀e∈es.toList,e.born<clock)/\
  (leftOf es seen).toList.map (fun e=>(e.key,e.val))=todo.map fun x=>(enc x.1,ev x.2)
def aea {α β:Type} (enc:α->Value) (ev:β->Value) (w:World) (q:Nat) (x:α×β):Prop:=∀K:Value->Value->Prop,K (enc x.1) (ev x.2)->Wp q w K
section
variable {α β:Type} {enc:α->Value} {ev:β->Value} {w w':World} {q r:Nat} {l todo:List (α×β)} {P:Program} {kt:TypeId}
theorem Yq.map (h:Yq enc ev w q r l todo):oz enc ev w r l:=by
 obtain⟨seen,es,c,_,h2,h3,h4,h5,_⟩:=h
 exact⟨es,c,h2,h3,h4,h5⟩
theorem Yq.fr {S:Nat->Prop} (h:Yq enc ev w q r l todo) (hf:fD w w' S) (h1:¬S q) (h2:¬S r):Yq enc ev w' q r l todo:=by
 obtain⟨seen,es,c,g1,g2,g⟩:=h
 exact⟨seen,es,c,by rw [hf.same q (Array.getElem?_eq_some_iff.1 g1).1 h1];exact g1,by rw [hf.same r (Array.getElem?_eq_some_iff.1 g2).1 h2];exact g2,g⟩
theorem Yq.ext (h:Yq enc ev w q r l todo) (hf:Ext w w'):Yq enc ev w' q r l todo:=h.fr (hf fun _=>False) (by simp) (by simp)
theorem WC (es:Array MapEntry):(leftOf es #[]).toList=es.toList:=by
 unfold leftOf
 rw [Array.toList_filter]
 exact List.filter_eq_self.2 fun x _=>by simp
theorem aaO (h:oz enc ev w r l) {K:Addr->World->Prop} (hK:∀w',Yq enc ev w' w.heap.size r l l->Ext w w'->w'.heap.size=w.heap.size+1->K ⟨w.heap.size,0,none⟩ w'):Wy (some r) w K:=by
 obtain⟨es,c,h1,h2,h3,h4⟩:=h
 refine .inr ⟨r,es,c,rfl,h1,hK _ ⟨#[],es,c,World.alloc_heap_new w _,?_,h2,h3,h4,by rw [WC];exact h2⟩ (fun S=>fD.alloc w _ S) (by simp)⟩
 have:=(fD.alloc w (.mapIter (some r) c #[] c) fun _=>False).same r (Array.getElem?_eq_some_iff.1 h1).1 (by simp)
 rw [this];exact h1
theorem IZ:∀{L:List MapEntry} {i:Nat} {e:MapEntry},(L.map (·.born)).Nodup->L[i]? =some e->L.filter (fun x=> !(x.born==e.born))=L.eraseIdx i
 |[],i,e,_,h=>by simp at h
 |x::L,0,e,hn,h=>by
  rw [List.getElem?_cons_zero] at h
  cases h
  rw [List.map_cons,List.nodup_cons] at hn
  rw [List.filter_cons_of_neg (by simp),List.eraseIdx_cons_zero]
  refine List.filter_eq_self.2 fun y hy=> ?_
  have:y.born≠x.born:=fun e=>hn.1 (List.mem_map.2 ⟨y,hy,e⟩)
  simp [this]
 |x::L,i+1,e,hn,h=>by
  rw [List.getElem?_cons_succ] at h
  rw [List.map_cons,List.nodup_cons] at hn
  have:x.born≠e.born:=fun he=>hn.1 (List.mem_map.2 ⟨e,List.mem_of_getElem? h,he.symm⟩)
  rw [List.filter_cons_of_pos (by simp [this]),List.eraseIdx_cons_succ,IZ hn.2 h]
theorem GZ {γ δ:Type} (f:γ->δ) (L:List γ) (i:Nat):(L.eraseIdx i).map f=(L.map f).eraseIdx i:=by
 induction L generalizing i with
 |nil=>simp
 |cons x L ih=>cases i<;>simp [ih]
theorem abY (h:Yq enc ev w q r l todo) (hqr:q≠r) {Kend:World->Prop} {Kstep:Value->Value->World->Prop} (he:todo=[]->Kend w)
  (hs:∀i x w',todo[i]? =some x->Yq enc ev w' q r l (todo.eraseIdx i)->aea enc ev w' q x->fD w w' (·=q)->w'.heap.size=w.heap.size->Kstep (enc x.1) (ev x.2) w'):Zk q w Kend Kstep:=by
 obtain⟨seen,es,c,g1,g2,g3,g4,g5,g6⟩:=h
 refine .inr ⟨r,c,seen,c,es,c,g1,g2,g5,Nat.le_refl _,fun h0=>he ?_,fun e hm w1 hw1=> ?_⟩
 ·have:(leftOf es seen).toList=[]:=by
   have:leftOf es seen= #[]:=Array.eq_empty_of_size_eq_zero h0
   rw [this]
  rw [this] at g6
  exact List.map_eq_nil_iff.1 g6.symm
 ·obtain⟨i,hi⟩:=List.getElem?_of_mem hm
  have hx:=congrArg (fun L=>L[i]?) g6
  simp only [List.getElem?_map,hi,Option.map_some] at hx
  obtain⟨x,hx1,hx2⟩:=Option.map_eq_some_iff.1 hx.symm
  simp only [Prod.mk.injEq] at hx2
  have hql:=(Array.getElem?_eq_some_iff.1 g1).1
  have hrl:=(Array.getElem?_eq_some_iff.1 g2).1
  have hsz:w1.heap=w.heap:=by rcases hw1 with rfl|rfl<;>rfl
  have hem:e∈es.toList:=by
   unfold leftOf at hm
   rw [Array.toList_filter] at hm
   exact(List.mem_filter.1 hm).1
  have q1:(w1.putObj q (.mapIter (some r) c (seen.push e.born) c)).heap[q]? =some (.mapIter (some r) c (seen.push e.born) c):=by
   simp [World.putObj,hsz,Array.getElem?_setIfInBounds,hql]
  have r1:(w1.putObj q (.mapIter (some r) c (seen.push e.born) c)).heap[r]? =some (.map es c):=by
   simp [World.putObj,hsz,Array.getElem?_setIfInBounds,hqr,g2]
  have hnd:((leftOf es seen).toList.map (·.born)).Nodup:=by
   unfold leftOf
   rw [Array.toList_filter]
   exact g4.sublist ((List.filter_sublist).map _)
  have fr:fD w (w1.putObj q (.mapIter (some r) c (seen.push e.born) c)) (·=q):=by
   rcases hw1 with rfl|rfl
   ·exact fD.jC _ _ _
   ·exact(fD.drew w _).trans (fD.jC _ _ _) fun _ _ e=>e
  have:=hs i x _ hx1 ⟨seen.push e.born,es,c,q1,r1,g3,g4,g5,?_⟩ (fun K hK=>⟨r,c,seen,es,c,e,q1,r1,hem,g4,by rw [<- hx2.1,<- hx2.2];exact hK⟩) fr (by simp [World.putObj,hsz])
  ·rw [hx2.1,hx2.2] at this;exact this
  ·have hl:(leftOf es (seen.push e.born)).toList=(leftOf es seen).toList.eraseIdx i:=by
    rw [<- IZ hnd hi]
    unfold leftOf
    rw [Array.toList_filter,Array.toList_filter,List.filter_filter]
    refine List.filter_congr fun y _=> ?_
    rw [contains_push]
    cases seen.contains y.born<;>cases (y.born==e.born)<;>rfl
   rw [hl,GZ,g6,<- GZ]
end
end Gp
namespace Gp
open Go
def aci (w:World) (q r:Nat):Nat:=
 match w.heap[q]?,w.heap[r]? with
 |some (.mapIter _ _ seen _),some (.map es _)=>(leftOf es seen).size
 |_,_=>0
theorem Yq.left {α β:Type} {enc:α->Value} {ev:β->Value} {w:World} {q r:Nat} {l todo:List (α×β)} (h:Yq enc ev w q r l todo):aci w q r=todo.length:=by
 obtain⟨seen,es,c,g1,g2,_,_,_,g6⟩:=h
 unfold aci
 rw [g1,g2]
 have:=congrArg List.length g6
 simpa using this
end Gp
end
section
namespace Gp
open Go
def fill:Code->WE->WE
 | .seq a b,an=>match an with
  | .leaf=> .seq (fill a .leaf) (fill b .leaf)
  | .seq x y=> .seq (fill a x) (fill b y)
  | .join st x y=> .join st (fill a x) (fill b y)
  |x=>x
 | .cond _ a b,an=>match an with
  | .leaf=> .cond (fill a .leaf) (fill b .leaf)
  | .cond x y=> .cond (fill a x) (fill b y)
  |x=>x
 | .block _ a,an=>match an with
  | .leaf=> .blk (fill a .leaf)
  | .blk x=> .blk (fill a x)
  |x=>x
 | .loop a,an=>match an with
  | .loop st x=> .loop st (fill a x)
  |x=>x
 | .scope a,an=>fill a an
 | .rangeFunc _ _ a b,an=>match an with
  | .rng ks x y=> .rng ks (fill a x) (fill b y)
  |x=>x
 |_,an=>an
def Uc:(ks:List Kind)->PO ks->PO ks->Prop
 |[],K,K'=>∀w,K w->K' w
 |k::ks,K,K'=>∀x:k.T,Uc ks (K x) (K' x)
theorem Ol {rest:List Kind}:∀(ks:List Kind) {K K':PO (ks++rest)} {φ ψ:List Value->PO rest->Prop},Uc (ks++rest) K K'->
  (∀vs c c',Uc rest c c'->φ vs c->ψ vs c')->Un ks rest K φ->Un ks rest K' ψ
 |[],_,_,_,_,h,hp,hk=>hp _ _ _ h hk
 |_::ks,_,_,_,_,h,hp,⟨x,hk⟩=>⟨x,Ol ks (h x) (fun _ _ _ hc hh=>hp _ _ _ hc hh) hk⟩
theorem Lh:∀(sh:List Shape) {K K':PO (flat sh)} {φ:List Value->Prop} {w:World},Uc (flat sh) K K'->Ul sh K φ w->Ul sh K' φ w
 |[],_,_,_,_,h,hk=>⟨hk.1,h _ hk.2⟩
 | .one _::sh,_,_,_,_,h,⟨x,hk⟩=>⟨x,Lh sh (h x) hk⟩
 | .agg ks::sh,_,_,_,_,h,hk=>Ol ks h (fun _ _ _ hc hh=>Lh sh hc hh) hk
def d_ (P:Program) (f:FuncId) (args:List Value) (sh:List Shape) (w:World) (K:PO (flat sh)):Prop:=
 Calls P f ⟨args⟩ w fun e w'=>Ul sh K (fun us=>e= .returned (TT us)) w'
theorem d_.mono {P:Program} {f:FuncId} {args:List Value} {sh:List Shape} {w:World} {K K':PO (flat sh)} (h:d_ P f args sh w K) (hk:Uc (flat sh) K K'):d_ P f args sh w K':=
 Calls.mono h fun _ _ hh=>Lh sh hk hh
def adv (P:Program) (fn:Func) (sh:List Shape) (an:WE) (args:List Value) (w:World) (K:PO (flat sh)):Prop:=
 match fn.body with
 |some c=>cond (Nat.ble args.length fn.ntmps) (den P fn.ntmps c none (fill c an) (Kw 0 args) [] w (ad4 P fn.results.toList sh K)) False
 |none=>False
@[reducible] def fF (A B:Prop):Prop:=B->A
theorem okF {P:Program} (hP:QI P) {f:FuncId} {fn:Func} (hf:P.funcs[f]? =some fn) {args:List Value} {sh:List Shape} {w:World} {K:PO (flat sh)} {S:Prop} (an:WE)
  (e:adv P fn sh an args w K=S):fF (d_ P f args sh w K) S:=by
 intro h
 rw [<- e] at h
 unfold adv at h
 cases hb:fn.body with
 |none=>rw [hb] at h;exact h.elim
 |some c=>
  rw [hb] at h
  dsimp only at h
  cases hl:Nat.ble args.length fn.ntmps with
  |false=>rw [hl] at h;exact h.elim
  |true=>
   rw [hl] at h
   exact aal hP hf hb rfl (rs:=fn.results.toList) rfl sh K (fill c an) args hl w h
@[reducible] def Pt (p:Option Addr) (K:Addr->Prop):Prop:=∃a,p=some a/\K a
theorem lu {a:Addr} {K:Addr->Prop}:Pt (some a) K↔K a:=
 ⟨fun⟨_,h,k⟩=>by cases h;exact k,fun k=>⟨a,rfl,k⟩⟩
def CkN:List Value->World->Addr->Nat->Prop->Prop
 |[],_,_,_,R=>R
 |v::vs,w,a,i,R=>w.cell? (a.add i)=some v/\CkN vs w a (i+1) R
end Gp
end
section
namespace Gp
open Go
theorem Bl (v:Value) (vs:List Value) (w:World) (a:Addr) (i:Nat) (R:Prop):CkN (v::vs) w a i R↔(w.cell? (a.add i)=some v/\CkN vs w a (i+1) R):=Iff.rfl
theorem FT (w:World) (a:Addr) (i:Nat) (R:Prop):CkN [] w a i R↔R:=Iff.rfl
theorem sx:(∀(w:World) (a:Addr) (i:Nat) (K:World->Prop),lS [] w a i K=K w)/\(∀(a:Addr),(some a).isNone=false)/\((none:Option Addr).isNone=true)/\
  (∀(a b:Prop),cond false a b=b)/\(∀(a b:Prop),cond true a b=a)/\(∀(a:Addr) (P:Addr->Prop),(∃x,some a=some x/\P x)↔P a)/\
  (∀(k:Kind) (w:World) (a:Addr) (K:k.T->Prop),Ld k w a K↔LdV k (w.cell? a) K)/\
  (∀(a:Value) (l:List Value),(a::l)[0]? =some a)/\(∀(a:Value) (l:List Value) (i:Nat),(a::l)[i+1]? =l[i]?)/\
  (∀(k:Kind) (v:Value) (K:k.T->Prop),LdV k (some v) K=k.dec v K)/\(∀(a:Option Addr) (l c:Nat) (K:b_->Prop),Kind.dec .slice (.slice a l c) K=K ⟨a,l,c⟩)/\
  (∀(k:IntKind) (n:Int) (K:Int->Prop),Kind.dec (.int k) (.int k n) K=K n)/\(∀(b:Bool) (K:Bool->Prop),Kind.dec .bool (.bool b) K=K b)/\
  (∀(a:Option Addr) (K:Option Addr->Prop),Kind.dec .ptr (.pointer a) K=K a)/\(∀(b:ByteArray) (K:ByteArray->Prop),Kind.dec .str (.string b) K=K b)/\
  (∀(r:Option Nat) (K:Option Nat->Prop),Kind.dec .map (.map r) K=K r)/\(∀(v:Value) (K:Value->Prop),Kind.dec .any v K=K v)/\
  (∀(a:Addr) (l c size:Nat) (i:Int) (K:Addr->Prop),g_ ⟨some a,l,c⟩ size i K↔(0<=i/\i<(l:Int)/\K (a.add (i.toNat * size))))/\
  (∀(b o n:Nat),(⟨b,o,none⟩:Addr).add n=⟨b,o+n,none⟩)/\(∀n:Nat,0+n=n)/\(∀n:Nat,n+0=n):=
 ⟨Q9,fun _=>rfl,rfl,fun _ _=>rfl,fun _ _=>rfl,vU,XK,fun _ _=>rfl,fun _ _ _=>rfl,fA,fG,fC,uf,ru,Na,Ri,S_,BR,kC,Nat.zero_add,fun _=>rfl⟩
end Gp
end
