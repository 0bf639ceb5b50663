import Derived.Test.YtlpphhjbjjdhfaaGreatDoorW2
import Derived.Lib.Overlaps
section
namespace Gp
open Go
def bytesV (l:List UInt8):List Value:=l.map λb=> .int .u8 b.toNat
theorem Tz (l:List UInt8):∀v∈bytesV l,iI v=true:=by
 intro v hv;simp only[bytesV,akR] at hv;obtain⟨b,_,rfl⟩:=hv;rfl
theorem jI (l:List UInt8):(bytesV l).length=l.length:=by simp[bytesV]
def iD (w:θ) (s:fU) (l:List UInt8):Prop:=s.len=l.length/\nZ w s.a s.len (bytesV l)/\s.len<=s.cap
theorem iD.nil {w:θ}:iD w ⟨none,0,0⟩ []:=⟨rfl,rfl,ai8 _⟩
theorem iD.iG {w:θ} {s:fU} {l:List UInt8} (h:Buf w s (bytesV l)):iD w s l:=⟨by rw[h.1,jI],h.cells,by
 obtain⟨h1,⟨_,h2,h3⟩|⟨b,pad,_,h3,_⟩⟩:=h
 ·rw[h1,h2];simp
 ·omega⟩
theorem Qu {w:θ} {s:fU} {l:List UInt8} {K:ByteArray->Prop} (h:iD w s l) (hK:K ⟨⟨l⟩⟩):Hy w s K:=
 ⟨⟨⟨l⟩⟩,h.1.symm,h.2.1,hK⟩
theorem iD.at_ {w:θ} {s:fU} {l:List UInt8} (h:iD w s l) {i:Nat} {b:UInt8} (hi:l[i]? =some b):∃a,s.a=some a/\w.cell? (a.add i)=some (.int .u8 b.toNat):=by
 have I:=(aeK.1 hi).1;have hc:=h.2.1
 cases u:s.a with
 |none=>
  rw[u] at hc;have:(bytesV l).length=0:=by rw[show bytesV l=[] from hc];rfl
  rw[jI] at this;omega
 |some a=>
  rw[u] at hc;refine⟨a,rfl,?_⟩;rw[hc.2 i (by rw[jI];exact I)];simp[bytesV,hi]
theorem iD.empty {w:θ} {s:fU} {l:List UInt8} (h:iD w s l) (ha:s.a= .none):l=[]:=by
 have:=h.2.1;rw[ha] at this;have h2:bytesV l=[]:=this;simpa [bytesV] using h2
theorem iD.fr {w w':θ} {s:fU} {l:List UInt8} {S:Nat->Prop} (h:iD w s l) (hf:gV w w' S) (hs:∀a,s.a=some a->0<l.length->¬S a.block):iD w' s l:=by
 refine⟨h.1,?_,h.2.2⟩;have hc:=h.2.1
 cases u:s.a with
 |none=>rw[u] at hc;exact hc
 |some a=>
  rw[u] at hc;refine⟨hc.1,λj hj=> ?_⟩;have:=hc.2 j hj;rw[ade hj] at this ⊢;exact F9 this hf (by rw[block_add];exact hs a u (by rw[jI] at hj;omega))
theorem iD.lt {w:θ} {s:fU} {l:List UInt8} (h:iD w s l) {a:Addr} (ha:s.a=some a) (hl:0<l.length):a.block<w.heap.size:=by
 obtain⟨a',h1,h2⟩:=h.at_ (ade hl);rw[ha] at h1;cases h1;have:=cell_lt h2
 rwa [block_add] at this
theorem iD.ext {w w':θ} {s:fU} {l:List UInt8} (h:iD w s l) (hf:Ext w w'):iD w' s l:=h.fr (hf λ_=>False) (by simp)
theorem iD.unique {w:θ} {s:fU} {l m:List UInt8} (h:iD w s l) (h':iD w s m):l=m:=by
 apply amA;intro i;by_cases hi:i<l.length
 ·have hm:i<m.length:=by rw[<- h'.1,h.1];exact hi
  obtain⟨a,ha,hc⟩:=h.at_ (ade hi);obtain⟨a',ha',hc'⟩:=h'.at_ (ade hm);rw[ha] at ha';cases ha';rw[hc] at hc';simp only[agP,Value.int.injEq,afu] at hc';rw[ade hi,ade hm];congr 1;exact UInt8.toNat_inj.1 (by omega)
 ·have hm:¬i<m.length:=by rw[<- h'.1,h.1];exact hi
  rw[aml (by omega),aml (by omega)]
theorem O4 (a:Addr) (i j:Nat):(a.add i).add j=a.add (i+j):=by
 unfold Addr.add;by_cases h0:i=0<;>by_cases h1:j=0<;>simp[h0,h1,alD]
theorem iD.cut {w:θ} {s:fU} {l:List UInt8} {lo hi:Nat} (h:iD w s l) (h1:lo<=hi) (h2:hi<=l.length) (c:Nat) (hc':hi<=c) (m:Nat) (hm:m=lo->s.a= .none\/lo=hi\/lo=0):
  iD w ⟨qU s.a m lo 1,hi - lo,c - lo⟩ ((l.take hi).drop lo):=by
 refine⟨by simp;omega,?_,by simp only;omega⟩;have hc:=h.2.1
 cases I:s.a with
 |none=>
  have:l=[]:=h.empty I;subst this;simp only[qU];split<;>simp[nZ,bytesV]
 |some a=>
  rw[I] at hc;by_cases u:m=lo
  ·rcases hm u with hx|hx|hx
   ·rw[I] at hx;cases hx
   ·subst hx;simp only[qU,u,aiS,Nat.sub_self];have:List.drop lo (List.take lo l)=[]:=by simp
    rw[this];exact⟨rfl,λj hj=>by simp[bytesV] at hj⟩
   ·subst hx;simp only[qU,u,aiS,alN,amo];refine⟨by simp[bytesV];omega,λj hj=> ?_⟩;simp only[jI,ajT] at hj;rw[hc.2 j (by rw[jI];omega)];simp only[bytesV,aiN,alX];rw[aeH (by omega)]
  ·simp only[qU,u,ajY,ag4];refine⟨by simp only[jI,alx,ajT];omega,λj hj=> ?_⟩;simp only[jI,ajT,alx] at hj;rw[O4,aiG,hc.2 (lo+j) (by rw[jI];omega)];simp only[bytesV,aiN,alX,amg];rw[aeH (by omega)]
theorem lX {w:θ} {s:fU} {l:List UInt8} {lo hi:Int} {K:fU->Prop} (h:iD w s l) (h0:0<=lo) (h1:lo<=hi) (h2:hi<=l.length)
  (hK:∀s',iD w s' ((l.take hi.toNat).drop lo.toNat)->(∀a',s'.a=some a'->∃a,s.a=some a/\a'.block=a.block)->K s'):kM s 1 lo hi K:=by
 have hl:=h.1;have hc:=h.2.2;refine⟨h0,h1,by omega,hK _ ?_ ?_⟩
 ·refine h.cut (by omega) (by omega) _ (by omega) _ λe=> ?_;right;left;omega
 ·intro a' ha';simp only[qU] at ha';split at ha'
  ·exact⟨a',ha',rfl⟩
  ·cases hs:s.a with
   |none=>rw[hs] at ha';cases ha'
   |some a=>rw[hs] at ha';simp only[ag4,agP] at ha';exact⟨a,rfl,by rw[<- ha',block_add]⟩
theorem jv {e:TypeId} {w:θ} {s x:fU} {l m:List UInt8} {K:fU->b_} (hs:Buf w s (bytesV l)) (hx:iD w x m) (hl:l.length+m.length<=2^46)
  (hK:∀s' w',Buf w' s' (bytesV (l++m))->gV w w' (fU.at s)->(∀b,fU.at s' b->fU.at s b\/w.heap.size<=b)->(s'.a=none->l++m=[]/\s.a=none)->K s' w'):mG e 1 1 [(Value.int .u8 0)] s x w K:=by
 refine⟨bytesV m,by rw[aiG];exact hx.2.1,?_⟩;rw[hx.1,<- jI m];refine adb hs (Tz m) (by simp only[jI];omega) λs' w' h1 h2 h3 h4=>hK s' w' (by simpa [bytesV] using h1) h2 h3 λh=> ?_;obtain⟨h5,h6⟩:=h4 h;refine⟨?_,h6⟩;rw[<- List.length_eq_zero_iff] at h5 ⊢;simpa [bytesV] using h5
theorem iD.row {w:θ} {b:Nat} {l:List UInt8} (h:Row w b (bytesV l)):Buf w ⟨some ⟨b,0,none⟩,l.length,l.length⟩ (bytesV l):=
 ⟨by simp[bytesV],.inr ⟨b,[],rfl,by simp[bytesV],by simpa using h⟩⟩
theorem Buf.nil {w:θ}:Buf w ⟨none,0,0⟩ []:=⟨rfl,.inl ⟨rfl,rfl,rfl⟩⟩
theorem Buf.set {w:θ} {s:fU} {vs:List Value} (h:Buf w s vs) {i:Nat} (hi:i<vs.length):∃b,s.a=some ⟨b,0,none⟩/\∀(v:Value) (K:b_),iI v=true->
  (∀w',Buf w' s (vs.set i v)->gV w w' (fU.at s)->w'.heap.size=w.heap.size->K w')->St w ⟨b,i,none⟩ v K:=by
 obtain⟨hl,⟨_,h1,_⟩|⟨b,pad,ha,hc,hr⟩⟩:=h
 ·rw[h1] at hi;simp at hi
 ·refine⟨b,ha,λv K hv hK=>gY hr hv (by simp;omega) λw1 r1 f1 z1=>hK w1 ⟨by simp[hl],.inr ⟨b,pad,ha,by simp[hc],?_⟩⟩ (f1 _ ⟨0,ha⟩) z1⟩;rw[List.set_append_left _ _ hi] at r1;exact r1
theorem Buf.lt {w:θ} {s:fU} {vs:List Value} (h:Buf w s vs) {b:Nat} (hb:fU.at s b):b<w.heap.size:=by
 obtain⟨o,hb⟩:=hb;obtain⟨_,⟨ha,_,_⟩|⟨c,pad,ha,_,hr⟩⟩:=h
 ·rw[ha] at hb;cases hb
 ·rw[ha] at hb;cases hb;exact hr.lt
theorem Buf.at_eq {w:θ} {s:fU} {vs:List Value} (h:Buf w s vs) {a:Addr} (ha:s.a=some a):fU.at s a.block:=by
 obtain⟨_,⟨ha',_,_⟩|⟨c,pad,ha',_,hr⟩⟩:=h
 ·rw[ha'] at ha;cases ha
 ·rw[ha'] at ha;cases ha;exact⟨0,ha'⟩
theorem H7:IntKind.bits .i64=64:=rfl
theorem NK {a b:Nat} (ha:a<2^63) (hb:b<2^63):lu .i64 (a:Int) (b:Int)=((a &&& b:Nat):Int):=by
 unfold lu;have h1:(BitVec.ofInt (IntKind.bits .i64) (a:Int)).toNat=a:=by rw[H7,als];omega
 have h2:(BitVec.ofInt (IntKind.bits .i64) (b:Int)).toNat=b:=by rw[H7,als];omega
 rw[al3,h1,h2];have:a &&& b<=a:=Nat.and_le_left;rw[wrap_i64 (by omega) (by omega)]
theorem aiX {a b:Nat} (ha:a<256) (hb:b<256):lu .u8 (a:Int) (b:Int)=((a &&& b:Nat):Int):=by
 unfold lu;have e:IntKind.bits .u8=8:=rfl;have h1:(BitVec.ofInt (IntKind.bits .u8) (a:Int)).toNat=a:=by rw[e,als];omega
 have h2:(BitVec.ofInt (IntKind.bits .u8) (b:Int)).toNat=b:=by rw[e,als];omega
 rw[al3,h1,h2];have:a &&& b<=a:=Nat.and_le_left;rw[IntKind.wrap_u8];omega
theorem DC {a k:Nat} (hk:k<=64):jE .i64 (a:Int) (k:Int)=((a / 2^k:Nat):Int):=by
 unfold jE;have e:(2:Int)^(min (k:Int).toNat (IntKind.bits .i64))=((2^k:Nat):Int):=by
  rw[H7,ab3,alH hk];simp
 rw[e,amq _ (Int.natCast_nonneg _),amr]
theorem ajI {a k:Nat} (hk:k<=8):jE .u8 (a:Int) (k:Int)=((a / 2^k:Nat):Int):=by
 unfold jE;have e:(2:Int)^(min (k:Int).toNat (IntKind.bits .u8))=((2^k:Nat):Int):=by
  rw[show IntKind.bits .u8=8 from rfl,ab3,alH hk];simp
 rw[e,amq _ (Int.natCast_nonneg _),amr]
theorem ah5 {a k:Nat} (hk:k<=64) (h:a * 2^k<2^63):Lu .i64 (a:Int) (k:Int)=((a * 2^k:Nat):Int):=by
 unfold Lu;have e:(2:Int)^(min (k:Int).toNat (IntKind.bits .i64))=((2^k:Nat):Int):=by
  rw[H7,ab3,alH hk];simp
 rw[e,<- Int.natCast_mul,wrap_i64 (by omega) (by omega)]
theorem agY (a k:Nat):a &&& 2^k=a / 2^k % 2 * 2^k:=by
 apply Nat.eq_of_testBit_eq;intro i;rw[Nat.testBit_and,Nat.testBit_two_pow];have h2:a.testBit k=decide (a / 2^k % 2=1):=Nat.testBit_eq_decide_div_mod_eq;have hc:a / 2^k % 2=0\/a / 2^k % 2=1:=by omega
 by_cases hk:k=i
 ·subst hk;rcases hc with h|h
  ·simp[h2,h]
  ·rw[h2,h];simp
 ·rcases hc with h|h
  ·simp[h,hk]
  ·rw[h,Nat.one_mul,Nat.testBit_two_pow];simp[hk]
theorem JG (a k:Nat):a &&& (2^k - 1)=a % 2^k:=amH a k
theorem Ey {n:Nat} {K:b_}:∀(ds:List Nat) (w:θ),(∀d∈ds,n<=d/\w.heap[d]? =some (.deferred (some [])))->ds.Nodup->(∀w',gV w w' (λb=>n<=b)->w'.heap.size=w.heap.size->K w')->wE ds w K:=by
 intro ds
 induction ds with
 |nil=>intro w _ _ h;exact h w (gV.refl _ _) rfl
 |cons d ds ih=>
  intro w h1 h2 h;refine⟨(h1 d (alQ ..)).2,ih _ ?_ (alT.1 h2).2 ?_⟩
  ·intro e he;have:=h1 e (alm _ he);refine⟨this.1,?_⟩;have u:¬d=e:=λx=>(alT.1 h2).1 (x ▸ he);simp[World.putObj,u,this.2]
  ·intro w' f z;exact h w' (((gV.mF w d _).mono λb e=>by have:=(h1 d (alQ ..)).1;omega).trans f λ_ _ e=>e) (by simpa [World.putObj] using z)
end Gp
end
section
namespace Gp
open Go
structure iQ {α:Type} (n:Nat) (f:α->List Value) (w:θ) (s:fU) (xs:List α):Prop where
 len:s.len=xs.length
 mem:(s.a=none/\xs=[]/\s.cap=0)\/∃b pad,s.a=some ⟨b,0,none⟩/\s.cap * n=xs.length * n+pad.length/\Row w b (xs.flatMap f++pad)
structure lK {α:Type} (n:Nat) (f:α->List Value) (w:θ) (s:fU) (xs:List α):Prop where
 len:s.len=xs.length
 cells:nZ w s.a (s.len * n) (xs.flatMap f)
 cap:s.len<=s.cap
theorem nG {z:List Value}:∀k,(gX z k).length=k * z.length
 |0=>by simp[gX]
 |k+1=>by simp[gX,nG k,ale];omega
section
variable {α:Type} {n:Nat} {f:α->List Value} {w w':θ} {s:fU} {xs:List α}
theorem iQ.nil:iQ n f w ⟨none,0,0⟩ []:=⟨rfl,.inl ⟨rfl,rfl,rfl⟩⟩
theorem iQ.lt (h:iQ n f w s xs) {b:Nat} (hb:fU.at s b):b<w.heap.size:=by
 obtain⟨o,hb⟩:=hb;obtain⟨_,⟨ha,_,_⟩|⟨c,pad,ha,_,hr⟩⟩:=h
 ·rw[ha] at hb;cases hb
 ·rw[ha] at hb;cases hb;exact hr.lt
theorem iQ.fr {S:Nat->Prop} (h:iQ n f w s xs) (hf:gV w w' S) (hs:∀b,fU.at s b->¬S b):iQ n f w' s xs:=by
 obtain⟨hl,⟨ha,h1,h2⟩|⟨b,pad,ha,hc,hr⟩⟩:=h
 ·exact⟨hl,.inl ⟨ha,h1,h2⟩⟩
 ·exact⟨hl,.inr ⟨b,pad,ha,hc,hr.fr hf (hs b ⟨0,ha⟩)⟩⟩
theorem iQ.ext (h:iQ n f w s xs) (hf:Ext w w'):iQ n f w' s xs:=h.fr (hf λ_=>False) (λ_ _=>by simp)
theorem iQ.sl (hn:∀x,(f x).length=n) (h0:0<n) (h:iQ n f w s xs):lK n f w s xs:=by
 obtain⟨hl,⟨ha,rfl,hc⟩|⟨b,pad,ha,hc,hr⟩⟩:=h
 ·exact⟨hl,by rw[ha];rfl,by rw[hl];simp⟩
 ·refine⟨hl,?_,?_⟩
  ·rw[ha];refine⟨by rw[iU f n hn,hl],λj hj=> ?_⟩;rw[gJ,hr.cell,ahO,alk hj]
  ·rw[hl];exact Nat.le_of_mul_le_mul_right (by omega:xs.length * n<=s.cap * n) h0
theorem lK.nil:lK n f w ⟨none,0,0⟩ []:=⟨rfl,rfl,ai8 _⟩
theorem lK.at_ (hn:∀x,(f x).length=n) (h0:0<n) (h:lK n f w s xs) {i:Nat} {x:α} (hi:xs[i]? =some x):∃a,s.a=some a/\∀j v,(f x)[j]? =some v->w.cell? (a.add (i * n+j))=some v:=by
 have J:=(aeK.1 hi).1;have hc:=h.cells;have u:=iU f n hn xs;have hm:(i+1) * n<=xs.length * n:=al2 _ J;rw[ale] at hm
 cases I:s.a with
 |none=>
  rw[I] at hc;have h0:xs.flatMap f=[]:=hc;rw[h0] at u;simp only[alU] at u;omega
 |some a=>
  rw[I] at hc;refine⟨a,rfl,λj v hj=> ?_⟩;have N:j<n:=by have:=(aeK.1 hj).1;rw[hn] at this;exact this
  rw[hc.2 _ (by omega),flat_get f n hn xs i j N,hi];exact hj
theorem lK.fr {S:Nat->Prop} (h:lK n f w s xs) (hf:gV w w' S) (hs:∀a,s.a=some a->0<xs.length->¬S a.block):lK n f w' s xs:=by
 refine⟨h.len,?_,h.cap⟩;have hc:=h.cells
 cases u:s.a with
 |none=>rw[u] at hc;exact hc
 |some a=>
  rw[u] at hc;refine⟨hc.1,λj hj=> ?_⟩;have:=hc.2 j hj;rw[ade hj] at this ⊢;refine F9 this hf (by
   rw[block_add];refine hs a u ?_
   cases xs with
   |nil=>simp at hj
   |cons=>simp)
theorem lK.ext (h:lK n f w s xs) (hf:Ext w w'):lK n f w' s xs:=h.fr (hf λ_=>False) (by simp)
theorem aaV {e:TypeId} {bytes:Nat} {z:List Value} {ys:List α} {K:fU->b_} (hn:∀x,(f x).length=n) (h:iQ n f w s xs) (hz:z.length=n) (h0:0<n) (h1:∀x,∀v∈f x,iI v=true)
  (hl:(xs.length+ys.length) * bytes<=2^46) (hl2:xs.length+ys.length<=2^46)
  (hK:∀s' w',iQ n f w' s' (xs++ys)->(gV w w' (fU.at s))->(∀b,fU.at s' b->fU.at s b\/w.heap.size<=b)->K s' w'):Xl e n bytes z s ys.length (ys.flatMap f) w K:=by
 obtain⟨hlen,hc⟩:=id h;have I:∀v∈ys.flatMap f,iI v=true:=λv hv=>by
  obtain⟨x,_,hx⟩:=List.mem_flatMap.1 hv;exact h1 x v hx
 have O:=iU f n hn ys;have J:=iU f n hn xs;by_cases u:s.len+ys.length<=s.cap
 ·rcases hc with ⟨ha,rfl,hc⟩|⟨b,pad,ha,hc,hr⟩
  ·simp at hlen;have:ys=[]:=by cases ys with
    |nil=>rfl
    |cons _ _=>simp at u;omega
   subst this;refine .inl ⟨u,λa ha'=>(by rw[ha] at ha';cases ha'),I,?_⟩;rw[ha];exact hK _ _ ⟨by simp[hlen],.inl ⟨rfl,rfl,hc⟩⟩ (gV.refl _ _) (λb ⟨o,hb⟩=>by cases hb)
  ·have N:(s.len+ys.length) * n<=s.cap * n:=al2 _ u;rw[ale,hlen] at N;obtain⟨r2,f2⟩:=wZ (ys.flatMap f) w (xs.flatMap f++pad) (s.len * n) 0 hr (by simp only[ahY];rw[O,J,hlen];omega);refine .inl ⟨u,λa ha'=> ?_,I,?_⟩
   ·rw[ha] at ha';cases ha';intro j hj;rw[gJ,gJ,hr.cell,hr.frozen];refine⟨?_,rfl⟩;rw[ade (by simp only[ahY];rw[J,hlen];omega)];rfl
   ·rw[ha];simp only[gJ,ahO];have e1:(xs.flatMap f++pad).take (s.len * n+0)=xs.flatMap f:=by rw[aki,hlen,<- J];simp
    have e2:((xs.flatMap f++pad).drop (s.len * n+0+(ys.flatMap f).length)).length+ys.length * n=pad.length:=by
     simp only[alx,ahY];rw[J,O,hlen];omega
    rw[e1] at r2;refine hK _ _ ⟨by simp[hlen],.inr ⟨b,(xs.flatMap f++pad).drop (s.len * n+0+(ys.flatMap f).length),rfl,?_,?_⟩⟩ (f2 _ ⟨0,ha⟩) (λc ⟨o,hc'⟩=> .inl (by cases hc';exact⟨0,ha⟩))
    ·show s.cap * n=_;simp only[ahY,ale];omega
    ·rw[alh];exact r2
 ·have hb:(s.len+ys.length) * bytes<=2^46:=by rw[hlen];exact hl
  refine .inr ⟨by omega,hb,by omega,xs.flatMap f,?_,λc h1' h2'=> ?_⟩
  ·exact(h.sl hn h0).cells
  ·refine hK _ _ ⟨by simp[hlen],.inr ⟨w.heap.size,gX z (c - (s.len+ys.length)),rfl,?_,by rw[alh];exact Row.new w.drew _ e⟩⟩ ((gV.drew w _).trans (gV.alloc w.drew _ _) λ_ _ e=>e) (λb ⟨o,hb⟩=> .inr (by cases hb;exact ai8 _));rw[nG,hz];simp only[ahY];rw[hlen] at h1' ⊢;rw[<- ale];congr 1;omega
theorem lJ {e:TypeId} {bytes:Nat} {z:List Value} {t:fU} {ys:List α} {K:fU->b_} (hn:∀x,(f x).length=n) (h:iQ n f w s xs) (ht:lK n f w t ys) (hz:z.length=n) (h0:0<n) (h1:∀x,∀v∈f x,iI v=true)
  (hl:(xs.length+ys.length) * bytes<=2^46) (hl2:xs.length+ys.length<=2^46)
  (hK:∀s' w',iQ n f w' s' (xs++ys)->(gV w w' (fU.at s))->(∀b,fU.at s' b->fU.at s b\/w.heap.size<=b)->K s' w'):mG e n bytes z s t w K:=by
 refine⟨ys.flatMap f,ht.cells,?_⟩;rw[ht.len];exact aaV hn h hz h0 h1 hl hl2 hK
theorem iQ.row {b:Nat} (h:Row w b (xs.flatMap f)):iQ n f w ⟨some ⟨b,0,none⟩,xs.length,xs.length⟩ xs:=
 ⟨rfl,.inr ⟨b,[],rfl,by simp,by simpa using h⟩⟩
theorem lK.cut (hn:∀x,(f x).length=n) (h:lK n f w s xs) {lo hi:Nat} (h1:lo<=hi) (h2:hi<=xs.length) (m:Nat) (hm:m=lo->lo=hi):
  lK n f w ⟨qU s.a m lo n,hi - lo,s.cap - lo⟩ ((xs.take hi).drop lo):=by
 have hcap:=h.cap;have hlen:=h.len;refine⟨by simp;omega,?_,by simp only;omega⟩;have hc:=h.cells
 cases I:s.a with
 |none=>
  rw[I] at hc;have h0:xs.flatMap f=[]:=hc;have:((xs.take hi).drop lo).flatMap f=[]:=by
   rw[List.flatMap_eq_nil_iff] at h0 ⊢;exact λx hx=>h0 x (ams (al8 hx))
  simp only[qU];split<;>simpa [nZ] using this
 |some a=>
  rw[I] at hc;by_cases u:m=lo
  ·have:=hm u;subst this;simp only[qU,u,aiS,Nat.sub_self,alR];have:List.drop lo (List.take lo xs)=[]:=by simp
   rw[this];exact⟨rfl,λj hj=>by simp at hj⟩
  ·simp only[qU,u,ajY,ag4];have J:(((xs.take hi).drop lo).flatMap f).length=(hi - lo) * n:=by
    rw[iU f n hn];simp;congr 1;omega
   refine⟨J,λj hj=> ?_⟩;rw[J] at hj;have e:lo * n+j<(xs.flatMap f).length:=by
    rw[iU f n hn];have h3:hi * n<=xs.length * n:=al2 _ h2;have h4:(hi - lo) * n=hi * n - lo * n:=Nat.sub_mul _ _ _;have h5:lo * n<=hi * n:=al2 _ h1;omega
   have ea:(a.add (lo * n)).add j=a.add (lo * n+j):=O4 _ _ _;rw[ea,hc.2 _ e];have hn0:0<n:=by
    cases n with
    |zero=>simp at hj
    |succ n=>omega
   have hj':j=j / n * n+j % n:=by rw[Nat.mul_comm];exact(Nat.div_add_mod j n).symm
   have N:=aln j hn0;have hjd:j / n<hi - lo:=(Nat.div_lt_iff_lt_mul hn0).2 hj;rw[hj',<- alD,<- ale,flat_get f n hn _ _ _ N,flat_get f n hn _ _ _ N];rw[amg,alX,aeH (by omega)]
end
theorem acr {α:Type} {n:Nat} {f:α->List Value} {w:θ} {s:fU} {xs:List α} {lo hi:Int} {K:fU->Prop} (hn:∀x,(f x).length=n) (h:lK n f w s xs) (h0:0<=lo) (h1:lo<=hi) (h2:hi<=xs.length)
  (hK:∀s',lK n f w s' ((xs.take hi.toNat).drop lo.toNat)->K s'):kM s n lo hi K:=by
 have hl:=h.len;have hc:=h.cap;refine⟨h0,h1,by omega,hK _ ?_⟩;exact h.cut hn (by omega) (by omega) _ λe=>by omega
end Gp
end
section
namespace Gp
open Go
def zZ {α:Type} (enc:α->Value) (w:θ) (r:Nat) (xs:List α):Prop:=
 ∃es clock,w.heap[r]? =some (.map es clock)/\es.toList.map (λe=>(e.key,e.val))=xs.map λx=>(enc x,.bool true)
section
variable {α:Type} {enc:α->Value} {w w':θ} {r:Nat} {xs:List α} {P:Program} {kt:TypeId}
theorem zZ.fr {S:Nat->Prop} (h:zZ enc w r xs) (hf:gV w w' S) (hs:¬S r):zZ enc w' r xs:=by
 obtain⟨es,c,h1,h2⟩:=h;exact⟨es,c,by rw[hf.same r (akl.1 h1).1 hs];exact h1,h2⟩
theorem zZ.ext (h:zZ enc w r xs) (hf:Ext w w'):zZ enc w' r xs:=h.fr (hf λ_=>False) (by simp)
theorem zZ.new (w:θ) (enc:α->Value):zZ enc (w.alloc (.map #[] 0)) w.heap.size []:=⟨#[],0,World.alloc_heap_new w _,rfl⟩
variable [DecidableEq α]
theorem XD (hE:∀a b:α,EZ P 16 kt (enc a) (enc b)=some (decide (a=b))) (a:α):∀(es:List MapEntry) (xs:List α) (i:Nat),es.map (λe=>(e.key,e.val))=(xs.map λx=>(enc x,Value.bool true))->
  (a∈xs->∃j,uj P kt (enc a) es i=some (some (j,.bool true)))/\(a∉xs->uj P kt (enc a) es i=some none):=by
 intro es
 induction es with
 |nil=>
  intro xs i h
  cases xs with
  |nil=>exact⟨λh=>by simp at h,λ_=>rfl⟩
  |cons x xs=>simp at h
 |cons e es ih=>
  intro xs i h
  cases xs with
  |nil=>simp at h
  |cons x xs=>
   simp only[ajU,alP,alp] at h;obtain⟨⟨h1,h2⟩,h3⟩:=h;have hi:=ih xs (i+1) h3;unfold uj;rw[h1,hE];by_cases hx:a=x
   ·subst hx;simp only[ace];exact⟨λ_=>⟨i,by rw[h2]⟩,λhn=>by simp at hn⟩
   ·simp only[hx,acQ];exact⟨λhm=>hi.1 (by simpa [hx] using hm),λhn=>hi.2 (by simp at hn;exact hn.2)⟩
theorem aeO (h:zZ enc w r xs) (hE:∀a b:α,EZ P 16 kt (enc a) (enc b)=some (decide (a=b))) (a:α) (hk:nX P kt (enc a)=true) {K:Bool->Prop} (hK:K (decide (a∈xs))):pY P kt .bool (some r) (enc a) (.bool false) w K:=by
 obtain⟨es,c,h1,h2⟩:=h;refine⟨hk,.inr ⟨r,es,c,rfl,h1,?_⟩⟩;have hf:=XD hE a es.toList xs 0 h2;by_cases hm:a∈xs
 ·obtain⟨j,hj⟩:=hf.1 hm;exact⟨_,hj,by simpa [hm,Kind.dec] using hK⟩
 ·exact⟨_,hf.2 hm,by simpa [hm,Kind.dec] using hK⟩
theorem aeP (h:zZ enc w r xs) (hE:∀a b:α,EZ P 16 kt (enc a) (enc b)=some (decide (a=b))) (a:α) (hk:nX P kt (enc a)=true) (hn:a∉xs) {K:b_}
  (hK:∀w',zZ enc w' r (xs++[a])->gV w w' (·=r)->w'.heap.size=w.heap.size->K w'):oK P kt (some r) (enc a) (.bool true) w K:=by
 obtain⟨es,c,h1,h2⟩:=h;have u:=(akl.1 h1).1;refine⟨hk,r,es,c,rfl,h1,none,(XD hE a es.toList xs 0 h2).2 hn,?_⟩;show K (w.putObj r (.map (es.push {key:=enc a,val:= .bool true,born:=c}) (c+1)));refine hK _ ⟨es.push {key:=enc a,val:= .bool true,born:=c},c+1,by simp[World.putObj,alG,u],?_⟩ (gV.mF _ _ _) (by simp[World.putObj]);simp[h2]
end
end Gp
end
section
namespace Gp
open Go
theorem agL {k:IntKind} {n:Int} (h:(Lit.int k n).wf=true):k.min<=n/\n<=k.max:=by
 simpa [Lit.wf] using h
theorem wf_u8 {n:Int} (h:(Lit.int .u8 n).wf=true):0<=n/\n<=255:=agL h
theorem wf_i64 {n:Int} (h:(Lit.int .i64 n).wf=true): -9223372036854775808<=n/\n<=9223372036854775807:=agL h
theorem ZJ {α:Type} {d:jB} {n:Nat} (hn0:0<n) {w:θ} {x:(jB.slice d n).T} (h:(jB.slice d n).In w x) (g:d.T->α) (f:α->List Value) (hf:∀a,(f a).length=n)
  (hg:∀y:d.T,d.In w y->f (g y)=d.cells y):lK n f w x.1 (x.2.map g):=by
 obtain⟨⟨h1,h2,h3,h4⟩,h5⟩:=h;refine⟨by rw[ahc];exact h1,?_,h2⟩;by_cases I:x.2=([]:List d.T)
 ·have hl:x.1.len=0:=by rw[h1,I];rfl
  rw[I,hl]
  cases x.1.a with
  |none=>rfl
  |some a=>exact⟨(alR n).symm,λj hj=>by simp at hj⟩
 ·obtain⟨b,o,ha,hb,hc⟩:=h4 I;rw[ha];have J:=iU f n hf (x.2.map g);rw[ahc,<- h1] at J;refine⟨J,λj hj=> ?_⟩;rw[J] at hj;have u:j / n<x.2.length:=by
   rw[<- h1];exact Nat.div_lt_of_lt_mul (by rw[Nat.mul_comm];exact hj)
  have N:=aln j hn0;have hx:=ade u;have hj2:j=j / n * n+j % n:=by rw[Nat.mul_comm];exact(Nat.div_add_mod j n).symm
  have R:=h5 _ (akI u);have O:=(hc _ _ hx).2 (j % n);generalize x.2[j / n]=y at hx R O;rw[<- hg y R] at O;rw[hj2,flat_get f n hf _ _ _ N,aiN,hx];have hfl2:=hf (g y);have hv:=ade (show j % n<(f (g y)).length by omega);simp only[ag4,Option.bind_some];rw[hv,gJ,<- alD];exact O _ hv
theorem ZH {w:θ} {x:fU×List Int} (h:(jB.slice (.int .u8) 1).In w x):iD w x.1 (x.2.map λn=>UInt8.ofNat n.toNat):=by
 obtain⟨⟨h1,h2,h3,h4⟩,h5⟩:=h;have h4:(x.2≠([]:List Int))->∃b o,x.1.a=some ⟨b,o,none⟩/\b<w.heap.size/\∀i (y:Int),x.2[i]? =some y->([Value.int .u8 y]:List Value).length=1/\∀j v,([Value.int .u8 y]:List Value)[j]? =some v->w.cell? ⟨b,o+i * 1+j,none⟩=some v:=h4;have h1:x.1.len=x.2.length:=h1;refine⟨by simpa using h1,?_,h2⟩;by_cases u:x.2=([]:List Int)
 ·rw[u] at h1 ⊢;simp only[alU] at h1;rw[h1]
  cases x.1.a with
  |none=>rfl
  |some a=>exact⟨rfl,λj hj=>by simp[bytesV] at hj⟩
 ·obtain⟨b,o,ha,hb,hc⟩:=h4 u;rw[ha];refine⟨by simp[bytesV,h1],λj hj=> ?_⟩;simp only[bytesV,ahc] at hj;have hy:=ade hj;have:=(hc j _ hy).2 0 _ rfl;rw[gJ];simp only[aiG,aki] at this;rw[this];have hw:=wf_u8 (h5 _ (akI hj));simp only[bytesV,aiN,hy,ag4];congr 2;simp;omega
end Gp
end
section
namespace Gp
open Go
def qX {α β:Type} (enc:α->Value) (ev:β->Value) (w:θ) (r:Nat) (l:List (α×β)):Prop:=
 ∃es clock,w.heap[r]? =some (.map es clock)/\es.toList.map (λe=>(e.key,e.val))=(l.map λx=>(enc x.1,ev x.2))/\(es.toList.map (·.born)).Nodup/\∀e∈es.toList,e.born<clock
section
variable {α β:Type} {enc:α->Value} {ev:β->Value} {w w':θ} {r:Nat} {l:List (α×β)} {P:Program} {kt:TypeId}
theorem qX.fr {S:Nat->Prop} (h:qX enc ev w r l) (hf:gV w w' S) (hs:¬S r):qX enc ev w' r l:=by
 obtain⟨es,c,h1,h2,h3⟩:=h;exact⟨es,c,by rw[hf.same r (akl.1 h1).1 hs];exact h1,h2,h3⟩
theorem qX.ext (h:qX enc ev w r l) (hf:Ext w w'):qX enc ev w' r l:=h.fr (hf λ_=>False) (by simp)
theorem qX.lt (h:qX enc ev w r l):r<w.heap.size:=by
 obtain⟨es,c,h1,h2⟩:=h;exact(akl.1 h1).1
theorem qX.new (w:θ) (enc:α->Value) (ev:β->Value):qX enc ev (w.alloc (.map #[] 0)) w.heap.size []:=⟨#[],0,World.alloc_heap_new w _,rfl,by simp,by simp⟩
variable [DecidableEq α]
def lC:List (α×β)->α->Option β
 |[],_=>none
 |x::l,a=>if a=x.1 then some x.2 else lC l a
def Cm:List (α×β)->α->β->List (α×β)
 |[],a,b=>[(a,b)]
 |x::l,a,b=>if a=x.1 then (a,b)::l else x::Cm l a b
def BJ:List (α×β)->α->List (α×β)
 |[],_=>[]
 |x::l,a=>if a=x.1 then l else x::BJ l a
theorem BR (l:List (α×β)) (a a':α) (b:β):lC (Cm l a b) a'=if a'=a then some b else lC l a':=by
 induction l with
 |nil=>unfold Cm lC;split<;>simp_all [lC]
 |cons x l ih=>
  unfold Cm;by_cases h:a=x.1
  ·rw[aeH h];unfold lC;by_cases h':a'=a
   ·rw[aeH h',aeH h']
   ·rw[ada h',ada h',ada (by rw[<- h];exact h')]
  ·rw[ada h];unfold lC;by_cases h':a'=x.1
   ·rw[aeH h',aeH h',ada (by rw[h'];exact λe=>h e.symm)]
   ·rw[ada h',ada h',ih]
theorem qH {l:List (α×β)} {a:α}:lC l a=none↔a∉l.map (·.1):=by
 induction l with
 |nil=>simp[lC]
 |cons x l ih=>
  unfold lC;by_cases h:a=x.1
  ·rw[aeH h];simp[h]
  ·rw[ada h,ih];simp[h]
theorem SG (l:List (α×β)) (a:α) (b:β):(Cm l a b).map (·.1)=if a∈l.map (·.1) then l.map (·.1) else l.map (·.1)++[a]:=by
 induction l with
 |nil=>simp[Cm]
 |cons x l ih=>
  unfold Cm;by_cases h:a=x.1
  ·rw[aeH h];simp[h]
  ·rw[ada h,ajU,ih,ajU];by_cases h':a∈l.map (·.1)
   ·rw[aeH h',aeH (alm _ h')]
   ·rw[ada h',ada (by simp only[agN,not_or];exact⟨h,h'⟩)];simp
theorem O1 {l:List (α×β)} (h:(l.map (·.1)).Nodup) (a:α) (b:β):((Cm l a b).map (·.1)).Nodup:=by
 rw[SG];split
 ·exact h
 ·rename_i hn;rw[al4];exact⟨h,by simp,λx hx y hy e=>by simp only[akU] at hy;subst hy;subst e;exact hn hx⟩
theorem RY (l:List (α×β)) (a:α):(BJ l a).Sublist l:=by
 induction l with
 |nil=>exact List.Sublist.refl _
 |cons x l ih=>
  unfold BJ;split
  ·exact List.sublist_cons_self _ _
  ·exact ih.cons_cons _
theorem MR {l:List (α×β)} (h:(l.map (·.1)).Nodup) (a a':α):lC (BJ l a) a'=if a'=a then none else lC l a':=by
 induction l with
 |nil=>unfold BJ lC;split<;>rfl
 |cons x l ih=>
  rw[ajU,alT] at h;unfold BJ;by_cases hx:a=x.1
  ·rw[aeH hx];by_cases h':a'=a
   ·rw[aeH h',h',hx];exact qH.2 h.1
   ·rw[ada h']
    conv=>rhs;unfold lC
    rw[ada (by rw[<- hx];exact h')]
  ·rw[ada hx];unfold lC;rw[ih h.2];by_cases h':a'=x.1
   ·rw[aeH h',aeH h',ada (by rw[h'];exact λe=>hx e.symm)]
   ·rw[ada h',ada h']
theorem N9 (hE:∀a b:α,EZ P 16 kt (enc a) (enc b)=some (decide (a=b))) (a:α) (b:β):∀(es:List MapEntry) (l:List (α×β)) (i:Nat),es.map (λe=>(e.key,e.val))=(l.map λx=>(enc x.1,ev x.2))->
  (lC l a=none/\uj P kt (enc a) es i=some none/\Cm l a b=l++[(a,b)])\/
  ∃j v e,lC l a=some v/\uj P kt (enc a) es i=some (some (i+j,ev v))/\es[j]? =some e/\e.key=enc a/\
   (es.modify j λe=>{e with key:=enc a,val:=ev b}).map (λe=>(e.key,e.val))=(Cm l a b).map λx=>(enc x.1,ev x.2):=by
 intro es
 induction es with
 |nil=>
  intro l i h
  cases l with
  |nil=>exact .inl ⟨rfl,rfl,rfl⟩
  |cons x l=>simp at h
 |cons e es ih=>
  intro l i h
  cases l with
  |nil=>simp at h
  |cons x l=>
   simp only[ajU,alP,alp] at h;obtain⟨⟨h1,h2⟩,h3⟩:=h;unfold uj lC Cm;rw[h1,hE];by_cases hx:a=x.1
   ·simp only[hx,ace,aiS];refine .inr ⟨0,x.2,e,rfl,by rw[h2,aki],rfl,h1,?_⟩;simp[List.modify,h3]
   ·simp only[hx,acQ,ajY];rcases ih l (i+1) h3 with ⟨g1,g2,g3⟩|⟨j,v,e',g1,g2,g3,g4,g5⟩
    ·exact .inl ⟨g1,g2,by rw[g3];rfl⟩
    ·refine .inr ⟨j+1,v,e',g1,by rw[g2];congr 3;omega,by simpa using g3,g4,?_⟩;simp only[List.modify_succ_cons,ajU,g5,h1,h2]
theorem Eu {k:Kind} (h:qX enc ev w r l) (hE:∀a b:α,EZ P 16 kt (enc a) (enc b)=some (decide (a=b))) (a:α) (hk:nX P kt (enc a)=true) {z:Value} {K:k.T->Prop}
  (h0:lC l a=none->k.dec z K) (h1:∀b,lC l a=some b->k.dec (ev b) K):pY P kt k (some r) (enc a) z w K:=by
 obtain⟨es,c,g1,g2,_⟩:=h;refine⟨hk,.inr ⟨r,es,c,rfl,g1,?_⟩⟩
 cases hl:lC l a with
 |none=>
  cases l with
  |nil=>
   have:es.toList=[]:=by simpa using g2
   exact⟨none,by rw[this];rfl,h0 hl⟩
  |cons x l'=>
   rcases N9 hE a x.2 es.toList _ 0 g2 with ⟨_,q2,_⟩|⟨j,v,e,q1,_⟩
   ·exact⟨_,q2,h0 hl⟩
   ·rw[hl] at q1;cases q1
 |some b=>
  rcases N9 hE a b es.toList _ 0 g2 with ⟨q1,_,_⟩|⟨j,v,e,q1,q2,_⟩
  ·rw[hl] at q1;cases q1
  ·rw[hl] at q1;cases q1;exact⟨_,q2,h1 b hl⟩
theorem QF (es:List MapEntry) (j:Nat) (k v:Value):(es.modify j λe=>{e with key:=k,val:=v}).map (·.born)=es.map (·.born):=by
 induction es generalizing j with
 |nil=>simp
 |cons e es ih=>
  cases j with
  |zero=>simp[List.modify]
  |succ j=>rw[List.modify_succ_cons,ajU,ajU,ih]
theorem yX (h:qX enc ev w r l) (hE:∀a b:α,EZ P 16 kt (enc a) (enc b)=some (decide (a=b))) (a:α) (b:β) (hk:nX P kt (enc a)=true) {K:b_}
  (hK:∀w',qX enc ev w' r (Cm l a b)->gV w w' (·=r)->w'.heap.size=w.heap.size->K w'):oK P kt (some r) (enc a) (ev b) w K:=by
 obtain⟨es,c,h1,h2,h3,h4⟩:=h;have u:=(akl.1 h1).1;rcases N9 hE a b es.toList _ 0 h2 with ⟨_,q2,q3⟩|⟨j,v,e,q1,q2,q3,q4,q5⟩
 ·refine⟨hk,r,es,c,rfl,h1,none,q2,?_⟩;show K (w.putObj r (.map (es.push {key:=enc a,val:=ev b,born:=c}) (c+1)));refine hK _ ⟨es.push {key:=enc a,val:=ev b,born:=c},c+1,by simp[World.putObj,alG,u],?_,?_,?_⟩ (gV.mF _ _ _) (by simp[World.putObj])
  ·rw[q3];simp[h2]
  ·rw[Array.toList_push,alz,al4];refine⟨h3,by simp,λx hx y hy e=> ?_⟩;obtain⟨e',he',rfl⟩:=akR.1 hx;have:=h4 e' he';simp at hy;omega
  ·intro e he;rw[Array.toList_push] at he;rcases akX.1 he with he|he
   ·have:=h4 e he;omega
   ·have:e={key:=enc a,val:=ev b,born:=c}:=by simpa using he
    rw[this];simp
 ·rw[ahO] at q2;refine⟨hk,r,es,c,rfl,h1,_,q2,⟨e,by rw[<- Array.getElem?_toList];exact q3,q4⟩,?_⟩;refine hK _ ⟨_,c,by simp[World.putObj,alG,u];rfl,?_,?_,?_⟩ (gV.mF _ _ _) (by simp[World.putObj])
  ·rw[amG];exact q5
  ·rw[amG,QF];exact h3
  ·intro e' he';have hm:e'.born∈(es.toList.map (·.born)):=by
    rw[<- QF es.toList j (enc a) (ev b),<- amG];exact List.mem_map_of_mem he'
   obtain⟨e'',he'',hb⟩:=akR.1 hm;rw[<- hb];exact h4 e'' he''
theorem adK (hE:∀a b:α,EZ P 16 kt (enc a) (enc b)=some (decide (a=b))) (a:α):∀(es:List MapEntry) (l:List (α×β)) (i:Nat),es.map (λe=>(e.key,e.val))=(l.map λx=>(enc x.1,ev x.2))->
  (uj P kt (enc a) es i=some none/\BJ l a=l)\/
  ∃j v,j<es.length/\uj P kt (enc a) es i=some (some (i+j,v))/\(es.eraseIdx j).map (λe=>(e.key,e.val))=(BJ l a).map λx=>(enc x.1,ev x.2):=by
 intro es
 induction es with
 |nil=>
  intro l i h
  cases l with
  |nil=>exact .inl ⟨rfl,rfl⟩
  |cons x l=>simp at h
 |cons e es ih=>
  intro l i h
  cases l with
  |nil=>simp at h
  |cons x l=>
   simp only[ajU,alP,alp] at h;obtain⟨⟨h1,h2⟩,h3⟩:=h;unfold uj BJ;rw[h1,hE];by_cases hx:a=x.1
   ·simp only[hx,ace,aiS];exact .inr ⟨0,e.val,by simp,by rw[aki],by simpa using h3⟩
   ·simp only[hx,acQ,ajY];rcases ih l (i+1) h3 with ⟨g1,g2⟩|⟨j,v,g1,g2,g3⟩
    ·exact .inl ⟨g1,by rw[g2]⟩
    ·refine .inr ⟨j+1,v,by simp;omega,by rw[g2];congr 3;omega,?_⟩;simp only[List.eraseIdx_cons_succ,ajU,g3,h1,h2]
theorem S9 (h:qX enc ev w r l) (hE:∀a b:α,EZ P 16 kt (enc a) (enc b)=some (decide (a=b))) (a:α) (hk:nX P kt (enc a)=true) {K:b_}
  (hK:∀w',qX enc ev w' r (BJ l a)->gV w w' (·=r)->w'.heap.size=w.heap.size->K w'):E5 P kt (some r) (enc a) w K:=by
 obtain⟨es,c,h1,h2,h3,h4⟩:=h;have I:=(akl.1 h1).1;rcases adK hE a es.toList _ 0 h2 with ⟨q1,q2⟩|⟨j,v,q0,q1,q2⟩
 ·refine⟨hk,.inr ⟨r,es,c,rfl,h1,none,q1,?_⟩⟩;refine hK _ ⟨es,c,by simp[World.putObj,alG,I],?_,h3,h4⟩ (gV.mF _ _ _) (by simp[World.putObj]);rw[q2];exact h2
 ·rw[ahO] at q1;refine⟨hk,.inr ⟨r,es,c,rfl,h1,_,q1,?_⟩⟩;have u:(es.eraseIdxIfInBounds j).toList.Sublist es.toList:=by rw[Array.toList_eraseIdxIfInBounds];exact List.eraseIdx_sublist _ _
  refine hK _ ⟨es.eraseIdxIfInBounds j,c,by simp[World.putObj,alG,I],?_,h3.sublist (u.map _),λe he=>h4 e (u.mem he)⟩ (gV.mF _ _ _) (by simp[World.putObj]);rw[Array.toList_eraseIdxIfInBounds];exact q2
end
end Gp
end
section
namespace Gp
open Go
def spl (L:List Value) (o:Nat) (vs:List Value):List Value:=L.take o++vs++L.drop (o+vs.length)
theorem Ko {A B C vs:List Value} (h:B.length=vs.length):spl (A++(B++C)) A.length vs=A++(vs++C):=by
 unfold spl;rw[List.take_left,<- h,<- List.drop_drop,List.drop_left,List.drop_left];simp only[akc]
theorem AU {n m o dl dc:Nat} {w:θ} {b:Nat} {src:fU} {L vs:List Value} {K:Int->b_} (hm:Nat.min src.len dl=m) (hc:nZ w src.a (m * n) vs) (hr:Row w b L) (hl:o+vs.length<=L.length)
  (h:∀v∈vs,iI v=true) (hK:∀w',Row w' b (spl L o vs)->gV w w' (·=b)->K (m:Nat) w'):AQ n ⟨some ⟨b,o,none⟩,dl,dc⟩ src w K:=by
 refine⟨vs,by simp only[hm];exact hc,?_,h,?_⟩
 ·rintro a ha
  cases ha
  intro j hj;rw[gJ,hr.cell];exact⟨by simp;omega,hr.frozen _⟩
 ·obtain⟨r,f⟩:=wZ vs w L o 0 hr (by omega);simp only[hm];refine hK _ ?_ (f (·=b) rfl);simpa [spl] using r
theorem Pm {w:θ} {b o n:Nat} {A B C:List Value} (hr:Row w b (A++(B++C))) (ha:A.length=o) (hb:B.length=n):nZ w (some ⟨b,o,none⟩) n B:=by
 refine⟨hb,λj hj=> ?_⟩;rw[gJ,hr.cell,akQ (by omega),alk (by omega)];congr 1;omega
theorem SK {e:TypeId} {n bytes:Nat} {z old:List Value} {s:fU} {m:Nat} {w:θ} {K:fU->b_} (h1:s.cap<s.len+m) (h2:(s.len+m) * bytes<=2^46) (h3:s.len+m<=2^46)
  (hc:nZ w s.a (s.len * n) old)
  (hK:∀(c:Nat) w',s.len+m<=c->Row w' w.heap.size (old++(gX z m++gX z (c - (s.len+m))))->Ext w w'->w'.heap.size=w.heap.size+1->K ⟨some ⟨w.heap.size,0,none⟩,s.len+m,c⟩ w'):Xk e n bytes z s (m:Int) w K:=by
 have hmb:m * bytes<=(s.len+m) * bytes:=al2 _ (by omega);have hz:((m * bytes:Nat):Int)<=2^46:=by omega
 rw[Int.natCast_mul] at hz;refine⟨by omega,hz,by omega,?_⟩;rw[ab3];refine .inr ⟨h1,h2,by omega,old,hc,λc h4 h5=>hK c _ h4 ?_ ?_ ?_⟩
 ·rw[<- akc];exact Row.new w.drew _ e
 ·exact λS=>(gV.drew w S).trans (gV.alloc w.drew _ S) λ_ _ e=>e
 ·simp
theorem VO {P:Program} {f:FuncId} {fn:Func} {tS tR e:TypeId} (hf:P.funcs[f]? =some fn) (h:(fn.name=="runtime.NumGoroutine")=false) (hb:fn.body.isNone=true)
  (hn:Extern.findNext fn=none) (he:Extern.find fn=some (Extern.SlicesOverlaps.overlaps #[tS,tS] #[tR])) (ht:P.underlying tS=some (.slice e)) (hi:(P.info? e).isSome=true)
  {w:θ} {b c:Nat} {L M:List Value} {o la ca lb cb:Nat} (hr:Row w b L) (hr':Row w c M) (u:b≠c) (hM:M≠[]) {K:Value->b_} (hK:K (.bool false) w):
  aiL P f [Value.slice (some ⟨b,0,none⟩) la ca,Value.slice (some ⟨c,o,none⟩) lb cb] w K:=by
 obtain⟨i,hi⟩:=amD.1 hi;refine⟨_,_,?_,hK⟩;obtain⟨tA,hA⟩:=id hr;obtain⟨tB,hB⟩:=id hr';have I:=Lib.run_overlaps_apart (P:=P) w tS tR e ht i.size (λw=>by simp[Go.sizeOf,run_typeInfo hi]) ⟨b,0,none⟩ ⟨c,o,none⟩ la ca lb cb u tA tB L.length M.length
  (by simp[World.shape?,hA]) (by simp[World.shape?,hB]) (by simpa using hM) (hr.frozen 0) (hr.frozen _)
 rw[run_callFunc_extern hf h hb hn he];simp only[I];rfl
section
variable {α:Type} {n:Nat} {f:α->List Value}
theorem abu {xs:List α} {i:Nat} {x:α} (hx:xs[i]? =some x):xs.flatMap f=(xs.take i).flatMap f++(f x++(xs.drop (i+1)).flatMap f):=by
 obtain⟨h,rfl⟩:=aeK.1 hx
 conv=>lhs;rw[<- ajS i xs,alI h]
 rw[alh,ak0]
theorem YE {xs:List α} {i:Nat}:xs.flatMap f=(xs.take i).flatMap f++(xs.drop i).flatMap f:=by
 conv=>lhs;rw[<- ajS i xs]
 rw[alh]
end
end Gp
end
section
namespace Gp
open Go
def ItF {α β:Type} (enc:α->Value) (ev:β->Value) (w:θ) (q r:Nat) (l todo:List (α×β)):Prop:=
 ∃seen es clock,w.heap[q]? =some (.mapIter (some r) clock seen clock)/\w.heap[r]? =some (.map es clock)/\
  es.toList.map (λe=>(e.key,e.val))=(l.map λx=>(enc x.1,ev x.2))/\(es.toList.map (·.born)).Nodup/\(∀e∈es.toList,e.born<clock)/\
  (leftOf es seen).toList.map (λe=>(e.key,e.val))=todo.map λx=>(enc x.1,ev x.2)
section
variable {α β:Type} {enc:α->Value} {ev:β->Value} {w w':θ} {q r:Nat} {l todo:List (α×β)} {P:Program} {kt:TypeId}
theorem ItF.map (h:ItF enc ev w q r l todo):qX enc ev w r l:=by
 obtain⟨seen,es,c,_,h2,h3,h4,h5,_⟩:=h;exact⟨es,c,h2,h3,h4,h5⟩
end
end Gp
namespace Gp
open Go
def aiF (w:θ) (q r:Nat):Nat:=
 match w.heap[q]?,w.heap[r]? with
 |some (.mapIter _ _ seen _),some (.map es _)=>(leftOf es seen).size
 |_,_=>0
theorem ItF.left {α β:Type} {enc:α->Value} {ev:β->Value} {w:θ} {q r:Nat} {l todo:List (α×β)} (h:ItF enc ev w q r l todo):aiF w q r=todo.length:=by
 obtain⟨seen,es,c,g1,g2,_,_,_,g6⟩:=h;unfold aiF;rw[g1,g2];have:=congrArg List.length g6;simpa using this
end Gp
end
section
namespace Gp
open Go
def fill:Code->Ann->Ann
 | .seq a b,an=>match an with
  | .leaf=> .seq (fill a .leaf) (fill b .leaf)
  | .seq x y=> .seq (fill a x) (fill b y)
  | .join st x y=> .join st (fill a x) (fill b y)
  |x=>x
 | .cond _ a b,an=>match an with
  | .leaf=> .cond (fill a .leaf) (fill b .leaf)
  | .cond x y=> .cond (fill a x) (fill b y)
  |x=>x
 | .block _ a,an=>match an with
  | .leaf=> .blk (fill a .leaf)
  | .blk x=> .blk (fill a x)
  |x=>x
 | .loop a,an=>match an with
  | .loop st x=> .loop st (fill a x)
  |x=>x
 | .scope a,an=>fill a an
 | .rangeFunc _ _ a b,an=>match an with
  | .rng ks x y=> .rng ks (fill a x) (fill b y)
  |x=>x
 |_,an=>an
def Z5:(ks:List Kind)->SL ks->SL ks->Prop
 |[],K,K'=>∀w,K w->K' w
 |k::ks,K,K'=>∀x:k.T,Z5 ks (K x) (K' x)
theorem TV {rest:List Kind}:∀(ks:List Kind) {K K':SL (ks++rest)} {φ ψ:List Value->SL rest->Prop},Z5 (ks++rest) K K'->
  (∀vs c c',Z5 rest c c'->φ vs c->ψ vs c')->ϓ ks rest K φ->ϓ ks rest K' ψ
 |[],_,_,_,_,h,hp,hk=>hp _ _ _ h hk
 |_::ks,_,_,_,_,h,hp,⟨x,hk⟩=>⟨x,TV ks (h x) (λ_ _ _ hc hh=>hp _ _ _ hc hh) hk⟩
theorem Pv:∀(sh:List Shape) {K K':SL (flat sh)} {φ:List Value->Prop} {w:θ},Z5 (flat sh) K K'->ϔ sh K φ w->ϔ sh K' φ w
 |[],_,_,_,_,h,hk=>⟨hk.1,h _ hk.2⟩
 | .one _::sh,_,_,_,_,h,⟨x,hk⟩=>⟨x,Pv sh (h x) hk⟩
 | .agg ks::sh,_,_,_,_,h,hk=>TV ks h (λ_ _ _ hc hh=>Pv sh hc hh) hk
def fZ (P:Program) (f:FuncId) (args:List Value) (sh:List Shape) (w:θ) (K:SL (flat sh)):Prop:=
 Calls P f ⟨args⟩ w λe w'=>ϔ sh K (λus=>e= .returned (ZW us)) w'
theorem fZ.mono {P:Program} {f:FuncId} {args:List Value} {sh:List Shape} {w:θ} {K K':SL (flat sh)} (h:fZ P f args sh w K) (hk:Z5 (flat sh) K K'):fZ P f args sh w K':=
 Calls.mono h λ_ _ hh=>Pv sh hk hh
def akh (P:Program) (fn:Func) (sh:List Shape) (an:Ann) (args:List Value) (w:θ) (K:SL (flat sh)):Prop:=
 match fn.body with
 |some c=>cond (Nat.ble args.length fn.ntmps) (den P fn.ntmps c none (fill c an) (O7 0 args) [] w (akz P fn.results.toList sh K)) False
 |none=>False
@[reducible] def gB (A B:Prop):Prop:=B->A
theorem okF {P:Program} (hP:Xo P) {f:FuncId} {fn:Func} (hf:P.funcs[f]? =some fn) {args:List Value} {sh:List Shape} {w:θ} {K:SL (flat sh)} {S:Prop} (an:Ann)
  (e:akh P fn sh an args w K=S):gB (fZ P f args sh w K) S:=by
 intro h;rw[<- e] at h;unfold akh at h
 cases hb:fn.body with
 |none=>rw[hb] at h;exact h.elim
 |some c=>
  rw[hb] at h;dsimp only at h
  cases hl:Nat.ble args.length fn.ntmps with
  |false=>rw[hl] at h;exact h.elim
  |true=>
   rw[hl] at h;exact afD hP hf hb rfl (rs:=fn.results.toList) rfl sh K (fill c an) args hl w h
@[reducible] def Pt (p:fO) (K:Addr->Prop):Prop:=∃a,p=some a/\K a
theorem jM {a:Addr} {K:Addr->Prop}:Pt (some a) K↔K a:=
 ⟨λ⟨_,h,k⟩=>by cases h;exact k,λk=>⟨a,rfl,k⟩⟩
def VJ:List Value->θ->Addr->Nat->Prop->Prop
 |[],_,_,_,R=>R
 |v::vs,w,a,i,R=>w.cell? (a.add i)=some v/\VJ vs w a (i+1) R
theorem iF (v:Value) (vs:List Value) (w:θ) (a:Addr) (i:Nat) (R:Prop):VJ (v::vs) w a i R↔(w.cell? (a.add i)=some v/\VJ vs w a (i+1) R):=Iff.rfl
theorem iK (w:θ) (a:Addr) (i:Nat) (R:Prop):VJ [] w a i R↔R:=Iff.rfl
theorem sx:(∀(w:θ) (a:Addr) (i:Nat) (K:b_),h_ [] w a i K=K w)/\(∀(a:Addr),(some a).isNone=false)/\((none:fO).isNone=true)/\
  (∀(a b:Prop),cond false a b=b)/\(∀(a b:Prop),cond true a b=a)/\(∀(a:Addr) (P:Addr->Prop),(∃x,some a=some x/\P x)↔P a)/\
  (∀(k:Kind) (w:θ) (a:Addr) (K:k.T->Prop),Ld k w a K↔ZV k (w.cell? a) K)/\
  (∀(a:Value) (l:List Value),(a::l)[0]? =some a)/\(∀(a:Value) (l:List Value) (i:Nat),(a::l)[i+1]? =l[i]?)/\
  (∀(k:Kind) (v:Value) (K:k.T->Prop),ZV k (some v) K=k.dec v K)/\(∀(a:fO) (l c:Nat) (K:fU->Prop),Kind.dec .slice (.slice a l c) K=K ⟨a,l,c⟩)/\
  (∀(k:IntKind) (n:Int) (K:Int->Prop),Kind.dec (.int k) (.int k n) K=K n)/\(∀(b:Bool) (K:Bool->Prop),Kind.dec .bool (.bool b) K=K b)/\
  (∀(a:fO) (K:fO->Prop),Kind.dec .ptr (.pointer a) K=K a)/\(∀(b:ByteArray) (K:ByteArray->Prop),Kind.dec .str (.string b) K=K b)/\
  (∀(r:Option Nat) (K:Option Nat->Prop),Kind.dec .map (.map r) K=K r)/\(∀(v:Value) (K:Value->Prop),Kind.dec .any v K=K v)/\
  (∀(a:Addr) (l c size:Nat) (i:Int) (K:Addr->Prop),iE ⟨some a,l,c⟩ size i K↔(0<=i/\i<(l:Int)/\K (a.add (i.toNat * size))))/\
  (∀(b o n:Nat),(⟨b,o,none⟩:Addr).add n=⟨b,o+n,none⟩)/\(∀n:Nat,0+n=n)/\(∀n:Nat,n+0=n):=
 ⟨Yf,λ_=>rfl,rfl,λ_ _=>rfl,λ_ _=>rfl,wS,Xm,λ_ _=>rfl,λ_ _ _=>rfl,f_,gK,gq,jf,oU,RX,Dp,JO,Az,gJ,ahO,λ_=>rfl⟩
def LY (P:Program) (x:Value) (name:String) (args:List Value) (sh:List Shape) (w:θ) (K:SL (flat sh)):Prop:=
 match x with
 | .iface t v=>match P.underlying t,Y0 P t name with
  |some d,some f=>cond (!YO d && oI P f) (fZ P f (v::args) sh w K) False
  |_,_=>False
 |_=>False
def AsT (t:TypeId) (x:Value) (Kt:Value->Prop) (Kf:Prop):Prop:=
 match x with
 | .iface t' v=>cond (Nat.beq t' t) (Kt v) Kf
 | .nilIface=>Kf
 |_=>False
def StA (n:Nat) (v:Value) (w:θ) (a:Addr) (K:b_):Prop:=
 match v with
 | .agg cs=>cond (Nat.beq cs.toList.length n) (h_ cs.toList w a 0 K) False
 |_=>False
def IfB (v:Value) (K:Bool->Prop):Prop:=
 match v with
 | .bool b=>K b
 |_=>False
end Gp
end
