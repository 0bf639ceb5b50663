import Derived.Test.YtlpncoeijhpddaaGreatDoorW2
import Derived.Lib.Overlaps
section
namespace Gp
open Go
def bytesV (l:List UInt8):List Value:=l.map λb=> .int .u8 b.toNat
theorem TV (l:List UInt8):∀v∈bytesV l,iP v=true:=by
 intro v hv;simp only[bytesV,alp] at hv;obtain⟨b,_,rfl⟩:=hv;rfl
theorem jW (l:List UInt8):(bytesV l).length=l.length:=by simp[bytesV]
def iH (w:θ) (s:gG) (l:List UInt8):Prop:=s.len=l.length/\oL w s.a s.len (bytesV l)/\s.len<=s.cap
theorem iH.nil {w:θ}:iH w ⟨none,0,0⟩ []:=⟨rfl,rfl,ajq _⟩
theorem iH.iM {w:θ} {s:gG} {l:List UInt8} (h:Buf w s (bytesV l)):iH w s l:=⟨by rw[h.1,jW],h.cells,by
 obtain⟨h1,⟨_,h2,h3⟩|⟨b,pad,_,h3,_⟩⟩:=h
 ·rw[h1,h2];simp
 ·omega⟩
theorem QO {w:θ} {s:gG} {l:List UInt8} {K:ByteArray->Prop} (h:iH w s l) (hK:K ⟨⟨l⟩⟩):Ih w s K:=
 ⟨⟨⟨l⟩⟩,h.1.symm,h.2.1,hK⟩
theorem iH.at_ {w:θ} {s:gG} {l:List UInt8} (h:iH w s l) {i:Nat} {b:UInt8} (hi:l[i]? =some b):∃a,s.a=some a/\w.cell? (a.add i)=some (.int .u8 b.toNat):=by
 have I:=(afg.1 hi).1;have hc:=h.2.1
 cases u:s.a with
 |none=>
  rw[u] at hc;have:(bytesV l).length=0:=by rw[show bytesV l=[] from hc];rfl
  rw[jW] at this;omega
 |some a=>
  rw[u] at hc;refine⟨a,rfl,?_⟩;rw[hc.2 i (by rw[jW];exact I)];simp[bytesV,hi]
theorem iH.empty {w:θ} {s:gG} {l:List UInt8} (h:iH w s l) (ha:s.a= .none):l=[]:=by
 have:=h.2.1;rw[ha] at this;have h2:bytesV l=[]:=this;simpa [bytesV] using h2
theorem iH.fr {w w':θ} {s:gG} {l:List UInt8} {S:Nat->Prop} (h:iH w s l) (hf:ig w w' S) (hs:∀a,s.a=some a->0<l.length->¬S a.block):iH w' s l:=by
 refine⟨h.1,?_,h.2.2⟩;have hc:=h.2.1
 cases u:s.a with
 |none=>rw[u] at hc;exact hc
 |some a=>
  rw[u] at hc;refine⟨hc.1,λj hj=> ?_⟩;have:=hc.2 j hj;rw[adP hj] at this ⊢;exact Gu this hf (by rw[block_add];exact hs a u (by rw[jW] at hj;omega))
theorem iH.lt {w:θ} {s:gG} {l:List UInt8} (h:iH w s l) {a:Addr} (ha:s.a=some a) (hl:0<l.length):a.block<w.heap.size:=by
 obtain⟨a',h1,h2⟩:=h.at_ (adP hl);rw[ha] at h1;cases h1;have:=cell_lt h2
 rwa [block_add] at this
theorem iH.ext {w w':θ} {s:gG} {l:List UInt8} (h:iH w s l) (hf:Ext w w'):iH w' s l:=h.fr (hf λ_=>False) (by simp)
theorem iH.unique {w:θ} {s:gG} {l m:List UInt8} (h:iH w s l) (h':iH w s m):l=m:=by
 apply am5;intro i;by_cases hi:i<l.length
 ·have hm:i<m.length:=by rw[<- h'.1,h.1];exact hi
  obtain⟨a,ha,hc⟩:=h.at_ (adP hi);obtain⟨a',ha',hc'⟩:=h'.at_ (adP hm);rw[ha] at ha';cases ha';rw[hc] at hc';simp only[aho,Value.int.injEq,afp] at hc';rw[adP hi,adP hm];congr 1;exact UInt8.toNat_inj.1 (by omega)
 ·have hm:¬i<m.length:=by rw[<- h'.1,h.1];exact hi
  rw[amT (by omega),amT (by omega)]
theorem PD (a:Addr) (i j:Nat):(a.add i).add j=a.add (i+j):=by
 unfold Addr.add;by_cases h0:i=0<;>by_cases h1:j=0<;>simp[h0,h1,al8]
theorem iH.cut {w:θ} {s:gG} {l:List UInt8} {lo hi:Nat} (h:iH w s l) (h1:lo<=hi) (h2:hi<=l.length) (c:Nat) (hc':hi<=c) (m:Nat) (hm:m=lo->s.a= .none\/lo=hi\/lo=0):
  iH w ⟨rP s.a m lo 1,hi - lo,c - lo⟩ ((l.take hi).drop lo):=by
 refine⟨by simp;omega,?_,by simp only;omega⟩;have hc:=h.2.1
 cases I:s.a with
 |none=>
  have:l=[]:=h.empty I;subst this;simp only[rP];split<;>simp[oL,bytesV]
 |some a=>
  rw[I] at hc;by_cases u:m=lo
  ·rcases hm u with hx|hx|hx
   ·rw[I] at hx;cases hx
   ·subst hx;simp only[rP,u,ajn,Nat.sub_self];have:List.drop lo (List.take lo l)=[]:=by simp
    rw[this];exact⟨rfl,λj hj=>by simp[bytesV] at hj⟩
   ·subst hx;simp only[rP,u,ajn,amg,amW];refine⟨by simp[bytesV];omega,λj hj=> ?_⟩;simp only[jW,ajH] at hj;rw[hc.2 j (by rw[jW];omega)];simp only[bytesV,aiK,amr];rw[adZ (by omega)]
  ·simp only[rP,u,aku,ahF];refine⟨by simp only[jW,al2,ajH];omega,λj hj=> ?_⟩;simp only[jW,ajH,al2] at hj;rw[PD,aiC,hc.2 (lo+j) (by rw[jW];omega)];simp only[bytesV,aiK,amr,amN];rw[adZ (by omega)]
theorem mY {w:θ} {s:gG} {l:List UInt8} {lo hi:Int} {K:gG->Prop} (h:iH w s l) (h0:0<=lo) (h1:lo<=hi) (h2:hi<=l.length)
  (hK:∀s',iH w s' ((l.take hi.toNat).drop lo.toNat)->(∀a',s'.a=some a'->∃a,s.a=some a/\a'.block=a.block)->K s'):lG s 1 lo hi K:=by
 have hl:=h.1;have hc:=h.2.2;refine⟨h0,h1,by omega,hK _ ?_ ?_⟩
 ·refine h.cut (by omega) (by omega) _ (by omega) _ λe=> ?_;right;left;omega
 ·intro a' ha';simp only[rP] at ha';split at ha'
  ·exact⟨a',ha',rfl⟩
  ·cases hs:s.a with
   |none=>rw[hs] at ha';cases ha'
   |some a=>rw[hs] at ha';simp only[ahF,aho] at ha';exact⟨a,rfl,by rw[<- ha',block_add]⟩
theorem jK {e:TypeId} {w:θ} {s x:gG} {l m:List UInt8} {K:gG->b_} (hs:Buf w s (bytesV l)) (hx:iH w x m) (hl:l.length+m.length<=2^46)
  (hK:∀s' w',Buf w' s' (bytesV (l++m))->ig w w' (gG.at s)->(∀b,gG.at s' b->gG.at s b\/w.heap.size<=b)->(s'.a=none->l++m=[]/\s.a=none)->K s' w'):nH e 1 1 [(Value.int .u8 0)] s x w K:=by
 refine⟨bytesV m,by rw[aiC];exact hx.2.1,?_⟩;rw[hx.1,<- jW m];refine adQ hs (TV m) (by simp only[jW];omega) λs' w' h1 h2 h3 h4=>hK s' w' (by simpa [bytesV] using h1) h2 h3 λh=> ?_;obtain⟨h5,h6⟩:=h4 h;refine⟨?_,h6⟩;rw[<- List.length_eq_zero_iff] at h5 ⊢;simpa [bytesV] using h5
theorem iH.row {w:θ} {b:Nat} {l:List UInt8} (h:Row w b (bytesV l)):Buf w ⟨some ⟨b,0,none⟩,l.length,l.length⟩ (bytesV l):=
 ⟨by simp[bytesV],.inr ⟨b,[],rfl,by simp[bytesV],by simpa using h⟩⟩
theorem Buf.nil {w:θ}:Buf w ⟨none,0,0⟩ []:=⟨rfl,.inl ⟨rfl,rfl,rfl⟩⟩
theorem Buf.set {w:θ} {s:gG} {vs:List Value} (h:Buf w s vs) {i:Nat} (hi:i<vs.length):∃b,s.a=some ⟨b,0,none⟩/\∀(v:Value) (K:b_),iP v=true->
  (∀w',Buf w' s (vs.set i v)->ig w w' (gG.at s)->w'.heap.size=w.heap.size->K w')->St w ⟨b,i,none⟩ v K:=by
 obtain⟨hl,⟨_,h1,_⟩|⟨b,pad,ha,hc,hr⟩⟩:=h
 ·rw[h1] at hi;simp at hi
 ·refine⟨b,ha,λv K hv hK=>iC hr hv (by simp;omega) λw1 r1 f1 z1=>hK w1 ⟨by simp[hl],.inr ⟨b,pad,ha,by simp[hc],?_⟩⟩ (f1 _ ⟨0,ha⟩) z1⟩;rw[List.set_append_left _ _ hi] at r1;exact r1
theorem Buf.lt {w:θ} {s:gG} {vs:List Value} (h:Buf w s vs) {b:Nat} (hb:gG.at s b):b<w.heap.size:=by
 obtain⟨o,hb⟩:=hb;obtain⟨_,⟨ha,_,_⟩|⟨c,pad,ha,_,hr⟩⟩:=h
 ·rw[ha] at hb;cases hb
 ·rw[ha] at hb;cases hb;exact hr.lt
theorem Buf.at_eq {w:θ} {s:gG} {vs:List Value} (h:Buf w s vs) {a:Addr} (ha:s.a=some a):gG.at s a.block:=by
 obtain⟨_,⟨ha',_,_⟩|⟨c,pad,ha',_,hr⟩⟩:=h
 ·rw[ha'] at ha;cases ha
 ·rw[ha'] at ha;cases ha;exact⟨0,ha'⟩
theorem Io:IntKind.bits .i64=64:=rfl
theorem Og {a b:Nat} (ha:a<2^63) (hb:b<2^63):lZ .i64 (a:Int) (b:Int)=((a &&& b:Nat):Int):=by
 unfold lZ;have h1:(BitVec.ofInt (IntKind.bits .i64) (a:Int)).toNat=a:=by rw[Io,alZ];omega
 have h2:(BitVec.ofInt (IntKind.bits .i64) (b:Int)).toNat=b:=by rw[Io,alZ];omega
 rw[amx,h1,h2];have:a &&& b<=a:=Nat.and_le_left;rw[wrap_i64 (by omega) (by omega)]
theorem ajw {a b:Nat} (ha:a<256) (hb:b<256):lZ .u8 (a:Int) (b:Int)=((a &&& b:Nat):Int):=by
 unfold lZ;have e:IntKind.bits .u8=8:=rfl;have h1:(BitVec.ofInt (IntKind.bits .u8) (a:Int)).toNat=a:=by rw[e,alZ];omega
 have h2:(BitVec.ofInt (IntKind.bits .u8) (b:Int)).toNat=b:=by rw[e,alZ];omega
 rw[amx,h1,h2];have:a &&& b<=a:=Nat.and_le_left;rw[IntKind.wrap_u8];omega
theorem DY {a k:Nat} (hk:k<=64):jR .i64 (a:Int) (k:Int)=((a / 2^k:Nat):Int):=by
 unfold jR;have e:(2:Int)^(min (k:Int).toNat (IntKind.bits .i64))=((2^k:Nat):Int):=by
  rw[Io,abu,amb hk];simp
 rw[e,amX _ (Int.natCast_nonneg _),amY]
theorem aki {a k:Nat} (hk:k<=8):jR .u8 (a:Int) (k:Int)=((a / 2^k:Nat):Int):=by
 unfold jR;have e:(2:Int)^(min (k:Int).toNat (IntKind.bits .u8))=((2^k:Nat):Int):=by
  rw[show IntKind.bits .u8=8 from rfl,abu,amb hk];simp
 rw[e,amX _ (Int.natCast_nonneg _),amY]
theorem aiJ {a k:Nat} (hk:k<=64) (h:a * 2^k<2^63):LX .i64 (a:Int) (k:Int)=((a * 2^k:Nat):Int):=by
 unfold LX;have e:(2:Int)^(min (k:Int).toNat (IntKind.bits .i64))=((2^k:Nat):Int):=by
  rw[Io,abu,amb hk];simp
 rw[e,<- Int.natCast_mul,wrap_i64 (by omega) (by omega)]
theorem ahy (a k:Nat):a &&& 2^k=a / 2^k % 2 * 2^k:=by
 apply Nat.eq_of_testBit_eq;intro i;rw[Nat.testBit_and,Nat.testBit_two_pow];have h2:a.testBit k=decide (a / 2^k % 2=1):=Nat.testBit_eq_decide_div_mod_eq;have hc:a / 2^k % 2=0\/a / 2^k % 2=1:=by omega
 by_cases hk:k=i
 ·subst hk;rcases hc with h|h
  ·simp[h2,h]
  ·rw[h2,h];simp
 ·rcases hc with h|h
  ·simp[h,hk]
  ·rw[h,Nat.one_mul,Nat.testBit_two_pow];simp[hk]
theorem JZ (a k:Nat):a &&& (2^k - 1)=a % 2^k:=am_ a k
theorem EP {n:Nat} {K:b_}:∀(ds:List Nat) (w:θ),(∀d∈ds,n<=d/\w.heap[d]? =some (.deferred (some [])))->ds.Nodup->(∀w',ig w w' (λb=>n<=b)->w'.heap.size=w.heap.size->K w')->wR ds w K:=by
 intro ds
 induction ds with
 |nil=>intro w _ _ h;exact h w (ig.refl _ _) rfl
 |cons d ds ih=>
  intro w h1 h2 h;refine⟨(h1 d (amk ..)).2,ih _ ?_ (amm.1 h2).2 ?_⟩
  ·intro e he;have:=h1 e (alU _ he);refine⟨this.1,?_⟩;have u:¬d=e:=λx=>(amm.1 h2).1 (x ▸ he);simp[World.putObj,u,this.2]
  ·intro w' f z;exact h w' (((ig.nG w d _).mono λb e=>by have:=(h1 d (amk ..)).1;omega).trans f λ_ _ e=>e) (by simpa [World.putObj] using z)
end Gp
end
section
namespace Gp
open Go
structure jc {α:Type} (n:Nat) (f:α->List Value) (w:θ) (s:gG) (xs:List α):Prop where
 len:s.len=xs.length
 mem:(s.a=none/\xs=[]/\s.cap=0)\/∃b pad,s.a=some ⟨b,0,none⟩/\s.cap * n=xs.length * n+pad.length/\Row w b (xs.flatMap f++pad)
structure ny {α:Type} (n:Nat) (f:α->List Value) (w:θ) (s:gG) (xs:List α):Prop where
 len:s.len=xs.length
 cells:oL w s.a (s.len * n) (xs.flatMap f)
 cap:s.len<=s.cap
theorem n_ {z:List Value}:∀k,(iw z k).length=k * z.length
 |0=>by simp[iw]
 |k+1=>by simp[iw,n_ k,alN];omega
section
variable {α:Type} {n:Nat} {f:α->List Value} {w w':θ} {s:gG} {xs:List α}
theorem jc.nil:jc n f w ⟨none,0,0⟩ []:=⟨rfl,.inl ⟨rfl,rfl,rfl⟩⟩
theorem jc.lt (h:jc n f w s xs) {b:Nat} (hb:gG.at s b):b<w.heap.size:=by
 obtain⟨o,hb⟩:=hb;obtain⟨_,⟨ha,_,_⟩|⟨c,pad,ha,_,hr⟩⟩:=h
 ·rw[ha] at hb;cases hb
 ·rw[ha] at hb;cases hb;exact hr.lt
theorem jc.fr {S:Nat->Prop} (h:jc n f w s xs) (hf:ig w w' S) (hs:∀b,gG.at s b->¬S b):jc n f w' s xs:=by
 obtain⟨hl,⟨ha,h1,h2⟩|⟨b,pad,ha,hc,hr⟩⟩:=h
 ·exact⟨hl,.inl ⟨ha,h1,h2⟩⟩
 ·exact⟨hl,.inr ⟨b,pad,ha,hc,hr.fr hf (hs b ⟨0,ha⟩)⟩⟩
theorem jc.ext (h:jc n f w s xs) (hf:Ext w w'):jc n f w' s xs:=h.fr (hf λ_=>False) (λ_ _=>by simp)
theorem jc.sl (hn:∀x,(f x).length=n) (h0:0<n) (h:jc n f w s xs):ny n f w s xs:=by
 obtain⟨hl,⟨ha,rfl,hc⟩|⟨b,pad,ha,hc,hr⟩⟩:=h
 ·exact⟨hl,by rw[ha];rfl,by rw[hl];simp⟩
 ·refine⟨hl,?_,?_⟩
  ·rw[ha];refine⟨by rw[jh f n hn,hl],λj hj=> ?_⟩;rw[gY,hr.cell,ahn,alT hj]
  ·rw[hl];exact Nat.le_of_mul_le_mul_right (by omega:xs.length * n<=s.cap * n) h0
theorem ny.nil:ny n f w ⟨none,0,0⟩ []:=⟨rfl,rfl,ajq _⟩
theorem ny.at_ (hn:∀x,(f x).length=n) (h0:0<n) (h:ny n f w s xs) {i:Nat} {x:α} (hi:xs[i]? =some x):∃a,s.a=some a/\∀j v,(f x)[j]? =some v->w.cell? (a.add (i * n+j))=some v:=by
 have J:=(afg.1 hi).1;have hc:=h.cells;have u:=jh f n hn xs;have hm:(i+1) * n<=xs.length * n:=amw _ J;rw[alN] at hm
 cases I:s.a with
 |none=>
  rw[I] at hc;have h0:xs.flatMap f=[]:=hc;rw[h0] at u;simp only[amn] at u;omega
 |some a=>
  rw[I] at hc;refine⟨a,rfl,λj v hj=> ?_⟩;have N:j<n:=by have:=(afg.1 hj).1;rw[hn] at this;exact this
  rw[hc.2 _ (by omega),flat_get f n hn xs i j N,hi];exact hj
theorem ny.fr {S:Nat->Prop} (h:ny n f w s xs) (hf:ig w w' S) (hs:∀a,s.a=some a->0<xs.length->¬S a.block):ny n f w' s xs:=by
 refine⟨h.len,?_,h.cap⟩;have hc:=h.cells
 cases u:s.a with
 |none=>rw[u] at hc;exact hc
 |some a=>
  rw[u] at hc;refine⟨hc.1,λj hj=> ?_⟩;have:=hc.2 j hj;rw[adP hj] at this ⊢;refine Gu this hf (by
   rw[block_add];refine hs a u ?_
   cases xs with
   |nil=>simp at hj
   |cons=>simp)
theorem ny.ext (h:ny n f w s xs) (hf:Ext w w'):ny n f w' s xs:=h.fr (hf λ_=>False) (by simp)
theorem abv {e:TypeId} {bytes:Nat} {z:List Value} {ys:List α} {K:gG->b_} (hn:∀x,(f x).length=n) (h:jc n f w s xs) (hz:z.length=n) (h0:0<n) (h1:∀x,∀v∈f x,iP v=true)
  (hl:(xs.length+ys.length) * bytes<=2^46) (hl2:xs.length+ys.length<=2^46)
  (hK:∀s' w',jc n f w' s' (xs++ys)->(ig w w' (gG.at s))->(∀b,gG.at s' b->gG.at s b\/w.heap.size<=b)->K s' w'):XO e n bytes z s ys.length (ys.flatMap f) w K:=by
 obtain⟨hlen,hc⟩:=id h;have I:∀v∈ys.flatMap f,iP v=true:=λv hv=>by
  obtain⟨x,_,hx⟩:=List.mem_flatMap.1 hv;exact h1 x v hx
 have O:=jh f n hn ys;have J:=jh f n hn xs;by_cases u:s.len+ys.length<=s.cap
 ·rcases hc with ⟨ha,rfl,hc⟩|⟨b,pad,ha,hc,hr⟩
  ·simp at hlen;have:ys=[]:=by cases ys with
    |nil=>rfl
    |cons _ _=>simp at u;omega
   subst this;refine .inl ⟨u,λa ha'=>(by rw[ha] at ha';cases ha'),I,?_⟩;rw[ha];exact hK _ _ ⟨by simp[hlen],.inl ⟨rfl,rfl,hc⟩⟩ (ig.refl _ _) (λb ⟨o,hb⟩=>by cases hb)
  ·have N:(s.len+ys.length) * n<=s.cap * n:=amw _ u;rw[alN,hlen] at N;obtain⟨r2,f2⟩:=xJ (ys.flatMap f) w (xs.flatMap f++pad) (s.len * n) 0 hr (by simp only[ahP];rw[O,J,hlen];omega);refine .inl ⟨u,λa ha'=> ?_,I,?_⟩
   ·rw[ha] at ha';cases ha';intro j hj;rw[gY,gY,hr.cell,hr.frozen];refine⟨?_,rfl⟩;rw[adP (by simp only[ahP];rw[J,hlen];omega)];rfl
   ·rw[ha];simp only[gY,ahn];have e1:(xs.flatMap f++pad).take (s.len * n+0)=xs.flatMap f:=by rw[akC,hlen,<- J];simp
    have e2:((xs.flatMap f++pad).drop (s.len * n+0+(ys.flatMap f).length)).length+ys.length * n=pad.length:=by
     simp only[al2,ahP];rw[J,O,hlen];omega
    rw[e1] at r2;refine hK _ _ ⟨by simp[hlen],.inr ⟨b,(xs.flatMap f++pad).drop (s.len * n+0+(ys.flatMap f).length),rfl,?_,?_⟩⟩ (f2 _ ⟨0,ha⟩) (λc ⟨o,hc'⟩=> .inl (by cases hc';exact⟨0,ha⟩))
    ·show s.cap * n=_;simp only[ahP,alN];omega
    ·rw[alR];exact r2
 ·have hb:(s.len+ys.length) * bytes<=2^46:=by rw[hlen];exact hl
  refine .inr ⟨by omega,hb,by omega,xs.flatMap f,?_,λc h1' h2'=> ?_⟩
  ·exact(h.sl hn h0).cells
  ·refine hK _ _ ⟨by simp[hlen],.inr ⟨w.heap.size,iw z (c - (s.len+ys.length)),rfl,?_,by rw[alR];exact Row.new w.drew _ e⟩⟩ ((ig.drew w _).trans (ig.alloc w.drew _ _) λ_ _ e=>e) (λb ⟨o,hb⟩=> .inr (by cases hb;exact ajq _));rw[n_,hz];simp only[ahP];rw[hlen] at h1' ⊢;rw[<- alN];congr 1;omega
theorem mO {e:TypeId} {bytes:Nat} {z:List Value} {t:gG} {ys:List α} {K:gG->b_} (hn:∀x,(f x).length=n) (h:jc n f w s xs) (ht:ny n f w t ys) (hz:z.length=n) (h0:0<n) (h1:∀x,∀v∈f x,iP v=true)
  (hl:(xs.length+ys.length) * bytes<=2^46) (hl2:xs.length+ys.length<=2^46)
  (hK:∀s' w',jc n f w' s' (xs++ys)->(ig w w' (gG.at s))->(∀b,gG.at s' b->gG.at s b\/w.heap.size<=b)->K s' w'):nH e n bytes z s t w K:=by
 refine⟨ys.flatMap f,ht.cells,?_⟩;rw[ht.len];exact abv hn h hz h0 h1 hl hl2 hK
theorem jc.row {b:Nat} (h:Row w b (xs.flatMap f)):jc n f w ⟨some ⟨b,0,none⟩,xs.length,xs.length⟩ xs:=
 ⟨rfl,.inr ⟨b,[],rfl,by simp,by simpa using h⟩⟩
theorem ny.cut (hn:∀x,(f x).length=n) (h:ny n f w s xs) {lo hi:Nat} (h1:lo<=hi) (h2:hi<=xs.length) (m:Nat) (hm:m=lo->lo=hi):
  ny n f w ⟨rP s.a m lo n,hi - lo,s.cap - lo⟩ ((xs.take hi).drop lo):=by
 have hcap:=h.cap;have hlen:=h.len;refine⟨by simp;omega,?_,by simp only;omega⟩;have hc:=h.cells
 cases I:s.a with
 |none=>
  rw[I] at hc;have h0:xs.flatMap f=[]:=hc;have:((xs.take hi).drop lo).flatMap f=[]:=by
   rw[List.flatMap_eq_nil_iff] at h0 ⊢;exact λx hx=>h0 x (amZ (amD hx))
  simp only[rP];split<;>simpa [oL] using this
 |some a=>
  rw[I] at hc;by_cases u:m=lo
  ·have:=hm u;subst this;simp only[rP,u,ajn,Nat.sub_self,aml];have:List.drop lo (List.take lo xs)=[]:=by simp
   rw[this];exact⟨rfl,λj hj=>by simp at hj⟩
  ·simp only[rP,u,aku,ahF];have J:(((xs.take hi).drop lo).flatMap f).length=(hi - lo) * n:=by
    rw[jh f n hn];simp;congr 1;omega
   refine⟨J,λj hj=> ?_⟩;rw[J] at hj;have e:lo * n+j<(xs.flatMap f).length:=by
    rw[jh f n hn];have h3:hi * n<=xs.length * n:=amw _ h2;have h4:(hi - lo) * n=hi * n - lo * n:=Nat.sub_mul _ _ _;have h5:lo * n<=hi * n:=amw _ h1;omega
   have ea:(a.add (lo * n)).add j=a.add (lo * n+j):=PD _ _ _;rw[ea,hc.2 _ e];have hn0:0<n:=by
    cases n with
    |zero=>simp at hj
    |succ n=>omega
   have hj':j=j / n * n+j % n:=by rw[Nat.mul_comm];exact(Nat.div_add_mod j n).symm
   have N:=alV j hn0;have hjd:j / n<hi - lo:=(Nat.div_lt_iff_lt_mul hn0).2 hj;rw[hj',<- al8,<- alN,flat_get f n hn _ _ _ N,flat_get f n hn _ _ _ N];rw[amN,amr,adZ (by omega)]
end
theorem ac2 {α:Type} {n:Nat} {f:α->List Value} {w:θ} {s:gG} {xs:List α} {lo hi:Int} {K:gG->Prop} (hn:∀x,(f x).length=n) (h:ny n f w s xs) (h0:0<=lo) (h1:lo<=hi) (h2:hi<=xs.length)
  (hK:∀s',ny n f w s' ((xs.take hi.toNat).drop lo.toNat)->K s'):lG s n lo hi K:=by
 have hl:=h.len;have hc:=h.cap;refine⟨h0,h1,by omega,hK _ ?_⟩;exact h.cut hn (by omega) (by omega) _ λe=>by omega
end Gp
end
section
namespace Gp
open Go
def Am {α:Type} (enc:α->Value) (w:θ) (r:Nat) (xs:List α):Prop:=
 ∃es clock,w.heap[r]? =some (.map es clock)/\es.toList.map (λe=>(e.key,e.val))=xs.map λx=>(enc x,.bool true)
section
variable {α:Type} {enc:α->Value} {w w':θ} {r:Nat} {xs:List α} {P:Program} {kt:TypeId}
theorem Am.fr {S:Nat->Prop} (h:Am enc w r xs) (hf:ig w w' S) (hs:¬S r):Am enc w' r xs:=by
 obtain⟨es,c,h1,h2⟩:=h;exact⟨es,c,by rw[hf.same r (akE.1 h1).1 hs];exact h1,h2⟩
theorem Am.ext (h:Am enc w r xs) (hf:Ext w w'):Am enc w' r xs:=h.fr (hf λ_=>False) (by simp)
theorem Am.new (w:θ) (enc:α->Value):Am enc (w.alloc (.map #[] 0)) w.heap.size []:=⟨#[],0,World.alloc_heap_new w _,rfl⟩
variable [DecidableEq α]
theorem X9 (hE:∀a b:α,Fz P 16 kt (enc a) (enc b)=some (decide (a=b))) (a:α):∀(es:List MapEntry) (xs:List α) (i:Nat),es.map (λe=>(e.key,e.val))=(xs.map λx=>(enc x,Value.bool true))->
  (a∈xs->∃j,uP P kt (enc a) es i=some (some (j,.bool true)))/\(a∉xs->uP P kt (enc a) es i=some none):=by
 intro es
 induction es with
 |nil=>
  intro xs i h
  cases xs with
  |nil=>exact⟨λh=>by simp at h,λ_=>rfl⟩
  |cons x xs=>simp at h
 |cons e es ih=>
  intro xs i h
  cases xs with
  |nil=>simp at h
  |cons x xs=>
   simp only[akh,amh,alX] at h;obtain⟨⟨h1,h2⟩,h3⟩:=h;have hi:=ih xs (i+1) h3;unfold uP;rw[h1,hE];by_cases hx:a=x
   ·subst hx;simp only[acI];exact⟨λ_=>⟨i,by rw[h2]⟩,λhn=>by simp at hn⟩
   ·simp only[hx,acR];exact⟨λhm=>hi.1 (by simpa [hx] using hm),λhn=>hi.2 (by simp at hn;exact hn.2)⟩
theorem afm (h:Am enc w r xs) (hE:∀a b:α,Fz P 16 kt (enc a) (enc b)=some (decide (a=b))) (a:α) (hk:oJ P kt (enc a)=true) {K:Bool->Prop} (hK:K (decide (a∈xs))):qF P kt .bool (some r) (enc a) (.bool false) w K:=by
 obtain⟨es,c,h1,h2⟩:=h;refine⟨hk,.inr ⟨r,es,c,rfl,h1,?_⟩⟩;have hf:=X9 hE a es.toList xs 0 h2;by_cases hm:a∈xs
 ·obtain⟨j,hj⟩:=hf.1 hm;exact⟨_,hj,by simpa [hm,Kind.dec] using hK⟩
 ·exact⟨_,hf.2 hm,by simpa [hm,Kind.dec] using hK⟩
theorem afn (h:Am enc w r xs) (hE:∀a b:α,Fz P 16 kt (enc a) (enc b)=some (decide (a=b))) (a:α) (hk:oJ P kt (enc a)=true) (hn:a∉xs) {K:b_}
  (hK:∀w',Am enc w' r (xs++[a])->ig w w' (·=r)->w'.heap.size=w.heap.size->K w'):pq P kt (some r) (enc a) (.bool true) w K:=by
 obtain⟨es,c,h1,h2⟩:=h;have u:=(akE.1 h1).1;refine⟨hk,r,es,c,rfl,h1,none,(X9 hE a es.toList xs 0 h2).2 hn,?_⟩;show K (w.putObj r (.map (es.push {key:=enc a,val:= .bool true,born:=c}) (c+1)));refine hK _ ⟨es.push {key:=enc a,val:= .bool true,born:=c},c+1,by simp[World.putObj,u],?_⟩ (ig.nG _ _ _) (by simp[World.putObj]);simp[h2]
end
end Gp
end
section
namespace Gp
open Go
theorem acX {k:IntKind} {n:Int} (h:(Lit.int k n).wf=true):k.min<=n/\n<=k.max:=by
 simpa [Lit.wf] using h
theorem wf_u8 {n:Int} (h:(Lit.int .u8 n).wf=true):0<=n/\n<=255:=acX h
theorem wf_u16 {n:Int} (h:(Lit.int .u16 n).wf=true):0<=n/\n<=65535:=acX h
theorem wf_i64 {n:Int} (h:(Lit.int .i64 n).wf=true): -9223372036854775808<=n/\n<=9223372036854775807:=acX h
theorem Ο {α:Type} {d:jq} {n:Nat} (hn0:0<n) {w:θ} {x:(jq.slice d n).T} (h:(jq.slice d n).In w x) (g:d.T->α) (f:α->List Value) (hf:∀a,(f a).length=n)
  (hg:∀y:d.T,d.In w y->f (g y)=d.cells y):ny n f w x.1 (x.2.map g):=by
 obtain⟨⟨h1,h2,h3,h4⟩,h5⟩:=h;refine⟨by rw[aiz];exact h1,?_,h2⟩;by_cases I:x.2=([]:List d.T)
 ·have hl:x.1.len=0:=by rw[h1,I];rfl
  rw[I,hl]
  cases x.1.a with
  |none=>rfl
  |some a=>exact⟨(aml n).symm,λj hj=>by simp at hj⟩
 ·obtain⟨b,o,ha,hb,hc⟩:=h4 I;rw[ha];have J:=jh f n hf (x.2.map g);rw[aiz,<- h1] at J;refine⟨J,λj hj=> ?_⟩;rw[J] at hj;have u:j / n<x.2.length:=by
   rw[<- h1];exact Nat.div_lt_of_lt_mul (by rw[Nat.mul_comm];exact hj)
  have N:=alV j hn0;have hx:=adP u;have hj2:j=j / n * n+j % n:=by rw[Nat.mul_comm];exact(Nat.div_add_mod j n).symm
  have R:=h5 _ (akU u);have O:=(hc _ _ hx).2 (j % n);generalize x.2[j / n]=y at hx R O;rw[<- hg y R] at O;rw[hj2,flat_get f n hf _ _ _ N,aiK,hx];have hfl2:=hf (g y);have hv:=adP (show j % n<(f (g y)).length by omega);simp only[ahF,Option.bind_some];rw[hv,gY,<- al8];exact O _ hv
theorem Tf {w:θ} {x:gG×List Int} (h:(jq.slice (.int .u8) 1).In w x):iH w x.1 (x.2.map λn=>UInt8.ofNat n.toNat):=by
 obtain⟨⟨h1,h2,h3,h4⟩,h5⟩:=h;have h4:(x.2≠([]:List Int))->∃b o,x.1.a=some ⟨b,o,none⟩/\b<w.heap.size/\∀i (y:Int),x.2[i]? =some y->([Value.int .u8 y]:List Value).length=1/\∀j v,([Value.int .u8 y]:List Value)[j]? =some v->w.cell? ⟨b,o+i * 1+j,none⟩=some v:=h4;have h1:x.1.len=x.2.length:=h1;refine⟨by simpa using h1,?_,h2⟩;by_cases u:x.2=([]:List Int)
 ·rw[u] at h1 ⊢;simp only[amn] at h1;rw[h1]
  cases x.1.a with
  |none=>rfl
  |some a=>exact⟨rfl,λj hj=>by simp[bytesV] at hj⟩
 ·obtain⟨b,o,ha,hb,hc⟩:=h4 u;rw[ha];refine⟨by simp[bytesV,h1],λj hj=> ?_⟩;simp only[bytesV,aiz] at hj;have hy:=adP hj;have:=(hc j _ hy).2 0 _ rfl;rw[gY];simp only[aiC,akC] at this;rw[this];have hw:=wf_u8 (h5 _ (akU hj));simp only[bytesV,aiK,hy,ahF];congr 2;simp;omega
end Gp
end
section
namespace Gp
open Go
def rV {α β:Type} (enc:α->Value) (ev:β->Value) (w:θ) (r:Nat) (l:List (α×β)):Prop:=
 ∃es clock,w.heap[r]? =some (.map es clock)/\es.toList.map (λe=>(e.key,e.val))=(l.map λx=>(enc x.1,ev x.2))/\(es.toList.map (·.born)).Nodup/\∀e∈es.toList,e.born<clock
section
variable {α β:Type} {enc:α->Value} {ev:β->Value} {w w':θ} {r:Nat} {l:List (α×β)} {P:Program} {kt:TypeId}
theorem rV.fr {S:Nat->Prop} (h:rV enc ev w r l) (hf:ig w w' S) (hs:¬S r):rV enc ev w' r l:=by
 obtain⟨es,c,h1,h2,h3⟩:=h;exact⟨es,c,by rw[hf.same r (akE.1 h1).1 hs];exact h1,h2,h3⟩
theorem rV.ext (h:rV enc ev w r l) (hf:Ext w w'):rV enc ev w' r l:=h.fr (hf λ_=>False) (by simp)
theorem rV.lt (h:rV enc ev w r l):r<w.heap.size:=by
 obtain⟨es,c,h1,h2⟩:=h;exact(akE.1 h1).1
theorem rV.new (w:θ) (enc:α->Value) (ev:β->Value):rV enc ev (w.alloc (.map #[] 0)) w.heap.size []:=⟨#[],0,World.alloc_heap_new w _,rfl,by simp,by simp⟩
variable [DecidableEq α]
def mg:List (α×β)->α->Option β
 |[],_=>none
 |x::l,a=>if a=x.1 then some x.2 else mg l a
def CS:List (α×β)->α->β->List (α×β)
 |[],a,b=>[(a,b)]
 |x::l,a,b=>if a=x.1 then (a,b)::l else x::CS l a b
def BR:List (α×β)->α->List (α×β)
 |[],_=>[]
 |x::l,a=>if a=x.1 then l else x::BR l a
theorem Ce (l:List (α×β)) (a a':α) (b:β):mg (CS l a b) a'=if a'=a then some b else mg l a':=by
 induction l with
 |nil=>unfold CS mg;split<;>simp_all [mg]
 |cons x l ih=>
  unfold CS;by_cases h:a=x.1
  ·rw[adZ h];unfold mg;by_cases h':a'=a
   ·rw[adZ h',adZ h']
   ·rw[acZ h',acZ h',acZ (by rw[<- h];exact h')]
  ·rw[acZ h];unfold mg;by_cases h':a'=x.1
   ·rw[adZ h',adZ h',acZ (by rw[h'];exact λe=>h e.symm)]
   ·rw[acZ h',acZ h',ih]
theorem qV {l:List (α×β)} {a:α}:mg l a=none↔a∉l.map (·.1):=by
 induction l with
 |nil=>simp[mg]
 |cons x l ih=>
  unfold mg;by_cases h:a=x.1
  ·rw[adZ h];simp[h]
  ·rw[acZ h,ih];simp[h]
theorem Tj (l:List (α×β)) (a:α) (b:β):(CS l a b).map (·.1)=if a∈l.map (·.1) then l.map (·.1) else l.map (·.1)++[a]:=by
 induction l with
 |nil=>simp[CS]
 |cons x l ih=>
  unfold CS;by_cases h:a=x.1
  ·rw[adZ h];simp[h]
  ·rw[acZ h,akh,ih,akh];by_cases h':a∈l.map (·.1)
   ·rw[adZ h',adZ (alU _ h')]
   ·rw[acZ h',acZ (by simp only[agI,not_or];exact⟨h,h'⟩)];simp
theorem Pz {l:List (α×β)} (h:(l.map (·.1)).Nodup) (a:α) (b:β):((CS l a b).map (·.1)).Nodup:=by
 rw[Tj];split
 ·exact h
 ·rename_i hn;rw[amy];exact⟨h,by simp,λx hx y hy e=>by simp only[alk] at hy;subst hy;subst e;exact hn hx⟩
theorem SH (l:List (α×β)) (a:α):(BR l a).Sublist l:=by
 induction l with
 |nil=>exact List.Sublist.refl _
 |cons x l ih=>
  unfold BR;split
  ·exact List.sublist_cons_self _ _
  ·exact ih.cons_cons _
theorem Nq {l:List (α×β)} (h:(l.map (·.1)).Nodup) (a a':α):mg (BR l a) a'=if a'=a then none else mg l a':=by
 induction l with
 |nil=>unfold BR mg;split<;>rfl
 |cons x l ih=>
  rw[akh,amm] at h;unfold BR;by_cases hx:a=x.1
  ·rw[adZ hx];by_cases h':a'=a
   ·rw[adZ h',h',hx];exact qV.2 h.1
   ·rw[acZ h']
    conv=>rhs;unfold mg
    rw[acZ (by rw[<- hx];exact h')]
  ·rw[acZ hx];unfold mg;rw[ih h.2];by_cases h':a'=x.1
   ·rw[adZ h',adZ h',acZ (by rw[h'];exact λe=>hx e.symm)]
   ·rw[acZ h',acZ h']
theorem OA (hE:∀a b:α,Fz P 16 kt (enc a) (enc b)=some (decide (a=b))) (a:α) (b:β):∀(es:List MapEntry) (l:List (α×β)) (i:Nat),es.map (λe=>(e.key,e.val))=(l.map λx=>(enc x.1,ev x.2))->
  (mg l a=none/\uP P kt (enc a) es i=some none/\CS l a b=l++[(a,b)])\/
  ∃j v e,mg l a=some v/\uP P kt (enc a) es i=some (some (i+j,ev v))/\es[j]? =some e/\e.key=enc a/\
   (es.modify j λe=>{e with key:=enc a,val:=ev b}).map (λe=>(e.key,e.val))=(CS l a b).map λx=>(enc x.1,ev x.2):=by
 intro es
 induction es with
 |nil=>
  intro l i h
  cases l with
  |nil=>exact .inl ⟨rfl,rfl,rfl⟩
  |cons x l=>simp at h
 |cons e es ih=>
  intro l i h
  cases l with
  |nil=>simp at h
  |cons x l=>
   simp only[akh,amh,alX] at h;obtain⟨⟨h1,h2⟩,h3⟩:=h;unfold uP mg CS;rw[h1,hE];by_cases hx:a=x.1
   ·simp only[hx,acI,ajn];refine .inr ⟨0,x.2,e,rfl,by rw[h2,akC],rfl,h1,?_⟩;simp[List.modify,h3]
   ·simp only[hx,acR,aku];rcases ih l (i+1) h3 with ⟨g1,g2,g3⟩|⟨j,v,e',g1,g2,g3,g4,g5⟩
    ·exact .inl ⟨g1,g2,by rw[g3];rfl⟩
    ·refine .inr ⟨j+1,v,e',g1,by rw[g2];congr 3;omega,by simpa using g3,g4,?_⟩;simp only[List.modify_succ_cons,akh,g5,h1,h2]
theorem EL {k:Kind} (h:rV enc ev w r l) (hE:∀a b:α,Fz P 16 kt (enc a) (enc b)=some (decide (a=b))) (a:α) (hk:oJ P kt (enc a)=true) {z:Value} {K:k.T->Prop}
  (h0:mg l a=none->k.dec z K) (h1:∀b,mg l a=some b->k.dec (ev b) K):qF P kt k (some r) (enc a) z w K:=by
 obtain⟨es,c,g1,g2,_⟩:=h;refine⟨hk,.inr ⟨r,es,c,rfl,g1,?_⟩⟩
 cases hl:mg l a with
 |none=>
  cases l with
  |nil=>
   have:es.toList=[]:=by simpa using g2
   exact⟨none,by rw[this];rfl,h0 hl⟩
  |cons x l'=>
   rcases OA hE a x.2 es.toList _ 0 g2 with ⟨_,q2,_⟩|⟨j,v,e,q1,_⟩
   ·exact⟨_,q2,h0 hl⟩
   ·rw[hl] at q1;cases q1
 |some b=>
  rcases OA hE a b es.toList _ 0 g2 with ⟨q1,_,_⟩|⟨j,v,e,q1,q2,_⟩
  ·rw[hl] at q1;cases q1
  ·rw[hl] at q1;cases q1;exact⟨_,q2,h1 b hl⟩
theorem Q8 (es:List MapEntry) (j:Nat) (k v:Value):(es.modify j λe=>{e with key:=k,val:=v}).map (·.born)=es.map (·.born):=by
 induction es generalizing j with
 |nil=>simp
 |cons e es ih=>
  cases j with
  |zero=>simp[List.modify]
  |succ j=>rw[List.modify_succ_cons,akh,akh,ih]
theorem zJ (h:rV enc ev w r l) (hE:∀a b:α,Fz P 16 kt (enc a) (enc b)=some (decide (a=b))) (a:α) (b:β) (hk:oJ P kt (enc a)=true) {K:b_}
  (hK:∀w',rV enc ev w' r (CS l a b)->ig w w' (·=r)->w'.heap.size=w.heap.size->K w'):pq P kt (some r) (enc a) (ev b) w K:=by
 obtain⟨es,c,h1,h2,h3,h4⟩:=h;have u:=(akE.1 h1).1;rcases OA hE a b es.toList _ 0 h2 with ⟨_,q2,q3⟩|⟨j,v,e,q1,q2,q3,q4,q5⟩
 ·refine⟨hk,r,es,c,rfl,h1,none,q2,?_⟩;show K (w.putObj r (.map (es.push {key:=enc a,val:=ev b,born:=c}) (c+1)));refine hK _ ⟨es.push {key:=enc a,val:=ev b,born:=c},c+1,by simp[World.putObj,u],?_,?_,?_⟩ (ig.nG _ _ _) (by simp[World.putObj])
  ·rw[q3];simp[h2]
  ·rw[Array.toList_push,al4,amy];refine⟨h3,by simp,λx hx y hy e=> ?_⟩;obtain⟨e',he',rfl⟩:=alp.1 hx;have:=h4 e' he';simp at hy;omega
  ·intro e he;rw[Array.toList_push] at he;rcases alj.1 he with he|he
   ·have:=h4 e he;omega
   ·have:e={key:=enc a,val:=ev b,born:=c}:=by simpa using he
    rw[this];simp
 ·rw[ahn] at q2;refine⟨hk,r,es,c,rfl,h1,_,q2,⟨e,by rw[<- Array.getElem?_toList];exact q3,q4⟩,?_⟩;refine hK _ ⟨_,c,by simp[World.putObj,u];rfl,?_,?_,?_⟩ (ig.nG _ _ _) (by simp[World.putObj])
  ·rw[am9];exact q5
  ·rw[am9,Q8];exact h3
  ·intro e' he';have hm:e'.born∈(es.toList.map (·.born)):=by
    rw[<- Q8 es.toList j (enc a) (ev b),<- am9];exact List.mem_map_of_mem he'
   obtain⟨e'',he'',hb⟩:=alp.1 hm;rw[<- hb];exact h4 e'' he''
theorem ael (hE:∀a b:α,Fz P 16 kt (enc a) (enc b)=some (decide (a=b))) (a:α):∀(es:List MapEntry) (l:List (α×β)) (i:Nat),es.map (λe=>(e.key,e.val))=(l.map λx=>(enc x.1,ev x.2))->
  (uP P kt (enc a) es i=some none/\BR l a=l)\/
  ∃j v,j<es.length/\uP P kt (enc a) es i=some (some (i+j,v))/\(es.eraseIdx j).map (λe=>(e.key,e.val))=(BR l a).map λx=>(enc x.1,ev x.2):=by
 intro es
 induction es with
 |nil=>
  intro l i h
  cases l with
  |nil=>exact .inl ⟨rfl,rfl⟩
  |cons x l=>simp at h
 |cons e es ih=>
  intro l i h
  cases l with
  |nil=>simp at h
  |cons x l=>
   simp only[akh,amh,alX] at h;obtain⟨⟨h1,h2⟩,h3⟩:=h;unfold uP BR;rw[h1,hE];by_cases hx:a=x.1
   ·simp only[hx,acI,ajn];exact .inr ⟨0,e.val,by simp,by rw[akC],by simpa using h3⟩
   ·simp only[hx,acR,aku];rcases ih l (i+1) h3 with ⟨g1,g2⟩|⟨j,v,g1,g2,g3⟩
    ·exact .inl ⟨g1,by rw[g2]⟩
    ·refine .inr ⟨j+1,v,by simp;omega,by rw[g2];congr 3;omega,?_⟩;simp only[List.eraseIdx_cons_succ,akh,g3,h1,h2]
theorem TI (h:rV enc ev w r l) (hE:∀a b:α,Fz P 16 kt (enc a) (enc b)=some (decide (a=b))) (a:α) (hk:oJ P kt (enc a)=true) {K:b_}
  (hK:∀w',rV enc ev w' r (BR l a)->ig w w' (·=r)->w'.heap.size=w.heap.size->K w'):FB P kt (some r) (enc a) w K:=by
 obtain⟨es,c,h1,h2,h3,h4⟩:=h;have I:=(akE.1 h1).1;rcases ael hE a es.toList _ 0 h2 with ⟨q1,q2⟩|⟨j,v,q0,q1,q2⟩
 ·refine⟨hk,.inr ⟨r,es,c,rfl,h1,none,q1,?_⟩⟩;refine hK _ ⟨es,c,by simp[World.putObj,I],?_,h3,h4⟩ (ig.nG _ _ _) (by simp[World.putObj]);rw[q2];exact h2
 ·rw[ahn] at q1;refine⟨hk,.inr ⟨r,es,c,rfl,h1,_,q1,?_⟩⟩;have u:(es.eraseIdxIfInBounds j).toList.Sublist es.toList:=by rw[Array.toList_eraseIdxIfInBounds];exact List.eraseIdx_sublist _ _
  refine hK _ ⟨es.eraseIdxIfInBounds j,c,by simp[World.putObj,I],?_,h3.sublist (u.map _),λe he=>h4 e (u.mem he)⟩ (ig.nG _ _ _) (by simp[World.putObj]);rw[Array.toList_eraseIdxIfInBounds];exact q2
end
end Gp
end
section
namespace Gp
open Go
def spl (L:List Value) (o:Nat) (vs:List Value):List Value:=L.take o++vs++L.drop (o+vs.length)
theorem KI {A B C vs:List Value} (h:B.length=vs.length):spl (A++(B++C)) A.length vs=A++(vs++C):=by
 unfold spl;rw[List.take_left,<- h,<- List.drop_drop,List.drop_left,List.drop_left];simp only[aky]
theorem Bh {n m o dl dc:Nat} {w:θ} {b:Nat} {src:gG} {L vs:List Value} {K:Int->b_} (hm:Nat.min src.len dl=m) (hc:oL w src.a (m * n) vs) (hr:Row w b L) (hl:o+vs.length<=L.length)
  (h:∀v∈vs,iP v=true) (hK:∀w',Row w' b (spl L o vs)->ig w w' (·=b)->K (m:Nat) w'):Bg n ⟨some ⟨b,o,none⟩,dl,dc⟩ src w K:=by
 refine⟨vs,by simp only[hm];exact hc,?_,h,?_⟩
 ·rintro a ha
  cases ha
  intro j hj;rw[gY,hr.cell];exact⟨by simp;omega,hr.frozen _⟩
 ·obtain⟨r,f⟩:=xJ vs w L o 0 hr (by omega);simp only[hm];refine hK _ ?_ (f (·=b) rfl);simpa [spl] using r
theorem PY {w:θ} {b o n:Nat} {A B C:List Value} (hr:Row w b (A++(B++C))) (ha:A.length=o) (hb:B.length=n):oL w (some ⟨b,o,none⟩) n B:=by
 refine⟨hb,λj hj=> ?_⟩;rw[gY,hr.cell,alh (by omega),alT (by omega)];congr 1;omega
theorem Tt {e:TypeId} {n bytes:Nat} {z old:List Value} {s:gG} {m:Nat} {w:θ} {K:gG->b_} (h1:s.cap<s.len+m) (h2:(s.len+m) * bytes<=2^46) (h3:s.len+m<=2^46)
  (hc:oL w s.a (s.len * n) old)
  (hK:∀(c:Nat) w',s.len+m<=c->Row w' w.heap.size (old++(iw z m++iw z (c - (s.len+m))))->Ext w w'->w'.heap.size=w.heap.size+1->K ⟨some ⟨w.heap.size,0,none⟩,s.len+m,c⟩ w'):XM e n bytes z s (m:Int) w K:=by
 have hmb:m * bytes<=(s.len+m) * bytes:=amw _ (by omega);have hz:((m * bytes:Nat):Int)<=2^46:=by omega
 rw[Int.natCast_mul] at hz;refine⟨by omega,hz,by omega,?_⟩;rw[abu];refine .inr ⟨h1,h2,by omega,old,hc,λc h4 h5=>hK c _ h4 ?_ ?_ ?_⟩
 ·rw[<- aky];exact Row.new w.drew _ e
 ·exact λS=>(ig.drew w S).trans (ig.alloc w.drew _ S) λ_ _ e=>e
 ·simp
theorem WC {P:Program} {f:FuncId} {fn:Func} {tS tR e:TypeId} (hf:P.funcs[f]? =some fn) (h:(fn.name=="runtime.NumGoroutine")=false) (hb:fn.body.isNone=true)
  (hn:Extern.findNext fn=none) (he:Extern.find fn=some (Extern.SlicesOverlaps.overlaps #[tS,tS] #[tR])) (ht:P.underlying tS=some (.slice e)) (hi:(P.info? e).isSome=true)
  {w:θ} {b c:Nat} {L M:List Value} {o la ca lb cb:Nat} (hr:Row w b L) (hr':Row w c M) (u:b≠c) (hM:M≠[]) {K:Value->b_} (hK:K (.bool false) w):
  ajl P f [Value.slice (some ⟨b,0,none⟩) la ca,Value.slice (some ⟨c,o,none⟩) lb cb] w K:=by
 obtain⟨i,hi⟩:=amP.1 hi;refine⟨_,_,?_,hK⟩;obtain⟨tA,hA⟩:=id hr;obtain⟨tB,hB⟩:=id hr';have I:=Lib.run_overlaps_apart (P:=P) w tS tR e ht i.size (λw=>by simp[Go.sizeOf,run_typeInfo hi]) ⟨b,0,none⟩ ⟨c,o,none⟩ la ca lb cb u tA tB L.length M.length
  (by simp[World.shape?,hA]) (by simp[World.shape?,hB]) (by simpa using hM) (hr.frozen 0) (hr.frozen _)
 rw[run_callFunc_extern hf h hb hn he];simp only[I];rfl
section
variable {α:Type} {n:Nat} {f:α->List Value}
theorem ab2 {xs:List α} {i:Nat} {x:α} (hx:xs[i]? =some x):xs.flatMap f=(xs.take i).flatMap f++(f x++(xs.drop (i+1)).flatMap f):=by
 obtain⟨h,rfl⟩:=afg.1 hx
 conv=>lhs;rw[<- aks i xs,amc h]
 rw[alR,alx]
theorem Y8 {xs:List α} {i:Nat}:xs.flatMap f=(xs.take i).flatMap f++(xs.drop i).flatMap f:=by
 conv=>lhs;rw[<- aks i xs]
 rw[alR]
end
end Gp
end
section
namespace Gp
open Go
def ItF {α β:Type} (enc:α->Value) (ev:β->Value) (w:θ) (q r:Nat) (l todo:List (α×β)):Prop:=
 ∃seen es clock,w.heap[q]? =some (.mapIter (some r) clock seen clock)/\w.heap[r]? =some (.map es clock)/\
  es.toList.map (λe=>(e.key,e.val))=(l.map λx=>(enc x.1,ev x.2))/\(es.toList.map (·.born)).Nodup/\(∀e∈es.toList,e.born<clock)/\
  (leftOf es seen).toList.map (λe=>(e.key,e.val))=todo.map λx=>(enc x.1,ev x.2)
section
variable {α β:Type} {enc:α->Value} {ev:β->Value} {w w':θ} {q r:Nat} {l todo:List (α×β)} {P:Program} {kt:TypeId}
theorem ItF.map (h:ItF enc ev w q r l todo):rV enc ev w r l:=by
 obtain⟨seen,es,c,_,h2,h3,h4,h5,_⟩:=h;exact⟨es,c,h2,h3,h4,h5⟩
end
end Gp
namespace Gp
open Go
def ajf (w:θ) (q r:Nat):Nat:=
 match w.heap[q]?,w.heap[r]? with
 |some (.mapIter _ _ seen _),some (.map es _)=>(leftOf es seen).size
 |_,_=>0
theorem ItF.left {α β:Type} {enc:α->Value} {ev:β->Value} {w:θ} {q r:Nat} {l todo:List (α×β)} (h:ItF enc ev w q r l todo):ajf w q r=todo.length:=by
 obtain⟨seen,es,c,g1,g2,_,_,_,g6⟩:=h;unfold ajf;rw[g1,g2];have:=congrArg List.length g6;simpa using this
end Gp
end
section
namespace Gp
open Go
def fill:Code->Ann->Ann
 | .seq a b,an=>match an with
  | .leaf=> .seq (fill a .leaf) (fill b .leaf)
  | .seq x y=> .seq (fill a x) (fill b y)
  | .join st x y=> .join st (fill a x) (fill b y)
  |x=>x
 | .cond _ a b,an=>match an with
  | .leaf=> .cond (fill a .leaf) (fill b .leaf)
  | .cond x y=> .cond (fill a x) (fill b y)
  |x=>x
 | .block _ a,an=>match an with
  | .leaf=> .blk (fill a .leaf)
  | .blk x=> .blk (fill a x)
  |x=>x
 | .loop a,an=>match an with
  | .loop st x=> .loop st (fill a x)
  |x=>x
 | .scope a,an=>fill a an
 | .rangeFunc _ _ a b,an=>match an with
  | .rng ks x y=> .rng ks (fill a x) (fill b y)
  |x=>x
 |_,an=>an
def ϔ:(ks:List Kind)->Tv ks->Tv ks->Prop
 |[],K,K'=>∀w,K w->K' w
 |k::ks,K,K'=>∀x:k.T,ϔ ks (K x) (K' x)
theorem Uo {rest:List Kind}:∀(ks:List Kind) {K K':Tv (ks++rest)} {φ ψ:List Value->Tv rest->Prop},ϔ (ks++rest) K K'->
  (∀vs c c',ϔ rest c c'->φ vs c->ψ vs c')->ϰ ks rest K φ->ϰ ks rest K' ψ
 |[],_,_,_,_,h,hp,hk=>hp _ _ _ h hk
 |_::ks,_,_,_,_,h,hp,⟨x,hk⟩=>⟨x,Uo ks (h x) (λ_ _ _ hc hh=>hp _ _ _ hc hh) hk⟩
theorem P7:∀(sh:List Shape) {K K':Tv (flat sh)} {φ:List Value->Prop} {w:θ},ϔ (flat sh) K K'->ϱ sh K φ w->ϱ sh K' φ w
 |[],_,_,_,_,h,hk=>⟨hk.1,h _ hk.2⟩
 | .one _::sh,_,_,_,_,h,⟨x,hk⟩=>⟨x,P7 sh (h x) hk⟩
 | .agg ks::sh,_,_,_,_,h,hk=>Uo ks h (λ_ _ _ hc hh=>P7 sh hc hh) hk
def gI (P:Program) (f:FuncId) (args:List Value) (sh:List Shape) (w:θ) (K:Tv (flat sh)):Prop:=
 Calls P f ⟨args⟩ w λe w'=>ϱ sh K (λus=>e= .returned (ϐ us)) w'
theorem gI.mono {P:Program} {f:FuncId} {args:List Value} {sh:List Shape} {w:θ} {K K':Tv (flat sh)} (h:gI P f args sh w K) (hk:ϔ (flat sh) K K'):gI P f args sh w K':=
 Calls.mono h λ_ _ hh=>P7 sh hk hh
def akP (P:Program) (fn:Func) (sh:List Shape) (an:Ann) (args:List Value) (w:θ) (K:Tv (flat sh)):Prop:=
 match fn.body with
 |some c=>cond (Nat.ble args.length fn.ntmps) (den P fn.ntmps c none (fill c an) (PI 0 args) [] w (ak8 P fn.results.toList sh K)) False
 |none=>False
@[reducible] def gV (A B:Prop):Prop:=B->A
theorem okF {P:Program} (hP:XR P) {f:FuncId} {fn:Func} (hf:P.funcs[f]? =some fn) {args:List Value} {sh:List Shape} {w:θ} {K:Tv (flat sh)} {S:Prop} (an:Ann)
  (e:akP P fn sh an args w K=S):gV (gI P f args sh w K) S:=by
 intro h;rw[<- e] at h;unfold akP at h
 cases hb:fn.body with
 |none=>rw[hb] at h;exact h.elim
 |some c=>
  rw[hb] at h;dsimp only at h
  cases hl:Nat.ble args.length fn.ntmps with
  |false=>rw[hl] at h;exact h.elim
  |true=>
   rw[hl] at h;exact agd hP hf hb rfl (rs:=fn.results.toList) rfl sh K (fill c an) args hl w h
@[reducible] def Pt (p:gu) (K:Addr->Prop):Prop:=∃a,p=some a/\K a
theorem jS {a:Addr} {K:Addr->Prop}:Pt (some a) K↔K a:=
 ⟨λ⟨_,h,k⟩=>by cases h;exact k,λk=>⟨a,rfl,k⟩⟩
def WB:List Value->θ->Addr->Nat->Prop->Prop
 |[],_,_,_,R=>R
 |v::vs,w,a,i,R=>w.cell? (a.add i)=some v/\WB vs w a (i+1) R
theorem iL (v:Value) (vs:List Value) (w:θ) (a:Addr) (i:Nat) (R:Prop):WB (v::vs) w a i R↔(w.cell? (a.add i)=some v/\WB vs w a (i+1) R):=Iff.rfl
theorem iT (w:θ) (a:Addr) (i:Nat) (R:Prop):WB [] w a i R↔R:=Iff.rfl
theorem sx:(∀(w:θ) (a:Addr) (i:Nat) (K:b_),iE [] w a i K=K w)/\(∀(a:Addr),(some a).isNone=false)/\((none:gu).isNone=true)/\
  (∀(a b:Prop),cond false a b=b)/\(∀(a b:Prop),cond true a b=a)/\(∀(a:Addr) (P:Addr->Prop),(∃x,some a=some x/\P x)↔P a)/\
  (∀(k:Kind) (w:θ) (a:Addr) (K:k.T->Prop),Ld k w a K↔Ϗ k (w.cell? a) K)/\
  (∀(a:Value) (l:List Value),(a::l)[0]? =some a)/\(∀(a:Value) (l:List Value) (i:Nat),(a::l)[i+1]? =l[i]?)/\
  (∀(k:Kind) (v:Value) (K:k.T->Prop),Ϗ k (some v) K=k.dec v K)/\(∀(a:gu) (l c:Nat) (K:gG->Prop),Kind.dec .slice (.slice a l c) K=K ⟨a,l,c⟩)/\
  (∀(k:IntKind) (n:Int) (K:Int->Prop),Kind.dec (.int k) (.int k n) K=K n)/\(∀(b:Bool) (K:Bool->Prop),Kind.dec .bool (.bool b) K=K b)/\
  (∀(a:gu) (K:gu->Prop),Kind.dec .ptr (.pointer a) K=K a)/\(∀(b:ByteArray) (K:ByteArray->Prop),Kind.dec .str (.string b) K=K b)/\
  (∀(r:Option Nat) (K:Option Nat->Prop),Kind.dec .map (.map r) K=K r)/\(∀(v:Value) (K:Value->Prop),Kind.dec .any v K=K v)/\
  (∀(a:Addr) (l c size:Nat) (i:Int) (K:Addr->Prop),iK ⟨some a,l,c⟩ size i K↔(0<=i/\i<(l:Int)/\K (a.add (i.toNat * size))))/\
  (∀(b o n:Nat),(⟨b,o,none⟩:Addr).add n=⟨b,o+n,none⟩)/\(∀n:Nat,0+n=n)/\(∀n:Nat,n+0=n):=
 ⟨YI,λ_=>rfl,rfl,λ_ _=>rfl,λ_ _=>rfl,xA,XP,λ_ _=>rfl,λ_ _ _=>rfl,gJ,h_,gK,jr,pR,SG,Dy,Kv,yg,gY,ahn,λ_=>rfl⟩
def MK (P:Program) (x:Value) (name:String) (args:List Value) (sh:List Shape) (w:θ) (K:Tv (flat sh)):Prop:=
 match x with
 | .iface t v=>match P.underlying t,Zt P t name with
  |some d,some f=>cond (!Zg d && o9 P f) (gI P f (v::args) sh w K) False
  |_,_=>False
 |_=>False
def AsT (t:TypeId) (x:Value) (Kt:Value->Prop) (Kf:Prop):Prop:=
 match x with
 | .iface t' v=>cond (Nat.beq t' t) (Kt v) Kf
 | .nilIface=>Kf
 |_=>False
def StA (n:Nat) (v:Value) (w:θ) (a:Addr) (K:b_):Prop:=
 match v with
 | .agg cs=>cond (Nat.beq cs.toList.length n) (iE cs.toList w a 0 K) False
 |_=>False
def IfB (v:Value) (K:Bool->Prop):Prop:=
 match v with
 | .bool b=>K b
 |_=>False
end Gp
end
