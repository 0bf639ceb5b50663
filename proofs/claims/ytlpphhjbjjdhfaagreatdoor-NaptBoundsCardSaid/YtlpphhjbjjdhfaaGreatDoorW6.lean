import Derived.Test.YtlpphhjbjjdhfaaGreatDoorW5
import Derived.Test.YtlpphhjbjjdhfaaGreatDoorW3
import Derived.Test.YtlpphhjbjjdhfaaGreatDoorW2
set_option maxRecDepth 100000
section
namespace Go.Proofs
open Gp Gp.V4
theorem ady {e:TypeId} {w:θ} {x:fU} {m:List UInt8} (hx:iD w x m) (hl:m.length<=2^46) {K:fU->b_}
  (hK:∀r w',Buf w' r (bytesV m)->(r.a=none↔x.a=none)->Ext w w'->(∀b,fU.at r b->w.heap.size<=b)->K r w'):
  (bif (Option.isNone x.a) then K ⟨none,0,0⟩ w else Al w (.cells ⟨[]⟩ e) λa3 w2=>mG e 1 1 [(Value.int .u8 0)] ⟨(some a3),0,0⟩ x w2 K):=by
 cases u:x.a with
 |none=>
  simp only[amu,aaU];have:=hx.empty u;subst this;exact hK _ _ Buf.nil (by simp[u]) (Ext.refl _) λb ⟨o,h⟩=>by cases h
 |some a=>
  simp only[al5,aaT];refine gy λb w2 r2 e2 _ f2=> ?_;have hx2:=hx.ext f2;refine jv (l:=[]) ⟨rfl,.inr ⟨b,[],rfl,rfl,by simpa [bytesV] using r2⟩⟩ hx2 (by simpa using hl) λs' w' h1 h2 h3 h4=> ?_;refine hK _ _ (by simpa using h1) (by rw[u];exact⟨λh=>by have:=(h4 h).2;simp at this,λh=>by simp at h⟩) (gV.new (Ext.fr f2 h2) ?_) (λc hc=> ?_)
  ·rintro y hy ⟨o,e⟩
   cases e;omega
  ·rcases h3 c hc with ⟨o,e⟩|h
   ·cases e;omega
   ·have:=(f2 λ_=>False).size;omega
theorem nR {w:θ} {x:fU} {m:List UInt8} (hx:iD w x m) (hl:m.length<=2^46):
  g_ x w λr w'=>Buf w' r (bytesV m)/\(r.a=none↔x.a=none)/\Ext w w'/\∀b,fU.at r b->w.heap.size<=b:=by
 apply CS;exact ady (K:=λr w'=>Buf w' r (bytesV m)/\(r.a=none↔x.a=none)/\Ext w w'/\∀b,fU.at r b->w.heap.size<=b) hx hl λr w' h1 h2 h3 h4=>⟨h1,h2,h3,h4⟩
theorem zG (k:Int) (w:θ):Fg k w λr w'=>r=decide (kV k)/\w'=w:=by
 apply Ϭ;by_cases h1:k>=1
 ·by_cases h2:k<=4
  ·have:kV k:=⟨h1,h2⟩;simp[h1,h2,this]
  ·have:¬kV k:=λh=>h2 h.2;simp[h1,h2,this]
 ·have:¬kV k:=λh=>h1 h.1;simp[h1,this]
theorem akC {n:Int} {i:Nat} (hi:i<=7) (hn:0<=n):jE .i64 n (ο.wrap (8 * (i:Int)))=((n.toNat / 256^i:Nat):Int):=by
 rw[Α];unfold jE;have e:(2:Int)^(min ((8:Int) * (i:Int)).toNat (IntKind.bits .i64))=((256^i:Nat):Int):=by
  have:i=0\/i=1\/i=2\/i=3\/i=4\/i=5\/i=6\/i=7:=by omega
  rcases this with rfl|rfl|rfl|rfl|rfl|rfl|rfl|rfl<;>decide
 rw[e,amq _ (Int.natCast_nonneg _),amr,Int.toNat_of_nonneg hn]
theorem agB {n k:Int} (hk:kV k) (hn:0<=n):(jE .i64 n (ο.wrap (8 * k))==0)=decide (n<256^k.toNat):=by
 obtain⟨h1,h2⟩:=hk;obtain⟨m,rfl⟩:∃m:Nat,k=(m:Int):=⟨k.toNat,by omega⟩;rw[akC (by omega) hn];have hp:0<256^m:=Nat.pow_pos (by omega);obtain⟨x,rfl⟩:∃x:Nat,n=(x:Int):=⟨n.toNat,by omega⟩;have e:((256:Int)^(m:Int).toNat)=((256^m:Nat):Int):=by simp
 rw[e];simp only[ab3];by_cases h:x<256^m
 ·have:x / 256^m=0:=Nat.div_eq_of_lt h;have h':((x:Int)<((256^m:Nat):Int)):=by omega
  rw[this];simp only[h',ace];rfl
 ·have:1<=x / 256^m:=(Nat.le_div_iff_mul_le hp).2 (by omega);have h':¬((x:Int)<((256^m:Nat):Int)):=by omega
  simp only[h',acQ,ama,ne_eq];omega
theorem rQ (n k:Int) (w:θ):kW n k w λr w'=>r=decide (jc n k)/\w'=w:=by
 apply abS;refine cmS0 (zG k w) ?_;rintro r w1 ⟨rfl,rfl⟩;by_cases hk:kV k
 ·by_cases hn:n>=0
  ·simp only[hk,hn,ace,aaU];refine⟨by have:=hk.1;have:=hk.2;rw[Α];omega,?_,by trivial⟩;rw[agB hk hn];simp[jc,hk,hn]
  ·simp only[hk,hn,ace,acQ,aaU,aaT];have:¬jc n k:=λh=>hn h.2.1;exact⟨by simp[this],by trivial⟩
 ·simp only[hk,acQ,aaT];exact⟨by simp[jc,hk],by trivial⟩
def yB (l:List UInt8):List (zI [.one (.int .u8)]):=l.map λb=>((b.toNat:Int),())
theorem acn (l:List UInt8) (i:Nat):(yB l)[i]? =(l[i]?).map λb=>((b.toNat:Int),()):=by simp[yB]
theorem Ym:∀(k n i:Nat),i<k->(jY k n)[i]? =some (UInt8.ofNat (n / 256^(k - 1 - i)))
 |0,_,_,h=>by omega
 |k+1,n,0,_=>by simp[jY]
 |k+1,n,i+1,h=>by
  simp only[jY,aeR];rw[Ym k n i (by omega),show k+1 - 1 - (i+1)=k - 1 - i by omega]
theorem Ϗ {n:Int} {k f0 f1:Nat} (hk:k<=4) (hn:0<=n):
  pX υ [.one (.int .u8)] (Value.func (.func V7) #[] #[(Value.pointer (some ⟨f0,0,none⟩)),(Value.pointer (some ⟨f1,0,none⟩))])
   (λW=>Row W f0 [Β (k:Int)]/\Row W f1 [Β n]) (yB (jY k n.toNat)):=by
 refine⟨by kernel_rfl,λl Q D hC hQ hD hy w h0=> ?_⟩;refine Calls.mono (Uz (a0:= .func (.yield l) #[] #[]) (f0:=⟨f0,0,none⟩) (f1:=⟨f1,0,none⟩) (K:=λw'=>Q (yB (jY k n.toNat)).length w'\/D w') ?_) (λe w' h=>h);have hlen:(yB (jY k n.toNat)).length=k:=by simp[yB,iT]
 obtain⟨r0,_⟩:=hC _ _ h0;simp only[sx,r0.cell];rw[hlen];refine gI (λst W=>∃i:Nat,i<=k/\st.1=(k:Int) - 1 - i/\Q i W) (λst _=>(st.1+1).toNat) ⟨0,by omega,by rw[Α];simp,h0⟩ ?_;rintro⟨x,⟨⟩⟩ W ⟨i,hi,hx,hq⟩ next u
 simp only at hx;by_cases I:i<k
 ·have hx0:x>=0:=by omega
  obtain⟨_,r1⟩:=hC _ _ hq;simp only[sx,hx0,ace,r1.cell];refine⟨by rw[Α];omega,?_⟩;obtain⟨j,rfl⟩:∃j:Nat,x=(j:Int):=⟨x.toNat,by omega⟩;rw[akC (by omega) hn];have hj:j=k - 1 - i:=by omega
  have e:IntKind.u8.wrap ((n.toNat / 256^j:Nat):Int)=(((UInt8.ofNat (n.toNat / 256^j)).toNat:Nat):Int):=by
   rw[IntKind.wrap_u8];simp
  rw[e];refine jW (hy i ((((UInt8.ofNat (n.toNat / 256^j)).toNat:Nat):Int),()) W _ ?_ hq ?_ ?_)
  ·rw[acn,Ym _ _ _ I,<- hj];rfl
  ·intro W' hq';refine⟨true,rfl,?_⟩;simp only[adp,aaT];rw[Α];exact u _ _ ⟨i+1,by omega,by simp only;omega,hq'⟩ (by simp only;omega)
  ·intro W' hd;refine⟨false,rfl,?_⟩;simp only[afa,aaU];exact .inr hd
 ·have hx0:¬x>=0:=by omega
  simp only[hx0,acQ,aaT];have:i=k:=by omega
  subst this;exact .inl hq
def RQ (w0 w:θ) (v:Value) (l:List UInt8):Prop:=
 ∃C,pX υ [.one (.int .u8)] v C (yB l)/\∀W S,gV w W S->(∀b,w0.heap.size<=b->b<w.heap.size->¬S b)->C W
theorem Xz {n k:Int} (hk:kV k) (hn:0<=n) (w:θ):CX n k w λv w'=>Ext w w'/\RQ w w' v (jY k.toNat n.toNat):=by
 apply Y8;refine⟨rfl,gy λa w1 r1 e1 z1 f1=>⟨rfl,gy λb w2 r2 e2 z2 f2=> ?_⟩⟩;have r1':=r1.ext f2;obtain⟨m,rfl⟩:∃m:Nat,k=(m:Int):=⟨k.toNat,by have:=hk.1;omega⟩;refine⟨f1.trans f2,_,Ϗ (by have:=hk.2;omega) hn,λW S hf hs=>⟨r2.fr hf (hs _ ?_ ?_),r1'.fr hf (hs _ ?_ ?_)⟩⟩<;>omega
theorem Fb {w0 w:θ} {s:fU} {v:Value} {l m:List UInt8} (hs:Buf w s (bytesV l)) (hv:RQ w0 w v m) (hd:∀b,fU.at s b->¬(w0.heap.size<=b/\b<w.heap.size)) (hl:l.length+m.length<=2^46):
  jC s v w λr w'=>Buf w' r (bytesV (l++m))/\gV w w' (fU.at s)/\(∀b,fU.at r b->fU.at s b\/w.heap.size<=b)/\(r.a=none->l++m=[]/\s.a=none):=by
 obtain⟨C,hi,hC⟩:=hv;apply pW;refine⟨rfl,gy λa w1 r1 e1 z1 f1=> ?_⟩;have hlen:(yB m).length=m.length:=by simp[yB]
 have u:∀b,fU.at s b->b<w.heap.size:=λb hb=>hs.lt hb;refine vC hi (λi W=>∃t:fU,Row W a [Δ t]/\Buf W t (bytesV (l++m.take i))/\gV w W (fU.at s)/\(∀b,fU.at t b->fU.at s b\/(w.heap.size<=b/\b≠a/\b≠kT none w1/\b≠w1.heap.size))/\(t.a=none->l++m.take i=[]/\s.a=none)/\kT none w1<W.heap.size)
  (λ_ _=>False) (by simp) ?_ ?_ ?_ (by intro e W W' h;exact h.elim) (by intro e W h;exact h.elim) ?_ ?_ (by intro W h;exact h.elim) (by intro id W h;exact h.elim)
 ·intro w2 f2 z2;refine⟨s,r1.ext f2,by simpa using (hs.ext f1).ext f2,(f1.trans f2) _,λb hb=> .inl hb,?_,by omega⟩;simp only[List.take_zero,List.append_nil];intro ha;obtain⟨_,⟨_,h2,_⟩|⟨c,pad,h2,_⟩⟩:=hs
  ·exact⟨by simpa [bytesV] using h2,ha⟩
  ·rw[ha] at h2;cases h2
 ·rintro i W ⟨t,_,_,hf,_⟩;exact hC W _ hf λb h1 h2 h3=>hd b h3 ⟨h1,h2⟩
 ·rintro i W W' ⟨t,h1,h2,h3,h4,h5,h6⟩ hf;have J:kT none w1=w1.heap.size+1:=rfl;refine⟨t,h1.fr hf (by omega),h2.fr hf λb hb e=> ?_,h3.trans hf (λb hb e=>by omega),h4,h5,by have:=hf.size;omega⟩;rcases h4 b hb with h|h
  ·have:=u b h;omega
  ·omega
 ·intro i x W Kb hx ⟨t,h1,h2,h3,h4,h5,h6⟩ hlt I _;refine⟨rfl,?_⟩;have J:kT none w1=w1.heap.size+1:=rfl;rw[acn] at hx
  cases hb:m[i]? with
  |none=>rw[hb] at hx;simp at hx
  |some y=>
  rw[hb] at hx;simp only[ag4,agP] at hx;subst hx;have fb:=gV.gu W (kT none w1);have h1':=h1.fr fb (by omega);have h2':Buf (gu W (kT none w1)) t (bytesV (l++m.take i)):=h2.fr fb λb hb e=>by
   rcases h4 b hb with h|h
   ·have:=u b h;omega
   ·omega
  simp only[sx,h1'.cell];have N:i<m.length:=(aeK.1 hb).1;refine gy λc w3 r3 e3 z3 f3=> ?_;have hz3:w3.heap.size=W.heap.size+1:=by rw[z3,e3];simp[gu]
  have hx3:iD w3 ⟨some ⟨c,0,none⟩,1,1⟩ [y]:= .iG (iD.row (l:=[y]) (by simpa [bytesV] using r3));have h2'':=h2'.ext f3;refine jv h2'' hx3 (by simp;omega) λs' w4 b4 f4 p4 n4=> ?_;have O:¬fU.at t a:=λh=>by
   rcases h4 a h with h|h
   ·have:=u a h;omega
   ·exact h.2.1 rfl
  have h1'':=(h1'.ext f3).fr f4 O;refine gY h1'' rfl (by simp) λw5 r5 f5 z5=> ?_;simp only[af7] at r5;have hbz:(gu W (kT none w1)).heap.size=W.heap.size:=by simp[gu]
  have R:∀b,fU.at s' b->b≠a:=λb hb e=>by
   rcases p4 b hb with h|h
   ·exact O (e ▸ h)
   ·have:=h1.lt;omega
  refine I w5 (λb=>fU.at t b\/b=a) ?_ ?_ ⟨s',r5,?_,?_,?_,?_,?_⟩
  ·exact((f3 _).trans (f4.mono λb h=> .inl h) λ_ _ e=>e).trans (f5 (λb=>fU.at t b\/b=a) (.inr rfl)) λ_ _ e=>e
  ·rintro b hb1 hb2 (h|h)
   ·rcases h4 b h with h|h
    ·have:=u b h;omega
    ·rcases Nat.lt_or_ge b (kT none w1) with hx|hx<;>omega
   ·omega
  ·have e:l++m.take (i+1)=l++m.take i++[y]:=by
    rw[aj3 N];have:m[i]=y:=by rw[ade N] at hb;simpa using hb
    simp[this]
   rw[e];exact b4.fr (f5 (·=a) rfl) λb hb e=>R b hb e
  ·refine((h3.trans fb λb hb e=>by omega).ext f3).trans (S':=λb=>fU.at t b\/b=a) ((f4.mono λb h=> .inl h).trans (f5 (λb=>fU.at t b\/b=a) (.inr rfl)) λ_ _ e=>e) ?_;rintro b hb (h|h)
   ·rcases h4 b h with h|h
    ·exact h
    ·omega
   ·omega
  ·intro b hb;rcases p4 b hb with h|h
   ·exact h4 b h
   ·refine .inr ⟨by have:=h3.size;omega,R b hb,?_,?_⟩<;>omega
  ·intro ha;obtain⟨h1,h2⟩:=n4 ha;simp at h1
  ·have:=f4.size;omega
 ·rintro W ⟨t,h1,h2,h3,h4,h5,h6⟩ hm;have J:kT none w1=w1.heap.size+1:=rfl;simp only[sx,h1.cell];rw[hlen,akY] at h2 h5;refine⟨hm rfl,?_,?_,?_,h5⟩
  ·exact h2.fr (gV.mF _ _ _) λb hb e=>by
    rcases h4 b hb with h|h
    ·have:=u b h;omega
    ·omega
  ·exact h3.trans (gV.mF _ _ _) λb hb e=>by omega
  ·intro b hb;rcases h4 b hb with h|h
   ·exact .inl h
   ·exact .inr h.1
def lU (l:List UInt8) (n k:Int):List UInt8:=if jc n k then l++jY k.toNat n.toNat else l
theorem zT {w:θ} {s:fU} {l:List UInt8} (hs:iD w s l) (hl:l.length+4<=2^46) (n k:Int):
  ou s n k w λr w'=>Buf w' r (bytesV (lU l n k))/\Ext w w'/\(∀b,fU.at r b->w.heap.size<=b):=by
 apply ad6;refine cmS2 (nR hs (by omega)) ?_;rintro r w1 ⟨b1,_,f1,n1⟩;refine cmS0 (rQ n k w1) ?_;rintro _ _ ⟨rfl,rfl⟩;by_cases hf:jc n k
 ·simp only[hf,ace,adp,aaT];refine cmS4 (Xz hf.1 hf.2.1 _) ?_;rintro v w2 ⟨f2,hv⟩;have hk:=hf.1;refine cmS2 (Fb (b1.ext f2) hv (λb hb h=>by have:=b1.lt hb;omega) (by rw[iT];have:=hk.2;omega)) ?_;rintro r' w3 ⟨b3,f3,n3,_⟩;refine⟨by simpa [lU,hf] using b3,(f1.trans f2).new f3 λb hb h=>by have:=n1 b h;omega,λb hb=> ?_⟩;have:=f1.size;have:=f2.size;rcases n3 b hb with h|h
  ·exact n1 b h
  ·omega
 ·simp only[hf,acQ,afa,aaU];exact⟨by simpa [lU,hf] using b1,f1,n1⟩
end Go.Proofs
end
section
namespace Gp.Bind
open Gp.V4
def keyB (l:List Int):List UInt8:=l.flatMap λn=>jY 8 (n % 18446744073709551616).toNat
def keyS (l:List Int):ByteArray:=⟨⟨keyB l⟩⟩
def In64 (n:Int):Prop:= -9223372036854775808<=n/\n<=9223372036854775807
theorem Oh (l:List Int):(keyB l).length=l.length * 8:=by
 induction l with
 |nil=>rfl
 |cons n l ih=>
  have:keyB (n::l)=jY 8 (n % 18446744073709551616).toNat++keyB l:=rfl;rw[this,ahY,iT,ih,aiQ];omega
theorem Ϣ:∀{l m:List Int},l.length=m.length->(∀n∈l,In64 n)->(∀n∈m,In64 n)->keyB l=keyB m->l=m
 |[],[],_,_,_,_=>rfl
 |[],_::_,h,_,_,_=>by simp at h
 |_::_,[],h,_,_,_=>by simp at h
 |a::l,b::m,h,hl,hm,he=>by
  have he:jY 8 (a % 18446744073709551616).toNat++keyB l=jY 8 (b % 18446744073709551616).toNat++keyB m:=he;obtain⟨h1,h2⟩:=List.append_inj he (by simp[iT]);have h3:=congrArg nY h1;rw[XV,XV] at h3;have e:(256:Nat)^8=18446744073709551616:=by decide
  rw[e] at h3;have ha:=hl a (alQ ..);have hb:=hm b (alQ ..);obtain⟨ha1,ha2⟩:=ha;obtain⟨hb1,hb2⟩:=hb;have u:a=b:=by omega
  rw[u,Ϣ (by simpa using h) (λn hn=>hl n (alm _ hn)) (λn hn=>hm n (alm _ hn)) h2]
theorem keyS_inj {l m:List Int} (h:l.length=m.length) (hl:∀n∈l,In64 n) (hm:∀n∈m,In64 n) (he:keyS l=keyS m):l=m:=by
 refine Ϣ h hl hm ?_;unfold keyS at he;injection he with he;injection he
structure Bnd where
 sw:Int
 pr:Int
 ad:Int
 po:Int
 opr:Int
 oad:Int
 opo:Int
 st:Bool
deriving DecidableEq
def Bnd.i (b:Bnd):List Int:=[b.sw,b.pr,b.ad,b.po]
def Bnd.o (b:Bnd):List Int:=[b.opr,b.oad,b.opo]
def Bnd.ok (b:Bnd):Prop:=(∀n∈b.i,In64 n)/\∀n∈b.o,In64 n
abbrev Slots:=List (Option Bnd)
def live:Nat->Slots->List (Int×Bnd)
 |_,[]=>[]
 |i,none::r=>live (i+1) r
 |i,some b::r=>((i:Int),b)::live (i+1) r
theorem jL:∀{S:Slots} {k:Nat} {v:Int} {b:Bnd},(v,b)∈live k S↔∃i:Nat,S[i]? =some (some b)/\v=((k+i:Nat):Int)
 |[],k,v,b=>by simp[live]
 |none::r,k,v,b=>by
  rw[live,jL];constructor
  ·rintro⟨i,h1,h2⟩;exact⟨i+1,by simpa using h1,by omega⟩
  ·rintro⟨i,h1,h2⟩
   cases i with
   |zero=>simp at h1
   |succ i=>exact⟨i,by simpa using h1,by omega⟩
 |some c::r,k,v,b=>by
  rw[live,agN,jL];constructor
  ·rintro(h|⟨i,h1,h2⟩)
   ·simp only[alp] at h;exact⟨0,by simp[h.2],by omega⟩
   ·exact⟨i+1,by simpa using h1,by omega⟩
  ·rintro⟨i,h1,h2⟩
   cases i with
   |zero=>
    simp only[aeI,agP] at h1;left;rw[h1,h2];rfl
   |succ i=>right;exact⟨i,by simpa using h1,by omega⟩
theorem ji:∀(S:Slots) (k:Nat),(live k S).length<=S.length
 |[],_=>by simp[live]
 |none::r,k=>by have:=ji r (k+1);simp[live];omega
 |some b::r,k=>by have:=ji r (k+1);simp[live];omega
def freeN:Slots->Option Nat
 |[]=>none
 |none::_=>some 0
 |some _::r=>(freeN r).map (·+1)
theorem jm:∀{S:Slots} {i:Nat} (k:Nat),freeN S=some i->i<S.length/\S[i]? =some none/\(live k S).length<S.length/\i<=(live k S).length/\(∀j,j<i->∃b,(live k S)[j]? =some (((k+j:Nat):Int),b)/\S[j]? =some (some b))/\
  (∀v b,(live k S)[i]? =some (v,b)->v≠((k+i:Nat):Int))/\∀b,live k (S.set i (some b))=(live k S).take i++(((k+i:Nat):Int),b)::(live k S).drop i
 |[],i,_,h=>by simp[freeN] at h
 |none::r,i,k,h=>by
  simp[freeN] at h;subst h;have hl:=ji r (k+1);refine⟨by simp,rfl,by simp[live];omega,by omega,by omega,λv b hv=> ?_,λb=>by simp[live]⟩;have:=akK hv;rw[live,jL] at this;obtain⟨j,_,hj⟩:=this;omega
 |some c::r,i,k,h=>by
  simp only[freeN,alK] at h;obtain⟨i',h',rfl⟩:=h;obtain⟨h1,h2,h3,h4,h5,h6,h7⟩:=jm (k+1) h';refine⟨by simp;omega,by simpa using h2,by simp[live];omega,by simp[live];omega,λj hj=> ?_,λv b hv=> ?_,λb=> ?_⟩
  ·cases j with
   |zero=>exact⟨c,by simp[live],by simp⟩
   |succ j=>
    obtain⟨b,g1,g2⟩:=h5 j (by omega);refine⟨b,?_,by simpa using g2⟩;rw[live,aeR,g1,show k+1+j=k+(j+1) by omega]
  ·rw[live,aeR] at hv;have:=h6 v b hv
   rwa [show k+1+i'=k+(i'+1) by omega] at this
  ·rw[agO,live,h7 b,live,amI,List.drop_succ_cons,show k+1+i'=k+(i'+1) by omega];rfl
theorem ku:∀{S:Slots} {i:Nat} {b:Bnd} (k:Nat),S[i]? =some (some b)->(live k (S.set i none)).length+1=(live k S).length
 |[],_,_,_,h=>by simp at h
 |c::r,0,b,k,h=>by
  simp at h;subst h;simp[live]
 |none::r,i+1,b,k,h=>by
  rw[agO,live,live];exact ku (k+1) (by simpa using h)
 |some c::r,i+1,b,k,h=>by
  rw[agO,live,live,aiQ,aiQ,ku (k+1) (by simpa using h)]
structure GoodB (S:Slots) (Mi Mo:ByteArray->Option Int):Prop where
 i:∀k v,Mi k=some v↔∃(j:Nat) (b:Bnd),S[j]? =some (some b)/\keyS b.i=k/\v=(j:Int)
 o:∀k v,Mo k=some v↔∃(j:Nat) (b:Bnd),S[j]? =some (some b)/\keyS b.o=k/\v=(j:Int)
 ok:∀(j:Nat) (b:Bnd),S[j]? =some (some b)->b.ok
def upd (M:ByteArray->Option Int) (k:ByteArray) (v:Option Int):ByteArray->Option Int:=λx=>if x=k then v else M x
theorem iY {S:Slots} {i j:Nat} {v:Option Bnd} (hi:i<S.length):(S.set i v)[j]? =if i=j then some v else S[j]? :=by
 rw[akJ];split
 ·rename_i h;subst h;simp[]
 ·rfl
theorem GoodB.add {S:Slots} {Mi Mo:ByteArray->Option Int} (h:GoodB S Mi Mo) {i:Nat} {b:Bnd} (hi:S[i]? =some none) (hb:b.ok) (h1:Mi (keyS b.i)=none) (h2:Mo (keyS b.o)=none):
  GoodB (S.set i (some b)) (upd Mi (keyS b.i) (some i)) (upd Mo (keyS b.o) (some i)):=by
 have hl:i<S.length:=(aeK.1 hi).1;refine⟨λk v=> ?_,λk v=> ?_,λj c hc=> ?_⟩
 ·unfold upd;by_cases hk:k=keyS b.i
  ·rw[aeH hk];constructor
   ·intro e;exact⟨i,b,by rw[iY hl,aeH rfl],hk.symm,by simpa using e.symm⟩
   ·rintro⟨j,c,hc,hk2,rfl⟩;rw[iY hl] at hc;split at hc
    ·rename_i e;subst e;rfl
    ·have:=(h.i k j).2 ⟨j,c,hc,hk2,rfl⟩;rw[hk,h1] at this;cases this
  ·rw[ada hk,h.i];constructor
   ·rintro⟨j,c,hc,hk2,rfl⟩;refine⟨j,c,?_,hk2,rfl⟩;rw[iY hl,ada]
    ·exact hc
    ·rintro rfl;rw[hi] at hc;cases hc
   ·rintro⟨j,c,hc,hk2,rfl⟩;rw[iY hl] at hc;split at hc
    ·rename_i e;subst e;simp only[agP] at hc;subst hc;exact absurd hk2.symm hk
    ·exact⟨j,c,hc,hk2,rfl⟩
 ·unfold upd;by_cases hk:k=keyS b.o
  ·rw[aeH hk];constructor
   ·intro e;exact⟨i,b,by rw[iY hl,aeH rfl],hk.symm,by simpa using e.symm⟩
   ·rintro⟨j,c,hc,hk2,rfl⟩;rw[iY hl] at hc;split at hc
    ·rename_i e;subst e;rfl
    ·have:=(h.o k j).2 ⟨j,c,hc,hk2,rfl⟩;rw[hk,h2] at this;cases this
  ·rw[ada hk,h.o];constructor
   ·rintro⟨j,c,hc,hk2,rfl⟩;refine⟨j,c,?_,hk2,rfl⟩;rw[iY hl,ada]
    ·exact hc
    ·rintro rfl;rw[hi] at hc;cases hc
   ·rintro⟨j,c,hc,hk2,rfl⟩;rw[iY hl] at hc;split at hc
    ·rename_i e;subst e;simp only[agP] at hc;subst hc;exact absurd hk2.symm hk
    ·exact⟨j,c,hc,hk2,rfl⟩
 ·rw[iY hl] at hc;split at hc
  ·simp only[agP] at hc;subst hc;exact hb
  ·exact h.ok j c hc
theorem GoodB.one {S:Slots} {Mi Mo:ByteArray->Option Int} (h:GoodB S Mi Mo) {i j:Nat} {b c:Bnd} (hi:S[i]? =some (some b)) (hj:S[j]? =some (some c)) (e:keyS b.i=keyS c.i\/keyS b.o=keyS c.o):i=j:=by
 rcases e with e|e
 ·have h1:=(h.i _ i).2 ⟨i,b,hi,rfl,rfl⟩;have h2:=(h.i _ j).2 ⟨j,c,hj,rfl,rfl⟩;rw[e,h2] at h1;simp at h1;omega
 ·have h1:=(h.o _ i).2 ⟨i,b,hi,rfl,rfl⟩;have h2:=(h.o _ j).2 ⟨j,c,hj,rfl,rfl⟩;rw[e,h2] at h1;simp at h1;omega
theorem GoodB.remove {S:Slots} {Mi Mo:ByteArray->Option Int} (h:GoodB S Mi Mo) {i:Nat} {b:Bnd} (hi:S[i]? =some (some b)):
  GoodB (S.set i none) (upd Mi (keyS b.i) none) (upd Mo (keyS b.o) none):=by
 have hl:i<S.length:=(aeK.1 hi).1;refine⟨λk v=> ?_,λk v=> ?_,λj c hc=> ?_⟩
 ·unfold upd;by_cases hk:k=keyS b.i
  ·rw[aeH hk];constructor
   ·intro e;cases e
   ·rintro⟨j,c,hc,hk2,rfl⟩;rw[iY hl] at hc;split at hc
    ·cases hc
    ·rename_i e;exact absurd (h.one hi hc (.inl (by rw[hk2,hk]))) e
  ·rw[ada hk,h.i];constructor
   ·rintro⟨j,c,hc,hk2,rfl⟩;refine⟨j,c,?_,hk2,rfl⟩;rw[iY hl,ada]
    ·exact hc
    ·rintro rfl;rw[hi] at hc;simp only[agP] at hc;subst hc;exact hk hk2.symm
   ·rintro⟨j,c,hc,hk2,rfl⟩;rw[iY hl] at hc;split at hc
    ·cases hc
    ·exact⟨j,c,hc,hk2,rfl⟩
 ·unfold upd;by_cases hk:k=keyS b.o
  ·rw[aeH hk];constructor
   ·intro e;cases e
   ·rintro⟨j,c,hc,hk2,rfl⟩;rw[iY hl] at hc;split at hc
    ·cases hc
    ·rename_i e;exact absurd (h.one hi hc (.inr (by rw[hk2,hk]))) e
  ·rw[ada hk,h.o];constructor
   ·rintro⟨j,c,hc,hk2,rfl⟩;refine⟨j,c,?_,hk2,rfl⟩;rw[iY hl,ada]
    ·exact hc
    ·rintro rfl;rw[hi] at hc;simp only[agP] at hc;subst hc;exact hk hk2.symm
   ·rintro⟨j,c,hc,hk2,rfl⟩;rw[iY hl] at hc;split at hc
    ·cases hc
    ·exact⟨j,c,hc,hk2,rfl⟩
 ·rw[iY hl] at hc;split at hc
  ·cases hc
  ·exact h.ok j c hc
def getS (S:Slots) (id:Int):Option Bnd:=if 0<=id then (S[id.toNat]?).join else none
theorem kY {S:Slots} {id:Int} {b:Bnd}:getS S id=some b↔0<=id/\S[id.toNat]? =some (some b):=by
 unfold getS;split
 ·rename_i h;rw[Option.join_eq_some_iff];simp[h]
 ·rename_i h;simp[h]
end Gp.Bind
end
section
namespace Go.Proofs
open Gp Gp.Hash
theorem ai0 (m:Nat):V4.jY 8 m=V4.jY 4 (m / 4294967296)++V4.jY 4 (m % 4294967296):=by
 simp only[V4.jY,alr,alJ,alP,alO];refine⟨?_,?_,?_,?_,?_,?_,?_,?_⟩<;>apply UInt8.toNat_inj.1<;>simp<;>omega
theorem afN {x:Int} (h:Bind.In64 x):lu .i64 (jE .i64 x 32) 4294967295=(((x % 18446744073709551616).toNat / 4294967296:Nat):Int)/\lu .i64 x 4294967295=(((x % 18446744073709551616).toNat % 4294967296:Nat):Int):=by
 obtain⟨h1,h2⟩:=h;have low:∀y:Int,lu .i64 y 4294967295=(((y % 18446744073709551616).toNat % 4294967296:Nat):Int):=by
  intro y;unfold lu;have e1:(BitVec.ofInt (IntKind.bits .i64) y).toNat=(y % 18446744073709551616).toNat:=by rfl
  have e2:(BitVec.ofInt (IntKind.bits .i64) 4294967295).toNat=2^32 - 1:=by rfl
  rw[al3,e1,e2,JG];rw[Α]
 refine⟨?_,low x⟩;rw[low];unfold jE;have e:(2:Int)^(min (32:Int).toNat (IntKind.bits .i64))=4294967296:=by decide
 rw[e,amq _ (by omega)];omega
theorem key_ok {w:θ} {b:Nat} {ns:List Int} {vs:List Value} (h:Row w b vs) (hv:vs=ns.map λn=>Β n) (n c:Nat) (hn:n=ns.length) (hl:ns.length<=10) (hr:∀n∈ns,Bind.In64 n):
  Fh ⟨some ⟨b,0,none⟩,n,c⟩ w λr w'=>r=Bind.keyS ns/\Ext w w':=by
 subst hv hn;apply Ϯ;refine gI (λst W=>∃i:Nat,i<=ns.length/\st.2.1=(i:Int)/\iD W st.1 (Bind.keyB (ns.take i))/\Ext w W) (λst _=>ns.length - st.2.1.toNat) ⟨0,by omega,rfl,iD.nil,Ext.refl _⟩ ?_;rintro⟨s,x,⟨⟩⟩ W ⟨i,hi,rfl,hs,hx⟩ next I
 have hs:=hs;by_cases J:i<ns.length
 ·have u:((i:Int)<(ns.length:Int)):=by omega
  simp only[sx,u,ace,ab3,aiG,(h.ext hx).cell,aiN,ade J,ag4];refine⟨by omega,by trivial,by omega,?_⟩;obtain⟨e1,e2⟩:=afN (hr _ (akI J));rw[e1,e2];generalize hm:(ns[i] % 18446744073709551616).toNat=m;have hm2:m<18446744073709551616:=by omega
  have kl:=Bind.Oh (ns.take i);have kl2:(ns.take i).length<=10:=by simp;omega
  refine cmS2 (zT hs (by omega) _ 4) ?_;rintro t1 w1 ⟨b1,f1,_⟩;have p1:lU (Bind.keyB (ns.take i)) ((m / 4294967296:Nat):Int) 4=Bind.keyB (ns.take i)++V4.jY 4 (m / 4294967296):=by
   unfold lU;rw[aeH ⟨⟨by omega,by omega⟩,by omega,by simp;omega⟩];rfl
  rw[p1] at b1;refine cmS2 (zT (iD.iG b1) (by simp[V4.iT];omega) _ 4) ?_;rintro t2 w2 ⟨b2,f2,_⟩;have p2:lU (Bind.keyB (ns.take i)++V4.jY 4 (m / 4294967296)) ((m % 4294967296:Nat):Int) 4=Bind.keyB (ns.take i)++V4.jY 4 (m / 4294967296)++V4.jY 4 (m % 4294967296):=by
   unfold lU;rw[aeH ⟨⟨by omega,by omega⟩,by omega,by simp;omega⟩];rfl
  rw[p2] at b2;rw[Α];refine I _ _ ⟨i+1,by omega,by simp,?_,(hx.trans f1).trans f2⟩ (by grind);have ek:Bind.keyB (ns.take (i+1))=Bind.keyB (ns.take i)++V4.jY 4 (m / 4294967296)++V4.jY 4 (m % 4294967296):=by
   rw[aj3 J];unfold Bind.keyB;rw[alh,List.flatMap_singleton,hm,ai0,akc]
  rw[ek];exact iD.iG b2
 ·have u:¬((i:Int)<(ns.length:Int)):=by omega
  simp only[u,acQ,aaT];have:i=ns.length:=by omega
  subst this;rw[akY] at hs;exact Qu hs ⟨rfl,hx⟩
theorem qV (l:List Int) (h:l.length<=10):(Bind.keyS l).size<=2^63 - 1:=by
 have:(Bind.keyS l).size=(Bind.keyB l).length:=rfl;rw[this,Bind.Oh];omega
theorem YL (a b c d:Int) (h:∀n∈[a,b,c,d],Bind.In64 n) (w:θ):qL a b c d w λr w'=>r=Bind.keyS [a,b,c,d]/\Ext w w':=by
 apply PZ;refine gy λp w1 r1 _ _ f1=> ?_;simp only[sx,r1.cell];refine gy λq w2 r2 _ _ f2=> ?_;refine cmS9 (key_ok r2 rfl 4 4 rfl (by simp) h) ?_;rintro _ w3 ⟨rfl,f3⟩;exact⟨rfl,(f1.trans f2).trans f3⟩
theorem Zy (a b c:Int) (h:∀n∈[a,b,c],Bind.In64 n) (w:θ):qM a b c w λr w'=>r=Bind.keyS [a,b,c]/\Ext w w':=by
 apply P5;refine gy λp w1 r1 _ _ f1=> ?_;simp only[sx,r1.cell];refine gy λq w2 r2 _ _ f2=> ?_;refine cmS9 (key_ok r2 rfl 3 3 rfl (by simp) h) ?_;rintro _ w3 ⟨rfl,f3⟩;exact⟨rfl,(f1.trans f2).trans f3⟩
open Gp.Bind (Bnd Slots live GoodB freeN getS In64)
def iM:Option Bnd->List Value
 |none=>[Β 0,Β 0,Β 0,Β 0,Β 0,Β 0,Β 0,.bool false,.bool false]
 |some b=>[Β b.sw,Β b.pr,Β b.ad,Β b.po,Β b.opr,Β b.oad,Β b.opo,.bool b.st,.bool true]
theorem kZ (o:Option Bnd):(iM o).length=9:=by cases o<;>rfl
theorem Qo (o:Option Bnd):(iM o).all iI=true:=by cases o<;>rfl
theorem Cc (o:Option Bnd):(iM o)[8]? =some (.bool o.isSome):=by cases o<;>rfl
structure QS where
 d:Nat
 sl:Nat
 ti:Nat
 si:Nat
 tu:Nat
 su:Nat
def fp (A:QS) (b:Nat):Prop:=b=A.d\/b=A.sl\/b=A.ti\/b=A.si\/b=A.tu\/b=A.su
def QS.ne (A:QS):Prop:=A.d≠A.sl/\A.d≠A.ti/\A.d≠A.si/\A.d≠A.tu/\A.d≠A.su/\A.sl≠A.ti/\A.sl≠A.si/\A.sl≠A.tu/\A.sl≠A.su/\A.ti≠A.tu/\A.ti≠A.su/\A.si≠A.tu/\A.si≠A.su
structure DB (w:θ) (A:QS) (most:Nat) (S:Slots) (Mi Mo:ByteArray->Option Int):Prop where
 hd:Row w A.d [.slice (some ⟨A.sl,0,none⟩) most most,.pointer (some ⟨A.ti,0,none⟩),.pointer (some ⟨A.tu,0,none⟩),Β ((live 0 S).length:Int)]
 row:Row w A.sl (S.flatMap iM)
 len:S.length=most
 mx:most<=4096
 tI:∃L,TB w A.ti A.si L most Mi/\cnt L=(live 0 S).length
 tO:∃L,TB w A.tu A.su L most Mo/\cnt L=(live 0 S).length
 good:GoodB S Mi Mo
 ne:A.ne
section
variable {w w':θ} {A:QS} {most:Nat} {S:Slots} {Mi Mo:ByteArray->Option Int}
theorem DB.fr {F:Nat->Prop} (h:DB w A most S Mi Mo) (hf:gV w w' F) (hs:∀b,fp A b->¬F b):DB w' A most S Mi Mo:=by
 obtain⟨L,h1,h2⟩:=h.tI;obtain⟨L',h3,h4⟩:=h.tO;exact⟨h.hd.fr hf (hs _ (.inl rfl)),h.row.fr hf (hs _ (.inr (.inl rfl))),h.len,h.mx,⟨L,h1.fr hf (hs _ (.inr (.inr (.inl rfl)))) (hs _ (.inr (.inr (.inr (.inl rfl))))),h2⟩,
  ⟨L',h3.fr hf (hs _ (.inr (.inr (.inr (.inr (.inl rfl)))))) (hs _ (.inr (.inr (.inr (.inr (.inr rfl)))))),h4⟩,h.good,h.ne⟩
theorem DB.ext (h:DB w A most S Mi Mo) (hf:Ext w w'):DB w' A most S Mi Mo:=h.fr (hf λ_=>False) (λ_ _=>by simp)
theorem DB.slot (h:DB w A most S Mi Mo) {i:Nat} {o:Option Bnd} (hi:S[i]? =some o) (j:Nat) (hj:j<9):w.cell? ⟨A.sl,i * 9+j,none⟩=(iM o)[j]? :=by
 rw[h.row.cell,flat_get iM 9 kZ _ _ j hj,hi];rfl
theorem AB (h:DB w A most S Mi Mo):lD (some ⟨A.d,0,none⟩) w λr w'=>r=true/\w'=w:=by
 apply PY;simp only[sx,h.hd.cell,afa];trivial
theorem Ir (h:DB w A most S Mi Mo) (a b c d:Int) (hq:∀n∈[a,b,c,d],In64 n):
  nJ (some ⟨A.d,0,none⟩) a b c d w λn t w'=>t=(Mi (Bind.keyS [a,b,c,d])).isSome/\n=(Mi (Bind.keyS [a,b,c,d])).getD 0/\Ext w w':=by
 apply Rf;refine gy λp w1 r1 _ _ f1=> ?_;refine cmS0 (AB (h.ext f1)) ?_;rintro _ w2 ⟨rfl,hw⟩;subst hw;have h2:=(h.ext f1).ext (Ext.drew _);simp only[sx,adp,h2.hd.cell,r1.drew.cell];refine cmS9 (YL a b c d hq _) ?_;rintro _ w3 ⟨rfl,f3⟩;have h3:=h2.ext f3;simp only[afu,d_,h3.hd.cell];obtain⟨L,hL,_⟩:=h3.tI;refine cmS3 (YI hL _ (qV _ (by simp))) ?_;rintro n t w4 ⟨f4,rfl,rfl⟩;exact⟨rfl,rfl,((f1.trans (Ext.drew _)).trans f3).trans f4⟩
theorem NW (h:DB w A most S Mi Mo) (a b c:Int) (hq:∀n∈[a,b,c],In64 n):
  oW (some ⟨A.d,0,none⟩) a b c w λn t w'=>t=(Mo (Bind.keyS [a,b,c])).isSome/\n=(Mo (Bind.keyS [a,b,c])).getD 0/\Ext w w':=by
 apply Q_;refine gy λp w1 r1 _ _ f1=> ?_;refine cmS0 (AB (h.ext f1)) ?_;rintro _ w2 ⟨rfl,hw⟩;subst hw;have h2:=(h.ext f1).ext (Ext.drew _);simp only[sx,adp,h2.hd.cell,r1.drew.cell];refine cmS9 (Zy a b c hq _) ?_;rintro _ w3 ⟨rfl,f3⟩;have h3:=h2.ext f3;simp only[afu,d_,h3.hd.cell];obtain⟨L,hL,_⟩:=h3.tO;refine cmS3 (YI hL _ (qV _ (by simp))) ?_;rintro n t w4 ⟨f4,rfl,rfl⟩;exact⟨rfl,rfl,((f1.trans (Ext.drew _)).trans f3).trans f4⟩
theorem ag8 (h:DB w A most S Mi Mo):DL (some ⟨A.d,0,none⟩) w λn w'=>n=((live 0 S).length:Int)/\w'=w:=by
 apply UE;refine cmS0 (AB h) ?_;rintro _ w2 ⟨rfl,hw⟩;subst hw;simp only[sx,adp,h.hd.cell];trivial
theorem vT:∀{S:Slots} {i:Nat},freeN S=some i↔S[i]? =some none/\∀j,j<i->∃b,S[j]? =some (some b)
 |[],i=>by simp[freeN]
 |none::r,i=>by
  simp only[freeN,agP];constructor
  ·grind
  ·rintro⟨_,h2⟩
   cases i with
   |zero=>rfl
   |succ i=>obtain⟨b,hb⟩:=h2 0 (by omega);simp at hb
 |some c::r,i=>by
  simp only[freeN,alK];constructor
  ·rintro⟨k,hk,rfl⟩;obtain⟨h1,h2⟩:=vT.1 hk;refine⟨by trivial,λj hj=> ?_⟩
   cases j with
   |zero=>simp
   |succ j=>simp_all
  ·rintro⟨h1,h2⟩
   cases i with
   |zero=>simp at h1
   |succ i=>exact⟨i,vT.2 ⟨by trivial,λj hj=>by grind⟩,rfl⟩
theorem Ez:∀{S:Slots},(∀j,j<S.length->∃b,S[j]? =some (some b))->freeN S=none
 |[],_=>rfl
 |none::r,h=>by obtain⟨b,hb⟩:=h 0 (by simp);simp at hb
 |some c::r,h=>by
  simp only[freeN,Option.map_eq_none_iff];exact Ez λj hj=>by simpa using h (j+1) (by simp;omega)
theorem afl (h:DB w A most S Mi Mo):AX (some ⟨A.d,0,none⟩) w λn t w'=>w'=w/\t=(freeN S).isSome/\n=(((freeN S).getD 0:Nat):Int):=by
 apply Rh;have hm:=h.mx;have hl:=h.len;simp only[sx,h.hd.cell];refine gI (λst W=>W=w/\∃i:Nat,i<=most/\st.1=(i:Int)/\∀j,j<i->∃b,S[j]? =some (some b)) (λst _=>most - st.1.toNat) ⟨rfl,0,by omega,rfl,by omega⟩ ?_;rintro⟨x,⟨⟩⟩ W ⟨rfl,i,hi,rfl,hp⟩ next I
 by_cases hlt:i<most
 ·have u:((i:Int)<(most:Int)):=by omega
  have hS:S[i]? =some S[i]:=ade (by omega);generalize S[i]=o at hS;simp only[sx,u,ace,h.hd.cell,ab3,h.slot hS 8 (by omega),Cc];refine⟨by omega,by trivial,?_⟩
  cases o with
  |none=>
   have hf:=vT.2 ⟨hS,hp⟩;simp only[ald,afa,aaU,hf];trivial
  |some b=>
   simp only[ajX,adp,aaT];rw[Α];refine I _ _ ⟨rfl,i+1,by omega,by simp,λj hj=> ?_⟩ (by omega);by_cases hji:j<i
   ·simp_all
   grind
 ·have u:¬((i:Int)<(most:Int)):=by omega
  simp only[u,acQ,aaT];have hf:=Ez λj hj=>hp j (by omega)
  simp_all
theorem adM {S:Slots} {i:Nat} (hi:i<S.length) (o:Option Bnd):(S.flatMap iM).take (i * 9)++iM o++(S.flatMap iM).drop (i * 9+9)=(S.set i o).flatMap iM:=by
 have e1:(S.flatMap iM).take (i * 9)=(S.take i).flatMap iM:=by
  have h:=(ajS i S).symm;have hl:((S.take i).flatMap iM).length=i * 9:=by rw[iU iM 9 kZ];simp;omega
  grind
 have e2:(S.flatMap iM).drop (i * 9+9)=(S.drop (i+1)).flatMap iM:=by
  have h:=(ajS (i+1) S).symm;have hl:((S.take (i+1)).flatMap iM).length=i * 9+9:=by rw[iU iM 9 kZ];simp;omega
  grind
 rw[e1,e2,amP,aeH hi,alh,ak0,akc]
theorem NG (h:Row w A.sl (S.flatMap iM)) {i:Nat} (hi:i<S.length) (o:Option Bnd) {K:b_} (hK:∀w',Row w' A.sl ((S.set i o).flatMap iM)->gV w w' (·=A.sl)->w'.heap.size=w.heap.size->K w'):h_ (iM o) w ⟨A.sl,i * 9,none⟩ 0 K:=by
 refine RP (iM o) w _ (i * 9) 0 h (λv hv=>alA.1 (Qo o) v hv) ?_ λw1 r1 f1 z1=> ?_
 ·rw[kZ,iU iM 9 kZ];omega
 ·rw[aki,kZ,adM hi] at r1;exact hK w1 r1 (f1 _ rfl) z1
def wF (S:Slots) (Mi Mo:ByteArray->Option Int) (b:Bnd):Int×Int:=
 if (Mi (Bind.keyS b.i)).isSome||(Mo (Bind.keyS b.o)).isSome then (0,9) else match freeN S with
  |none=>(0,7)
  |some i=>((i:Int),0)
theorem acB (h:DB w A most S Mi Mo) (b:Bnd) (hb:b.ok) (u:∀x,fp A x->x<w.heap.size):
  yA (some ⟨A.d,0,none⟩) b.sw b.pr b.ad b.po b.opr b.oad b.opo b.st w λn e w'=>(n,e)=wF S Mi Mo b/\gV w w' (fp A)/\
   ∃A' S' Mi' Mo',DB w' A' most S' Mi' Mo'/\A'.d=A.d/\(∀x,fp A' x->fp A x\/w.heap.size<=x)/\(∀x,fp A' x->x<w'.heap.size)/\S'=(if (wF S Mi Mo b).2=0 then S.set (wF S Mi Mo b).1.toNat (some b) else S):=by
 apply UA;refine gy λp w1 r1 e1 z1 f1=> ?_;refine cmS0 (AB (h.ext f1)) ?_;rintro _ w2 ⟨rfl,hw⟩;subst hw;simp only[sx,adp,r1.cell];refine cmS3 (Ir (h.ext f1) _ _ _ _ hb.1) ?_;rintro n2 t2 w3 ⟨ht2,_,f3⟩;simp only[d_,f_,gq,(r1.ext f3).cell];refine cmS3 (NW ((h.ext f1).ext f3) _ _ _ hb.2) ?_;rintro n4 t4 w4 ⟨ht4,_,f4⟩;have ht2:t2=(Mi (Bind.keyS b.i)).isSome:=ht2;have ht4:t4=(Mo (Bind.keyS b.o)).isSome:=ht4;have y4:=f3.trans f4;have x4:=f1.trans y4;have h4:=h.ext x4;have twice:(t2||t4)=true->((0:Int),(9:Int))=wF S Mi Mo b/\gV w w4 (fp A)/\∃A' S' Mi' Mo',DB w4 A' most S' Mi' Mo'/\A'.d=A.d/\(∀x,fp A' x->fp A x\/w.heap.size<=x)/\(∀x,fp A' x->x<w4.heap.size)/\S'=(if (wF S Mi Mo b).2=0 then S.set (wF S Mi Mo b).1.toNat (some b) else S):=by
  intro ht;have e:wF S Mi Mo b=(0,9):=by unfold wF;simp_all
  rw[e];exact⟨rfl,x4 _,A,S,Mi,Mo,h4,rfl,λx hx=> .inl hx,λx hx=>by have:=u x hx;have:=x4.size;omega,by rfl⟩
 cases Y:t2 with
 |true=>simp only[aaU];simp_all
 |false=>
 cases N:t4 with
 |true=>simp only[aaU,aaT];simp_all
 |false=>
 rw[Y] at ht2;rw[N] at ht4;simp only[aaT];refine cmS3 (afl h4) ?_;rintro n5 t5 w5 ⟨hw,ht5,hn5⟩;subst hw
 cases O:freeN S with
 |none=>
  rw[O] at ht5;subst ht5;simp only[ald,afa,aaU];have e:wF S Mi Mo b=(0,7):=by unfold wF;simp_all
  rw[e];exact⟨rfl,x4 _,A,S,Mi,Mo,h4,rfl,λx hx=> .inl hx,λx hx=>by have:=u x hx;have:=x4.size;omega,by rfl⟩
 |some i=>
  rw[O] at ht5 hn5;subst ht5;have hn5:n5=(i:Int):=hn5;subst hn5;have e:wF S Mi Mo b=((i:Int),0):=by unfold wF;simp_all
  rw[e];obtain⟨g1,g2,g3,g4,g5,g6,g7⟩:=Bind.jm 0 O;have hm:=h.mx;have hl:=h.len;have h5:=h4.ext (Ext.drew _);have r5:=(r1.ext y4).drew;simp only[sx,ajX,adp,h5.hd.cell,r5.cell,ab3];refine⟨by omega,by omega,?_⟩;refine NG h5.row g1 (some b) λw6 row6 f6 z6=> ?_;obtain⟨n1,n2,n3,n4,n5,n6,n7,n8,n9,n10,n11,n12,n13⟩:=h.ne;have hp:∀x,fp A x->x≠p:=λx hx=>by grind
  have hpd:=hp _ (.inl rfl);have Z:=hp _ (.inr (.inl rfl));have hd6:=(h5.hd.fr f6 n1).drew;have r6:=(r5.fr f6 (ah6 Z)).drew;simp only[d_,f_,gq,oU,hd6.cell,r6.cell];refine cmS9 (YL _ _ _ _ hb.1 _) ?_;rintro _ w7 ⟨rfl,f7⟩;have hd7:=hd6.ext f7;have r7:=r6.ext f7;simp only[afu,d_,hd7.cell];obtain⟨LI,tI,cI⟩:=h5.tI;obtain⟨LO,tO,cO⟩:=h5.tO;have f67:=(f6.ext (Ext.drew _)).ext f7;have tI7:=tI.fr f67 (ah6 n6) (ah6 n7);have tO7:=tO.fr f67 (ah6 n8) (ah6 n9);have aa:Mi (Bind.keyS b.i)=none:=by simp_all
  have ab:Mo (Bind.keyS b.o)=none:=by cases hx:Mo (Bind.keyS b.o) with
   |none=>rfl
   |some v=>grind
  have z7:=f67.size;have hdrz:w5.drew.heap.size=w5.heap.size:=rfl;have x4z:=x4.size;refine cmS1 (YK tI7 (Bind.keyS b.i) (i:Int) (qV _ (by simp[Bnd.i]))) ?_;rintro e8 w8 (⟨rfl,hlt8,s8,L8,t8,c8,f8,hs8⟩|⟨_,_,R,_⟩);rotate_left
  ·exfalso;omega
  have hd8:=(hd7.fr f8 (by grind)).drew;have r8:=(r7.fr f8 (by rintro(h|h);exact hp _ (.inr (.inr (.inl rfl))) h.symm;exact hp _ (.inr (.inr (.inr (.inl rfl)))) h.symm)).drew;simp only[d_,f_,gq,oU,hd8.cell,r8.cell];refine cmS9 (Zy _ _ _ hb.2 _) ?_;rintro _ w9 ⟨rfl,f9⟩;have hd9:=hd8.ext f9;simp only[afu,d_,hd9.cell];have hs8':s8≠A.tu/\s8≠A.su/\s8≠A.d/\s8≠A.sl:=by
   have q1:=u A.tu (.inr (.inr (.inr (.inr (.inl rfl)))));have q2:=u A.su (.inr (.inr (.inr (.inr (.inr rfl)))));have q3:=u A.d (.inl rfl);have q4:=u A.sl (.inr (.inl rfl));omega
  have f89:=(f8.ext (Ext.drew _)).ext f9;have tO9:=tO7.fr f89 (by grind) (by grind);have tI9:=(t8.LJ (Ext.drew w8)).LJ f9;have z8:=f8.size;have z9:=f9.size;have hdrz8:w8.drew.heap.size=w8.heap.size:=rfl;refine cmS1 (YK tO9 (Bind.keyS b.o) (i:Int) (qV _ (by simp[Bnd.o]))) ?_;rintro e10 w10 (⟨rfl,hlt10,I,ac,t10,c10,f10,hs10⟩|⟨_,_,R,_⟩);rotate_left
  ·exfalso;omega
  have hs10':I≠A.ti/\I≠s8/\I≠A.d/\I≠A.sl:=by
   have q1:=u A.ti (.inr (.inr (.inl rfl)));have q2:=u A.d (.inl rfl);have q4:=u A.sl (.inr (.inl rfl));have q5:s8<w9.heap.size:=by
    have:s8<w8.heap.size:=by
     by_cases hL:L8=[]
     ·rw[t8.nils hL];omega
     ·exact(t8.ht.row hL).lt
    omega
   grind
  have hd10:=hd9.fr f10 (by grind);simp only[d_,f_,gq,hd10.cell];have hll:=Bind.ji S 0;rw[Α];refine gY hd10 rfl (by simp) λU hd11 f11 z11=> ?_;simp only[af7,agO] at hd11;have f11d:=f11 (·=A.d) rfl;have J:(live 0 (S.set i (some b))).length=(live 0 S).length+1:=by
   grind
  have tI11:=(tI9.fr f10 (by grind) (by omega)).fr f11d (ah6 n2) hs8'.2.2.1;have tO11:=t10.fr f11d (ah6 n4) hs10'.2.2.1;have row11:=((((row6.ext (Ext.drew _)).ext f7).fr f89 (by grind)).fr f10 (by grind)).fr f11d (ah6 n1);have zb:=f67.size;have ftot:gV w U (fp A):=by
   have q1:gV w w7 (fp A):=((x4.trans (Ext.drew w5)) _).trans f67 λx _ hx=> .inr (.inl hx);have q2:=q1.trans f89 λx _ hx=>by
    rcases hx with hx|hx
    ·exact .inr (.inr (.inl hx))
    ·exact .inr (.inr (.inr (.inl hx)))
   have q3:=q2.trans f10 λx _ hx=>by
    rcases hx with hx|hx
    ·exact .inr (.inr (.inr (.inr (.inl hx))))
    ·exact .inr (.inr (.inr (.inr (.inr hx))))
   exact q3.trans f11d λx _ hx=> .inl hx
  have zt:=ftot.size;have eu:∀M k v,Go.Proofs.upd M k v=Gp.Bind.upd M k v:=λ_ _ _=>rfl;rw[eu] at tI11 tO11;have db:DB U ⟨A.d,A.sl,A.ti,s8,A.tu,I⟩ most (S.set i (some b)) (Gp.Bind.upd Mi (Bind.keyS b.i) (some (i:Int))) (Gp.Bind.upd Mo (Bind.keyS b.o) (some (i:Int))):=by
   refine⟨?_,row11,by grind,hm,⟨L8,tI11,?_⟩,⟨ac,tO11,?_⟩,h.good.add g2 hb aa ab,?_⟩
   ·rw[J];simpa using hd11
   ·grind
   ·grind
   ·exact⟨n1,n2,ah6 hs8'.2.2.1,n4,ah6 hs10'.2.2.1,n6,ah6 hs8'.2.2.2,n8,ah6 hs10'.2.2.2,n10,ah6 hs10'.1,hs8'.1,ah6 hs10'.2.1⟩
  refine⟨ftot,_,_,_,_,db,rfl,?_,?_,by simp⟩
  ·intro x hx;rcases hx with hx|hx|hx|hx|hx|hx
   ·exact .inl (.inl hx)
   ·exact .inl (.inr (.inl hx))
   ·exact .inl (.inr (.inr (.inl hx)))
   ·have hx:x=s8:=hx;rcases hs8 with h8|h8
    ·exact .inl (.inr (.inr (.inr (.inl (hx.trans h8)))))
    omega
   ·exact .inl (.inr (.inr (.inr (.inr (.inl hx)))))
   ·have hx:x=I:=hx;rcases hs10 with W|W
    ·exact .inl (.inr (.inr (.inr (.inr (.inr (hx.trans W))))))
    omega
  ·intro x hx;have tlt:∀{w0:θ} {b s:Nat} {L:List uQ} {m:Int} {M:ByteArray->Option Int},TB w0 b s L m M->s<w0.heap.size:=by
    intro w0 b s L m M t;by_cases hL:L=[]
    ·rw[t.nils hL];exact t.ht.hd.lt
    ·exact(t.ht.row hL).lt
   have lt:=λy hy=>alc (u y hy) zt;rcases hx with hx|hx|hx|hx|hx|hx
   ·exact lt x (.inl hx)
   ·exact lt x (.inr (.inl hx))
   ·exact lt x (.inr (.inr (.inl hx)))
   ·grind
   ·exact lt x (.inr (.inr (.inr (.inr (.inl hx)))))
   grind
end
end Go.Proofs
end
section
namespace Go.Proofs
open Gp Gp.Hash
open Gp.Bind (Bnd Slots live GoodB freeN getS In64)
section
variable {w w':θ} {A:QS} {most:Nat} {S:Slots} {Mi Mo:ByteArray->Option Int}
theorem IG {S:Slots} {id:Int} (h:id<0\/(S.length:Int)<=id):getS S id=none:=by
 unfold Gp.Bind.getS
 grind
theorem YG {S:Slots} {id:Int} (h0:0<=id) {o:Option Bnd} (h:S[id.toNat]? =some o):getS S id=o:=by
 unfold Gp.Bind.getS
 simp_all
theorem acE (h:DB w A most S Mi Mo) (id:Int):yE (some ⟨A.d,0,none⟩) id w λr w'=>r=(getS S id).isSome/\w'=w:=by
 apply UF;have hl:=h.len;refine cmS0 (AB h) ?_;rintro _ w2 ⟨rfl,hw⟩;subst hw;simp only[aaU];by_cases c1:id>=0
 ·simp only[sx,c1,ace,h.hd.cell];by_cases c2:id<(most:Int)
  ·have hS:S[id.toNat]? =some S[id.toNat]:=ade (by omega);generalize S[id.toNat]=o at hS;simp only[c2,ace,aaU,f_,jf,h.slot hS 8 (by omega),Cc];refine⟨by trivial,by trivial,?_,by trivial⟩;rw[YG c1 hS]
  ·simp only[c2,acQ,aaT];exact⟨by rw[IG (.inr (by omega))];rfl,by trivial⟩
 ·simp only[c1,acQ,aaT];exact⟨by rw[IG (.inl (by omega))];rfl,by trivial⟩
def akP (b:Bnd) (a1 a2 a3 a4 a5 a6 a7:Int) (a8:Bool):Prop:=a1=b.sw/\a2=b.pr/\a3=b.ad/\a4=b.po/\a5=b.opr/\a6=b.oad/\a7=b.opo/\a8=b.st
def akO:Bnd:=⟨0,0,0,0,0,0,0,false⟩
theorem Dq (h:DB w A most S Mi Mo) (id:Int):kL (some ⟨A.d,0,none⟩) id w λa1 a2 a3 a4 a5 a6 a7 a8 r w'=>r=(getS S id).isSome/\akP ((getS S id).getD akO) a1 a2 a3 a4 a5 a6 a7 a8/\Ext w w':=by
 apply UD;have hl:=h.len;refine gy λp w1 r1 e1 z1 f1=> ?_;have h1:=h.ext f1;refine cmS0 (acE h1 id) ?_;rintro _ w2 ⟨rfl,hw⟩;subst hw
 cases hg:getS S id with
 |none=>
  simp only[ald,afa,aaU];refine gU r1 rfl rfl λw3 r3 f3 _=> ?_;simp only[sx,afu,r3.cell];exact⟨⟨rfl,rfl,rfl,rfl,rfl,rfl,rfl,rfl⟩,f1.new (f3 (·=p) rfl) λy hy e=>by omega⟩
 |some b=>
  obtain⟨g0,g1⟩:=Gp.Bind.kY.1 hg;have gl:=(aeK.1 g1).1;have c:=h1.slot g1;have c0:=c 0 (by omega);have c1:=c 1 (by omega);have c2:=c 2 (by omega);have c3:=c 3 (by omega);have c4:=c 4 (by omega);have c5:=c 5 (by omega);have c6:=c 6 (by omega);have c7:=c 7 (by omega);simp only[aki] at c0;simp only[sx,ajX,adp,h1.hd.cell,c0,c1,c2,c3,c4,c5,c6,c7,iM];refine⟨by omega,by omega,gU r1 rfl rfl λw3 r3 f3 _=> ?_⟩;simp only[afu,d_,f_,gq,jf,r3.cell];exact⟨⟨rfl,rfl,rfl,rfl,rfl,rfl,rfl,rfl⟩,f1.new (f3 (·=p) rfl) λy hy e=>by omega⟩
theorem abp (h:DB w A most S Mi Mo) (id:Int) (hlt:∀x,fp A x->x<w.heap.size):
  xE (some ⟨A.d,0,none⟩) id w λr w'=>r=(getS S id).isSome/\gV w w' (fp A)/\∃Mi' Mo',DB w' A most (if (getS S id).isSome then S.set id.toNat none else S) Mi' Mo':=by
 apply Ol;have hl:=h.len;have hm:=h.mx;refine cmS0 (acE h id) ?_;rintro _ w1 ⟨rfl,hw⟩;subst hw
 cases hg:getS S id with
 |none=>
  simp only[ald,afa,aaU];exact⟨by trivial,gV.refl _ _,Mi,Mo,by simpa using h⟩
 |some b=>
  obtain⟨g0,g1⟩:=Gp.Bind.kY.1 hg;have gl:=(aeK.1 g1).1;have hb:=h.good.ok _ _ g1;have c:∀j,j<9->_:=h.slot g1;have c0:=c 0 (by omega);have c1:=c 1 (by omega);have c2:=c 2 (by omega);have c3:=c 3 (by omega);have c4:=c 4 (by omega);have c5:=c 5 (by omega);have c6:=c 6 (by omega);have c7:=c 7 (by omega);have c8:=c 8 (by omega);simp only[aki] at c0;simp only[sx,ajX,adp,h.hd.cell,c0,c1,c2,c3,c4,c5,c6,c7,c8,iM];refine⟨by omega,by omega,DJ rfl rfl λp w2 r2 e2 z2 f2=> ?_⟩;have x2:Ext w1 w2.drew:=f2.trans (Ext.drew _);have h2:=h.ext x2;have r2d:=r2.drew;simp only[sx,h2.hd.cell,r2d.cell];refine cmS9 (YL _ _ _ _ hb.1 _) ?_;rintro _ w3 ⟨rfl,f3⟩;have h3:=h2.ext f3;have r3:=r2d.ext f3;simp only[afu,d_,h3.hd.cell];obtain⟨LI,tI,cI⟩:=h3.tI;obtain⟨n1,n2,n3,n4,n5,n6,n7,n8,n9,n10,n11,n12,n13⟩:=h.ne;have hp:∀x,fp A x->x≠p:=λx hx e=>by grind
  refine cmS0 (MN tI (Bind.keyS b.i) (qV _ (by simp[Bnd.i]))) ?_;rintro _ w4 ⟨_,⟨L4,t4,c4'⟩,f4⟩;have u:Mi (Bind.keyS b.i)=some (id.toNat:Int):=(h.good.i _ _).2 ⟨_,b,g1,rfl,rfl⟩;have I:Mo (Bind.keyS b.o)=some (id.toNat:Int):=(h.good.o _ _).2 ⟨_,b,g1,rfl,rfl⟩;have hd4:=(h3.hd.fr f4 (by simp_all)).drew;have r4:Row w4.drew p _:=(r3.fr f4 (by rintro(h|h);exact hp _ (.inr (.inr (.inl rfl))) h.symm;exact hp _ (.inr (.inr (.inr (.inl rfl)))) h.symm)).drew;simp only[d_,f_,gq,oU,hd4.cell,r4.cell];refine cmS9 (Zy _ _ _ hb.2 _) ?_;rintro _ w5 ⟨rfl,f5⟩;have hd5:=hd4.ext f5;simp only[afu,d_,hd5.cell];have f45:gV w3 w5 (λx=>x=A.ti\/x=A.si):=(f4.ext (Ext.drew _)).ext f5;obtain⟨LO,tO,cO⟩:=h3.tO;have tO5:=tO.fr f45 (by omega) (by omega);have tI5:=(t4.LJ (Ext.drew _)).LJ f5;refine cmS0 (MN tO5 (Bind.keyS b.o) (qV _ (by simp[Bnd.o]))) ?_;rintro _ w6 ⟨_,⟨L6,t6,c6'⟩,f6⟩;have hd6:=hd5.fr f6 (by omega);have row6:Row w6 A.sl (S.flatMap iM):=((h3.row.fr f45 (by omega)).fr f6 (by omega));simp only[sx,hd6.cell];refine⟨by omega,by omega,?_⟩;refine NG row6 gl none λw7 row7 f7 z7=> ?_;have hd7:=hd6.fr f7 n1;simp only[d_,f_,gq,hd7.cell];have hlen:=Gp.Bind.ku 0 g1;have hll:=Gp.Bind.ji S 0;rw[Α];refine gY hd7 rfl (by simp) λw8 hd8 f8 z8=> ?_;simp only[af7,agO] at hd8;have f8d:=f8 (·=A.d) rfl;have eu:∀M k v,Go.Proofs.upd M k v=Gp.Bind.upd M k v:=λ_ _ _=>rfl;have tI8:=((tI5.fr f6 (by omega) (by omega)).fr f7 (ah6 n6) (ah6 n7)).fr f8d (ah6 n2) (ah6 n3);have tO8:=(t6.fr f7 (ah6 n8) (ah6 n9)).fr f8d (ah6 n4) (ah6 n5);rw[eu] at tI8 tO8;have ff:gV w1 w8 (fp A):=by
   have q1:gV w1 w5 (fp A):=((x2.trans f3) _).trans f45 λx _ hx=>by
    rcases hx with hx|hx
    ·exact .inr (.inr (.inl hx))
    ·exact .inr (.inr (.inr (.inl hx)))
   have q2:gV w1 w6 (fp A):=q1.trans f6 λx _ hx=>by
    rcases hx with hx|hx
    ·exact .inr (.inr (.inr (.inr (.inl hx))))
    ·exact .inr (.inr (.inr (.inr (.inr hx))))
   exact(q2.trans f7 λx _ hx=> .inr (.inl hx)).trans f8d λx _ hx=> .inl hx
  have e:((live 0 S).length:Int) - 1=((live 0 (S.set id.toNat none)).length:Int):=by omega
  rw[e] at hd8;rw[u] at c4';rw[I] at c6';simp only[ajX,aiS] at c4' c6';have db:DB w8 A most (S.set id.toNat none) (Gp.Bind.upd Mi (Bind.keyS b.i) none) (Gp.Bind.upd Mo (Bind.keyS b.o) none):=
   ⟨hd8,row7.fr f8d (ah6 n1),by simp_all,hm,⟨L4,tI8,by omega⟩,⟨L6,tO8,by omega⟩,h.good.remove g1,h.ne⟩
  grind
def yD (L:List (Int×Bnd)):List (zI [.one ν,.agg [ν,ν,ν,ν,ν,ν,ν,.bool]]):=
 L.map λx=>(x.1,(x.2.sw,x.2.pr,x.2.ad,x.2.po,x.2.opr,x.2.oad,x.2.opo,x.2.st,()),())
theorem lG:∀(S T:Slots) (k:Nat),live k (S++T)=live k S++live (k+S.length) T
 |[],T,k=>by simp[live]
 |none::r,T,k=>by rw[alr,live,live,lG r T (k+1)];grind
 |some b::r,T,k=>by rw[alr,live,live,lG r T (k+1)];grind
theorem YS {S:Slots} {i:Nat} {b:Bnd} (h:S[i]? =some (some b)):(live 0 S)[(live 0 (S.take i)).length]? =some ((i:Int),b)/\(live 0 (S.take (i+1))).length=(live 0 (S.take i)).length+1:=by
 have u:=(aeK.1 h).1;have hS:S[i]=some b:=by simp_all
 have e1:S=S.take i++some b::S.drop (i+1):=by
  conv=>lhs;rw[<- ajS i S,alI u,hS]
 have hl:(S.take i).length=i:=by simp;omega
 constructor
 ·conv=>lhs;rw[e1]
  rw[lG,akQ (by simp[hl])];simp[live,hl]
 ·rw[aj3 u,hS,lG];simp[live]
theorem PK {S:Slots} {i:Nat} (h:S[i]? =some none):(live 0 (S.take (i+1))).length=(live 0 (S.take i)).length:=by
 have u:=(aeK.1 h).1;have hS:S[i]=none:=by simp_all
 rw[aj3 u,hS,lG];simp[live]
theorem ag9 (n:Int) (w:θ):Md n w λp e w'=>Ext w w'/\((¬(0<=n/\n<=4096)/\p=none/\e=1)\/(0<=n/\n<=4096/\e=0/\∃A,p=some ⟨A.d,0,none⟩/\(∀x,fp A x->w.heap.size<=x/\x<w'.heap.size)/\DB w' A n.toNat (List.replicate n.toNat none) (λ_=>none) (λ_=>none))):=by
 apply ϭ;by_cases c1:n<0
 ·simp only[c1,ace,aaU];exact⟨Ext.refl _,.inl ⟨by omega,by trivial,by trivial⟩⟩
 by_cases c2:n>4096
 ·simp only[c1,c2,ace,acQ,aaU,aaT];exact⟨Ext.refl _,.inl ⟨by omega,by trivial,by trivial⟩⟩
 simp only[c1,c2,acQ,aaT];refine cmS5 (YJ n w) ?_;rintro p1 e1 w1 ⟨f1,(⟨_,_,rfl,ti,rfl,l1,t1⟩|⟨h,_,_⟩)⟩;rotate_left
 ·omega
 refine cmS5 (YJ n w1) ?_;rintro p2 e2 w2 ⟨f2,(⟨_,_,rfl,tu,rfl,l2,t2⟩|⟨h,_,_⟩)⟩;rotate_left
 ·omega
 simp only[show ((0:Int) !=0)=false from rfl,aaT];refine HY (by omega) (by omega) (by omega) (by omega) λsl w3 r3 e3 z3 f3=> ?_;refine gy λd w4 r4 e4 z4 f4=> ?_;obtain⟨m,rfl⟩:∃m:Nat,n=(m:Int):=⟨n.toNat,by omega⟩;simp only[ab3] at r3 r4 ⊢;have f1:Ext w w1:=f1;have f2:Ext w1 w2:=f2;have f3:Ext w2 w3:=f3;have x4:=(f1.trans f2).trans (f3.trans f4);have i1:=t1.ht.hd.lt;have i2:=t2.ht.hd.lt;have s1:=f2.size;have u_:∀(k j:Nat),live j (List.replicate k none)=[]:=by
  intro k
  induction k with
  |zero=>intro j;rfl
  |succ k ih=>intro j;rw[alB,live];exact ih _
 have rep:∀k,gX [Β 0,Β 0,Β 0,Β 0,Β 0,Β 0,Β 0,Value.bool false,Value.bool false] k=(List.replicate k (none:Option Bnd)).flatMap iM:=by
  intro k
  induction k with
  |zero=>rfl
  |succ k ih=>rw[gX,ih,alB,ak0];rfl
 refine⟨x4,.inr ⟨by omega,by omega,by trivial,⟨d,sl,ti,ti,tu,tu⟩,rfl,?_,?_⟩⟩
 ·intro x hx;rcases hx with hx|hx|hx|hx|hx|hx<;>simp only at hx<;>omega
 ·refine⟨?_,?_,by simp,by omega,⟨[],?_,?_⟩,⟨[],?_,?_⟩,⟨λk v=> ?_,λk v=> ?_,λj b hb=> ?_⟩,?_⟩
  ·rw[u_];exact r4
  ·rw[<- rep];exact r3.ext f4
  ·exact t1.LJ (f2.trans (f3.trans f4))
  ·rw[u_];rfl
  ·exact t2.LJ (f3.trans f4)
  ·rw[u_];rfl
  ·grind
  ·grind
  ·rw[alY] at hb;split at hb<;>simp at hb
  ·refine⟨?_,?_,?_,?_,?_,?_,?_,?_,?_,?_,?_,?_,?_⟩<;>simp only<;>omega
end
end Go.Proofs
end
section
namespace Gp.Ses
open Gp.V4
open Gp.Bind (keyB keyS keyS_inj In64 upd)
structure Ses where
 bd:Int
 st:Int
 un:Int
 ra:Int
 rp:Int
deriving DecidableEq
def Ses.k (b:Ses):List Int:=[b.bd,b.ra,b.rp]
def Ses.ok (b:Ses):Prop:=∀n∈b.k,In64 n
abbrev Slots:=List (Option Ses)
def live:Nat->Slots->List (Int×Ses)
 |_,[]=>[]
 |i,none::r=>live (i+1) r
 |i,some b::r=>((i:Int),b)::live (i+1) r
theorem jL:∀{S:Slots} {k:Nat} {v:Int} {b:Ses},(v,b)∈live k S↔∃i:Nat,S[i]? =some (some b)/\v=((k+i:Nat):Int)
 |[],k,v,b=>by simp[live]
 |none::r,k,v,b=>by
  rw[live,jL];constructor
  ·rintro⟨i,h1,h2⟩;exact⟨i+1,by trivial,by omega⟩
  grind
 |some c::r,k,v,b=>by
  rw[live,agN,jL];constructor
  ·rintro(h|⟨i,h1,h2⟩)
   ·grind
   ·exact⟨i+1,by trivial,by omega⟩
  grind
theorem ji:∀(S:Slots) (k:Nat),(live k S).length<=S.length
 |[],_=>by simp[live]
 |none::r,k=>by have:=ji r (k+1);simp[live];omega
 |some b::r,k=>by have:=ji r (k+1);simp[live];omega
def freeN:Slots->Option Nat
 |[]=>none
 |none::_=>some 0
 |some _::r=>(freeN r).map (·+1)
theorem jm:∀{S:Slots} {i:Nat} (k:Nat),freeN S=some i->i<S.length/\S[i]? =some none/\(live k S).length<S.length/\i<=(live k S).length/\(∀j,j<i->∃b,(live k S)[j]? =some (((k+j:Nat):Int),b)/\S[j]? =some (some b))/\
  (∀v b,(live k S)[i]? =some (v,b)->v≠((k+i:Nat):Int))/\∀b,live k (S.set i (some b))=(live k S).take i++(((k+i:Nat):Int),b)::(live k S).drop i
 |[],i,_,h=>by trivial
 |none::r,i,k,h=>by
  simp[freeN] at h;subst h;have hl:=ji r (k+1);refine⟨by simp,rfl,by simp[live];omega,by omega,by omega,λv b hv=> ?_,λb=>by simp[live]⟩;have:=akK hv;rw[live,jL] at this;omega
 |some c::r,i,k,h=>by
  simp only[freeN,alK] at h;obtain⟨i',h',rfl⟩:=h;obtain⟨h1,h2,h3,h4,h5,h6,h7⟩:=jm (k+1) h';refine⟨by simp;omega,by trivial,by simp[live];omega,by simp[live];omega,λj hj=> ?_,λv b hv=> ?_,λb=> ?_⟩
  ·cases j with
   |zero=>exact⟨c,by simp[live],by simp⟩
   |succ j=>
    obtain⟨b,g1,g2⟩:=h5 j (by omega);refine⟨b,?_,by trivial⟩;rw[live,aeR,g1,show k+1+j=k+(j+1) by omega]
  ·rw[live,aeR] at hv
   grind
  ·rw[agO,live,h7 b,live,amI,List.drop_succ_cons,show k+1+i'=k+(i'+1) by omega];rfl
theorem ku:∀{S:Slots} {i:Nat} {b:Ses} (k:Nat),S[i]? =some (some b)->(live k (S.set i none)).length+1=(live k S).length
 |[],_,_,_,h=>by simp at h
 |c::r,0,b,k,h=>by
  simp at h;subst h;simp[live]
 |none::r,i+1,b,k,h=>by
  rw[agO,live,live];exact ku (k+1) (by simpa using h)
 |some c::r,i+1,b,k,h=>by
  rw[agO,live,live,aiQ,aiQ,ku (k+1) (by simpa using h)]
structure GoodS (S:Slots) (M:ByteArray->Option Int):Prop where
 k:∀k v,M k=some v↔∃(j:Nat) (b:Ses),S[j]? =some (some b)/\keyS b.k=k/\v=(j:Int)
 ok:∀(j:Nat) (b:Ses),S[j]? =some (some b)->b.ok
theorem iY {S:Slots} {i j:Nat} {v:Option Ses} (hi:i<S.length):(S.set i v)[j]? =if i=j then some v else S[j]? :=by
 grind
theorem GoodS.add {S:Slots} {M:ByteArray->Option Int} (h:GoodS S M) {i:Nat} {b:Ses} (hi:S[i]? =some none) (hb:b.ok) (h1:M (keyS b.k)=none):GoodS (S.set i (some b)) (upd M (keyS b.k) (some i)):=by
 have hl:=(aeK.1 hi).1;refine⟨λk v=> ?_,λj c hc=> ?_⟩
 ·unfold upd;by_cases hk:k=keyS b.k
  ·rw[aeH hk];constructor
   ·grind
   ·rintro⟨j,c,hc,hk2,rfl⟩;rw[iY hl] at hc;split at hc
    ·simp_all
    ·have:=(h.k k j).2 ⟨j,c,hc,hk2,rfl⟩
     simp_all
  ·rw[ada hk,h.k]
   grind
 ·rw[iY hl] at hc;split at hc
  ·simp only[agP] at hc;subst hc;exact hb
  ·exact h.ok j c hc
theorem GoodS.one {S:Slots} {M:ByteArray->Option Int} (h:GoodS S M) {i j:Nat} {b c:Ses} (hi:S[i]? =some (some b)) (hj:S[j]? =some (some c)) (e:keyS b.k=keyS c.k):i=j:=by
 have h1:=(h.k _ i).2 ⟨i,b,hi,rfl,rfl⟩;have h2:=(h.k _ j).2 ⟨j,c,hj,rfl,rfl⟩
 grind
theorem GoodS.remove {S:Slots} {M:ByteArray->Option Int} (h:GoodS S M) {i:Nat} {b:Ses} (hi:S[i]? =some (some b)):GoodS (S.set i none) (upd M (keyS b.k) none):=by
 have hl:=(aeK.1 hi).1;refine⟨λk v=> ?_,λj c hc=> ?_⟩
 ·unfold upd;by_cases hk:k=keyS b.k
  ·rw[aeH hk];constructor
   ·simp
   ·rintro⟨j,c,hc,hk2,rfl⟩;rw[iY hl] at hc;split at hc
    ·cases hc
    ·rename_i e;exact absurd (h.one hi hc (by rw[hk2,hk])) e
  ·rw[ada hk,h.k]
   grind
 ·rw[iY hl] at hc;split at hc
  ·cases hc
  ·exact h.ok j c hc
theorem GoodS.put {S:Slots} {M:ByteArray->Option Int} (h:GoodS S M) {i:Nat} {b b':Ses} (hi:S[i]? =some (some b)) (he:b'.k=b.k):GoodS (S.set i (some b')) M:=by
 have hl:=(aeK.1 hi).1;refine⟨λk v=> ?_,λj c hc=> ?_⟩
 ·rw[h.k]
  grind
 ·rw[iY hl] at hc;split at hc
  ·cases hc
   have:=h.ok i b hi;unfold Ses.ok at this ⊢;rw[he];exact this
  ·exact h.ok j c hc
def getS (S:Slots) (id:Int):Option Ses:=if 0<=id then (S[id.toNat]?).join else none
theorem kY {S:Slots} {id:Int} {b:Ses}:getS S id=some b↔0<=id/\S[id.toNat]? =some (some b):=by
 unfold getS
 grind
theorem Un:∀{S:Slots} {i:Nat} {b:Ses} (b':Ses) (k:Nat),S[i]? =some (some b)->live k (S.set i (some b'))=(live k S).map λx=>if x.1=((k+i:Nat):Int) then (x.1,b') else x
 |[],_,_,_,_,h=>by simp at h
 |none::r,0,b,b',k,h=>by simp at h
 |some c::r,0,b,b',k,h=>by
  have u:∀x∈live (k+1) r,(if x.1=((k+0:Nat):Int) then (x.1,b') else x)=x:=by
   rintro⟨v,b⟩ hx;obtain⟨j,_,hj⟩:=jL.1 hx
   grind
  rw[af7,live,live,ajU,aeH (by simp),List.map_congr_left u,List.map_id']
 |none::r,i+1,b,b',k,h=>by
  rw[agO,live,live,Un b' (k+1) (by simpa using h),show k+1+i=k+(i+1) by omega]
 |some c::r,i+1,b,b',k,h=>by
  rw[agO,live,live,ajU,Un b' (k+1) (by simpa using h),show k+1+i=k+(i+1) by omega,ada (by omega)]
theorem Du:∀(S:Slots) (k:Nat),(live k S).Pairwise (λx y=>x.1<y.1)/\∀x∈live k S,(k:Int)<=x.1
 |[],_=>by simp[live]
 |none::r,k=>by
  have:=Du r (k+1);refine⟨this.1,λx hx=> ?_⟩;have:=this.2 x hx;omega
 |some b::r,k=>by
  have:=Du r (k+1);rw[live];refine⟨amJ.2 ⟨λx hx=>by grind,this.1⟩,λx hx=> ?_⟩
  grind
def ids (S:Slots) (k:Int):List Int:=((live 0 S).filter λx=>x.2.bd==k).map (·.1)
theorem qG (S:Slots) (k:Int):(ids S k).Pairwise (·<·):=by
 unfold ids;rw[List.pairwise_map];exact((Du S 0).1.filter _)
theorem yR {S:Slots} {k v:Int}:v∈ids S k↔∃(i:Nat) (b:Ses),S[i]? =some (some b)/\v=(i:Int)/\b.bd=k:=by
 unfold ids;rw[akR];constructor
 ·rintro⟨⟨v',b⟩,h,rfl⟩;obtain⟨h1,h2⟩:=alv.1 h;obtain⟨i,h3,h4⟩:=jL.1 h1
  grind
 ·rintro⟨i,b,h1,rfl,h2⟩;exact⟨((i:Int),b),alv.2 ⟨jL.2 ⟨i,h1,by omega⟩,by simp_all⟩,rfl⟩
theorem J_ {l m:List Int} (hl:l.Pairwise (·<·)) (hm:m.Pairwise (·<·)) (h:∀v,v∈l↔v∈m):l=m:=by
 induction l generalizing m with
 |nil=>
  cases m with
  |nil=>rfl
  |cons a m=>have:=(h a).2 (by simp);simp at this
 |cons a l ih=>
  cases m with
  |nil=>grind
  |cons b m=>
   rw[amJ] at hl hm;have h1:=(h a).1 (by simp);have h2:=(h b).2 (by simp)
   grind
theorem aho {S:Slots} {i:Nat} {b:Ses} (hi:S[i]? =some none) {p:Nat} (h1:∀(j:Nat) v,j<p->(ids S b.bd)[j]? =some v->v<(i:Int)) (h2:∀(j:Nat) v,p<=j->(ids S b.bd)[j]? =some v->¬v<(i:Int)) (hp:p<=(ids S b.bd).length):
  ids (S.set i (some b)) b.bd=(ids S b.bd).take p++(i:Int)::(ids S b.bd).drop p:=by
 have hl:=(aeK.1 hi).1;have hni:(i:Int)∉ids S b.bd:=λh=>by
  obtain⟨j,c,hc,hj,_⟩:=yR.1 h
  grind
 have hs:=qG S b.bd;refine J_ (qG _ _) ?_ λv=> ?_
 ·rw[List.pairwise_append,amJ];refine⟨hs.sublist (List.take_sublist ..),⟨λq hq=> ?_,hs.sublist (List.drop_sublist ..)⟩,λq hq r hr=> ?_⟩
  ·obtain⟨k,hk⟩:=alV hq
   grind
  ·obtain⟨k,hk,he⟩:=amv.1 hq;have u:=h1 k q (by omega) (by grind);rcases agN.1 hr with rfl|hr
   ·exact u
   ·obtain⟨k',hk'⟩:=alV hr
    grind
 ·rw[yR,akX,agN,<- or_assoc,or_right_comm,or_comm,<- akX,ajS,yR]
  grind
theorem V5 {S:Slots} {i:Nat} {b:Ses} (hi:S[i]? =some none) {k:Int} (hk:k≠b.bd):ids (S.set i (some b)) k=ids S k:=by
 have hl:=(aeK.1 hi).1;refine J_ (qG _ _) (qG _ _) λv=> ?_;rw[yR,yR]
 grind
theorem Ug {S:Slots} {i:Nat} {b:Ses} (hi:S[i]? =some (some b)) (k:Int):ids (S.set i none) k=(ids S k).filter λv=>v !=(i:Int):=by
 have hl:=(aeK.1 hi).1;refine J_ (qG _ _) ((qG S k).filter _) λv=> ?_;rw[yR,alv,yR]
 grind
theorem PG {S:Slots} {i:Nat} {b:Ses} (hi:S[i]? =some (some b)) {k:Int} (hk:k≠b.bd):ids (S.set i none) k=ids S k:=by
 rw[Ug hi,amK];intro v hv;obtain⟨j,c,hc,rfl,hb⟩:=yR.1 hv
 grind
theorem acO {S:Slots} {i:Nat} {b b':Ses} (hi:S[i]? =some (some b)) (he:b'.bd=b.bd) (k:Int):ids (S.set i (some b')) k=ids S k:=by
 have hl:=(aeK.1 hi).1;refine J_ (qG _ _) (qG _ _) λv=> ?_;rw[yR,yR]
 grind
theorem Sj (S:Slots) (k:Int):(ids S k).length<=S.length:=by
 unfold ids;rw[ahc];exact aj0 (amL ..) (ji S 0)
end Gp.Ses
end
section
namespace Go.Proofs.SN
open Gp Gp.Hash
abbrev eI (x:Int):List Value:=[Β x]
theorem jr (x:Int):(eI x).length=1:=rfl
theorem Iu (x:Int):∀v∈eI x,iI v=true:=by intro v hv;rw[akU.1 hv];rfl
theorem SlN_ix {α:Type} {n:Nat} {f:α->List Value} {w:θ} {s:fU} {xs:List α} (hn:∀x,(f x).length=n) (hn0:0<n) (h:lK n f w s xs) {i:Int} {K:Addr->Prop} {x:α} (h0:0<=i) (hx:xs[i.toNat]? =some x)
  (hK:∀a:Addr,(∀j v,(f x)[j]? =some v->w.cell? (a.add j)=some v)->K a):iE s n i K:=by
 obtain⟨a,ha,hc⟩:=h.at_ hn hn0 hx;have hlt:=(aeK.1 hx).1;obtain⟨sa,sl,sc⟩:=s;simp only at ha;subst ha;have hl:sl=xs.length:=h.len;refine(Az ..).2 ⟨h0,by omega,hK _ λj v hj=> ?_⟩;rw[<- hc j v hj];congr 1;obtain⟨b,o,t⟩:=a;unfold Addr.add;by_cases h1:i.toNat * n=0<;>by_cases h2:j=0<;>simp[h1,h2,alD]
theorem ahl {a b:Nat} (h:a+b<=2^40):ο.wrap (jE .u64 (IntKind.u64.wrap (ο.wrap ((a:Int)+(b:Int)))) 1)=(((a+b) / 2:Nat):Int):=by
 rw[Α (n:=(a:Int)+(b:Int)) (by omega) (by omega)];have h1:IntKind.u64.wrap ((a:Int)+(b:Int))=((a+b:Nat):Int):=by
  simp only[IntKind.wrap,IntKind.bits,IntKind.signed,Bool.false_and,Bool.false_eq_true,ajY];omega
 rw[h1];have h2:jE .u64 ((a+b:Nat):Int) 1=(((a+b) / 2:Nat):Int):=by
  unfold jE;have:min (1:Int).toNat IntKind.u64.bits=1:=rfl
  grind
 rw[h2,Α]
theorem Og (a:Int) (w:θ):mD a w λr w'=>r=false/\w'=w:=by
 apply EG;simp
theorem adS {w:θ} {s:fU} {xs:List Int} {y:Int} {vb i:Nat} (hs:iQ 1 eI w s xs) (hy:Row w vb (eI y)) (hv:∀b,fU.at s b->b≠vb) (hi:i<=xs.length) (hl:xs.length<=2^30):
  pG s (i:Int) ⟨some ⟨vb,0,none⟩,1,1⟩ w λr w'=>iQ 1 eI w' r (xs.take i++y::xs.drop i)/\gV w w' (fU.at s)/\∀b,fU.at r b->fU.at s b\/w.heap.size<=b:=by
 apply Ei;have hlen:=hs.len;have ab:=hs.sl jr (by omega);have U:=ab.cap;have ac:=(iQ.row (xs:=[y]) (by simpa using hy)).sl jr (by omega);refine acr jr ab (by omega) (by omega) (by omega) λs4 _=> ?_;simp only;rw[show (((1:Nat):Int)==0)=false from rfl,aaT];by_cases he:(i:Int)=(s.len:Int)
 ·rw[show ((i:Int)==(s.len:Int))=true by simp_all,aaU];refine lJ jr hs ac rfl (by omega) Iu (by grind) (by grind) λs' w' h1 h2 h3=> ?_;refine⟨?_,h2,h3⟩;rw[akM (by omega),List.drop_of_length_le (by omega)];exact h1
 rw[show ((i:Int)==(s.len:Int))=false by simp_all,aaT];have hi':i<xs.length:=by omega
 have hx:=ade hi';generalize xs[i]=x at hx;obtain⟨b,pad,ha,hc,hr⟩:∃b pad,s.a=some ⟨b,0,none⟩/\s.cap * 1=xs.length * 1+pad.length/\Row w b (xs.flatMap eI++pad):=by
  rcases hs.mem with ⟨_,h,_⟩|h
  ·omega
  ·exact h
 have ae:=hv b ⟨0,ha⟩;obtain⟨sa,sl,sc⟩:=s;simp only at ha hc hlen U he;subst ha;subst hlen;have lt:=iU eI 1 jr (xs.take i);have ld:=iU eI 1 jr (xs.drop i);have ld1:=iU eI 1 jr (xs.drop (i+1));rw[ajT,alH (by omega)] at lt;rw[alx] at ld ld1;have oned:∀v∈(xs.drop i).flatMap eI,iI v=true:=λv hv=>by
  obtain⟨z,_,hz⟩:=List.mem_flatMap.1 hv;exact Iu z v hz
 rw[Α (n:=(xs.length:Int)+((1:Nat):Int)) (by omega) (by omega)];by_cases hg:(xs.length:Int)+((1:Nat):Int)>(sc:Int)
 ·rw[aeJ hg,aaU];refine⟨by trivial,by omega,by grind,?_⟩;rw[Α,show ((xs.length:Int)+((1:Nat):Int)) - (i:Int)=((xs.length+1 - i:Nat):Int) by omega];simp only[ab3,al_,alN];have W:qU (some (⟨b,0,none⟩:Addr)) sc 0 1=some ⟨b,0,none⟩:=by
   unfold qU;split<;>simp[Addr.add]
  rw[W];have Y:nZ w (some ⟨b,0,none⟩) (i * 1) ((xs.take i).flatMap eI):=by
   refine Pm (A:=[]) (C:=(xs.drop i).flatMap eI++pad) ?_ rfl lt;rw[YE,akc] at hr;exact hr
  refine SK (by grind) (by grind) (by grind) Y λc w1 hc1 r1 f1 z1=> ?_;simp only at hc1 r1 ⊢;rw[show i+(xs.length+1 - i)=xs.length+1 by omega] at hc1 r1 ⊢;obtain⟨k,hk⟩:∃k,xs.length+1 - i=k+1:=⟨xs.length - i,by omega⟩;rw[hk] at r1;have u:∀j:Nat,j<c->qU (some (⟨w.heap.size,0,none⟩:Addr)) c j 1=some ⟨w.heap.size,j * 1,none⟩:=by
   intro j hj;unfold qU;rw[ada (by omega),ag4,gJ,ahO]
  refine⟨by omega,by omega,by grind,?_⟩;simp only[ab3];rw[u i (by omega)];have r1':Row w1 w.heap.size ((xs.take i).flatMap eI++([Β 0]++(gX [Β 0] k++gX [Β 0] (c - (xs.length+1))))):=by
   simpa [gX] using r1
  have Z:=ac.ext f1;refine AU (m:=1) (by simp_all) (by have:=Z.cells;simpa using this) r1' (by simp_all) (Iu y) λw2 r2 f2=> ?_;rw[<- lt,Ko (by rfl)] at r2;rw[Α,show (i:Int)+((1:Nat):Int)=((i+1:Nat):Int) by omega];refine⟨by omega,by omega,by grind,?_⟩;simp only[ab3];rw[u (i+1) (by omega)];have hr2:=((hr.ext f1).fr f2 (by have:=hr.lt;omega)).drew;refine⟨by omega,by omega,by grind,?_⟩;simp only[ab3];have J:qU (some (⟨b,0,none⟩:Addr)) sc i 1=some ⟨b,i * 1,none⟩:=by
   unfold qU;rw[ada (by omega),ag4,gJ,ahO]
  rw[J];have I:nZ w2.drew (some ⟨b,i * 1,none⟩) ((xs.length - i) * 1) ((xs.drop i).flatMap eI):=by
   refine Pm (C:=pad) ?_ lt ld;rw[YE,akc] at hr2;exact hr2
  have r2':Row w2.drew w.heap.size (((xs.take i).flatMap eI++eI y)++(gX [Β 0] k++gX [Β 0] (c - (xs.length+1)))):=by
   rw[akc];exact r2.drew
  have lA:((xs.take i).flatMap eI++eI y).length=(i+1) * 1:=by simp_all
  have lk:(gX [Β 0] k).length=((xs.drop i).flatMap eI).length:=by rw[nG,ld];grind
  refine AU (by simp) I r2' (by grind) oned λw3 r3 f3=> ?_;rw[<- lA,Ko lk] at r3;have f23:=(f2.ext (Ext.drew w2)).trans f3 λ_ _ e=>e;refine⟨⟨by simp;omega,.inr ⟨w.heap.size,gX [Β 0] (c - (xs.length+1)),rfl,?_,?_⟩⟩,f1.new f23 (by omega) _,λb' hb'=> ?_⟩
  ·rw[nG];grind
  ·rw[alh,ak0];simpa using r3
  ·obtain⟨o,e⟩:=hb'
   simp_all
 ·rw[adn hg,aaT];obtain⟨p1,p2,hp,lp1⟩:∃p1 p2,pad=p1++p2/\p1.length=1:=⟨pad.take 1,pad.drop 1,(ajS 1 pad).symm,by grind⟩;subst hp;refine⟨by trivial,by omega,by simp_all,?_⟩;rw[Α,show (i:Int)+((1:Nat):Int)=((i+1:Nat):Int) by omega];have N:qU (some (⟨b,0,none⟩:Addr)) sc 0 1=some ⟨b,0,none⟩:=by
   unfold qU;split<;>simp[Addr.add]
  have u:∀j:Nat,j<sc->qU (some (⟨b,0,none⟩:Addr)) sc j 1=some ⟨b,j * 1,none⟩:=by
   intro j hj;unfold qU;rw[ada (by omega),ag4,gJ,ahO]
  simp only[al_,alN,N];refine⟨by omega,by omega,by simp_all,?_⟩;simp only[ab3];rw[u (i+1) (by omega)];have O:xs.flatMap eI=(xs.take i).flatMap eI++(eI x++(xs.drop (i+1)).flatMap eI):=abu hx;refine VO Tryz.func267 (by kernel_rfl) (by kernel_rfl) (by kernel_rfl) (tS:=25) (tR:=4) (by kernel_rfl) (e:=3) (by kernel_rfl) (by kernel_rfl) hy hr (λe=>ae e.symm) (by
   simp_all) ?_
  refine⟨false,rfl,?_⟩;rw[afa,aaU];refine⟨by omega,by omega,by simp_all,?_⟩;simp only[ab3];rw[u (i+1) (by omega)];refine⟨by omega,by omega,by simp_all,?_⟩;simp only[ab3];rw[u i (by omega)];have R:=hr.drew;have I:nZ w.drew (some ⟨b,i * 1,none⟩) ((xs.length - i) * 1) ((xs.drop i).flatMap eI):=by
   refine Pm (C:=p1++p2) ?_ lt ld;rw[YE,akc] at R;exact R
  have r0:Row w.drew b (((xs.take i).flatMap eI++eI x)++(((xs.drop (i+1)).flatMap eI++p1)++p2)):=by
   rw[O] at R;simpa using R
  have lA:((xs.take i).flatMap eI++eI x).length=(i+1) * 1:=by simp_all
  have lB:((xs.drop (i+1)).flatMap eI++p1).length=((xs.drop i).flatMap eI).length:=by grind
  refine AU (by grind) I r0 (by grind) oned λw2 r2 f2=> ?_;rw[<- lA,Ko lB] at r2;refine⟨by omega,by omega,by simp_all,?_⟩;simp only[ab3];rw[u i (by omega)];have hy2:=hy.drew.fr f2 (λe=>ae e.symm);have aa:=(iQ.row (xs:=[y]) (by simpa using hy2)).sl jr (by omega);have r2':Row w2 b ((xs.take i).flatMap eI++(eI x++((xs.drop i).flatMap eI++p2))):=by simpa using r2
  refine AU (m:=1) (by grind) (by have:=aa.cells;simpa using this) r2' (by simp_all) (Iu y) λw3 r3 f3=> ?_;rw[<- lt,Ko (by rfl)] at r3;have f13:=((gV.drew w _).trans f2 λ_ _ e=>e).trans f3 λ_ _ e=>e;refine⟨⟨by simp;omega,.inr ⟨b,p2,rfl,?_,?_⟩⟩,f13.mono λc hc=>⟨0,by rw[hc]⟩,λb' hb'=> .inl ?_⟩
  ·grind
  ·rw[alh,ak0];simpa using r3
  ·obtain⟨o,e⟩:=hb';exact⟨o,e⟩
theorem adT (a:Int) (w:θ):qy a w λr w'=>r=false/\w'=w:=by
 apply Ll;simp
theorem ahx (a b:Int) (w:θ):AY a b w λr w'=>r=decide (a<b)/\w'=w:=by
 apply Ri;intro J;refine cmS0 (Og _ _) ?_;rintro r w' ⟨rfl,hw⟩;subst hw;rw[aaT];exact⟨rfl,rfl⟩
theorem CV {w:θ} {s:fU} {l:List Int} (h:lK 1 eI w s l) {k:Nat} {z:Int} (hk:l[k]? =some z) {K:Addr->Prop} (hK:∀a,w.cell? a=some (Β z)->K a):iE s 1 (k:Int) K:=
 SlN_ix jr (by omega) h (by omega) (by trivial) λa hc=>hK a (hc 0 _ rfl)
theorem ai1 {w:θ} {s:fU} {xs:List Int} (hs:lK 1 eI w s xs) (hl:xs.length<=2^30) (N:xs.Pairwise (·<·)) (v:Int):
  lZ s v w λr _ w'=>(∃i:Nat,r=(i:Int)/\i<=xs.length/\(∀(k:Nat) u,k<i->xs[k]? =some u->u<v)/\∀(k:Nat) u,i<=k->xs[k]? =some u->¬u<v)/\w'=w:=by
 apply yc;have hlen:=hs.len;have mono:∀(i j:Nat) (u u':Int),i<j->xs[i]? =some u->xs[j]? =some u'->u<u':=by
  intro i j u u' O h1 h2;obtain⟨g1,rfl⟩:=aeK.1 h1;obtain⟨g2,rfl⟩:=aeK.1 h2;exact amb.1 N i j g1 g2 O
 refine gI (λst W=>∃i j:Nat,i<=j/\j<=xs.length/\st.1=(i:Int)/\st.2.1=(j:Int)/\W=w/\(∀(k:Nat) u,k<i->xs[k]? =some u->u<v)/\∀(k:Nat) u,j<=k->xs[k]? =some u->¬u<v)
  (λst _=>(st.2.1 - st.1).toNat) ⟨0,xs.length,by omega,by omega,rfl,by simp_all,rfl,λk u h=>by omega,λk u h hx=>by
   grind⟩ ?_
 rintro⟨i',j',⟨⟩⟩ W ⟨i,j,O,hj,hi1,hj1,rfl,hb,ha⟩ next I
 simp only at hi1 hj1;subst hi1 hj1;simp -zeta only[ahl (show i+j<=2^40 by omega)];by_cases R:(i:Int)<(j:Int)
 ·rw[aeJ R,aaU];refine⟨by decide,?_⟩;have hm:(i+j) / 2<xs.length:=by omega
  have hx:=ade hm;generalize xs[(i+j) / 2]=u at hx;refine CV hs hx λa hc=> ?_;simp -zeta only[sx,hc];refine cmS0 (ahx _ _ _) ?_;rintro r w' ⟨rfl,hw⟩;subst hw;by_cases hg:u<v
  ·rw[aeJ hg,aaU,Α];refine I _ _ ⟨(i+j) / 2+1,j,by omega,hj,by simp,rfl,rfl,λk z hk hz=> ?_,ha⟩ (by grind)
   grind
  ·rw[adn hg,aaT];refine I _ _ ⟨i,(i+j) / 2,by omega,by omega,rfl,rfl,rfl,hb,λk z hk hz=> ?_⟩ (by grind)
   grind
 ·rw[adn R,aaT];have:i=j:=by omega
  subst this;intro J;have fin:∀b,J (i:Int) b W:=λb=>⟨⟨i,rfl,hj,hb,ha⟩,rfl⟩;clear_value J;by_cases hg:(i:Int)<(s.len:Int)
  ·rw[aeJ hg,aaU];have hx:=ade (show i<xs.length by omega);generalize xs[i]=u at hx;refine CV hs hx λa hc=> ?_;simp -zeta only[sx,hc];by_cases he:u=v
   ·rw[show (u==v)=true by simp_all,aaU];exact fin _
   ·rw[show (u==v)=false by simp_all,aaT];refine CV hs hx λa hc=> ?_;simp -zeta only[f_,gq,hc];refine cmS0 (adT _ _) ?_;rintro r w' ⟨rfl,hw⟩;subst hw;rw[aaT];exact fin _
  ·rw[adn hg,aaT];exact fin _
theorem Pn {w:θ} {s:fU} {xs:List Int} (hs:lK 1 eI w s xs) (hl:xs.length<=2^30):
  ni s w λr w'=>Ext w w'/\iQ 1 eI w' r xs/\∀b,fU.at r b->w.heap.size<=b:=by
 apply EO;have hlen:=hs.len
 cases ha:s.a with
 |none=>
  have hc:=hs.cells;rw[ha] at hc;have h0:=hc;have u:=iU eI 1 jr xs;rw[h0] at u;have:xs=[]:=by
   grind
  subst this;simp only[amu,aaU];exact⟨Ext.refl _,iQ.nil,λb ⟨o,hb⟩=>by cases hb⟩
 |some a=>
  simp only[al5,aaT];refine gy λt w1 rt et zt f1=> ?_;have hb:iQ 1 eI w1 ⟨some ⟨t,0,none⟩,0,0⟩ ([]:List Int):=iQ.row (xs:=[]) rt;refine lJ jr hb (hs.ext f1) rfl (by omega) Iu (by grind) (by grind) λs' w' h1 h2 h3=> ?_;refine⟨f1.new h2 λb hb ⟨o,he⟩=>by simp_all,h1,λb hb=> ?_⟩;rcases h3 b hb with ⟨o,he⟩|h
  ·simp_all
  ·omega
theorem aku (l:List Int):l.flatMap eI=l.map λx=>Β x:=by
 induction l with
 |nil=>rfl
 |cons a l ih=>simp_all
theorem Z4 {w:θ} {b o n c:Nat} {L:List Value} {K:b_} (hr:Row w b L) (ho:o+n<=L.length) (hK:∀w',Row w' b (spl L o (gX [Β 0] n))->gV w w' (·=b)->K w'):JE [Β 0] ⟨some ⟨b,o,none⟩,n,c⟩ w K:=by
 have hrl:(gX [Β 0] n).length=n:=by rw[nG];simp
 refine⟨?_,by trivial,?_⟩
 ·rintro a ha
  cases ha
  intro j hj;simp only[aiQ,alU] at hj;rw[gJ,hr.cell];exact⟨by simp;omega,hr.frozen _⟩
 ·obtain⟨r,f⟩:=wZ (gX [Β 0] n) w L o 0 hr (by omega);refine hK _ ?_ (f (·=b) rfl);simpa [spl] using r
def FnI (v:Value) (C:b_) (p:Int->Bool):Prop:=∀x W (K:Value->b_),C W->K (.bool (p x)) W->jy υ [.one .bool] v [Β x] W K
theorem aje {w:θ} {s:fU} {xs:List Int} {v:Value} {p:Int->Bool} {C:b_} (hs:lK 1 eI w s xs) (hl:xs.length<=2^30) (hp:FnI v C p) (hC:C w):
  jQ s v w λr w'=>((r= -1/\xs.any p=false)\/∃j:Nat,r=(j:Int)/\j<xs.length/\(xs.take j).any p=false/\(xs.take (j+1)).filter (λx=> !p x)=xs.take j)/\w'=w:=by
 apply rU;have hlen:=hs.len;refine gI (λst W=>∃j:Nat,j<=xs.length/\st.1=(j:Int)/\W=w/\(xs.take j).any p=false) (λst _=>(s.len - st.1).toNat) ⟨0,by omega,rfl,rfl,by simp⟩ ?_;rintro⟨i,⟨⟩⟩ W ⟨j,hj,hi,rfl,hm⟩ next h
 simp only at hi;subst hi;by_cases u:(j:Int)<(s.len:Int)
 ·simp only[u,ace,aaU];have hx:=ade (show j<xs.length by omega);generalize xs[j]=x at hx;have htk:xs.take (j+1)=xs.take j++[x]:=by rw[aly,hx];rfl
  refine CV hs hx λa hc=> ?_;simp only[sx,hc];refine hp x W _ hC ⟨p x,rfl,?_⟩
  cases he:p x
  ·simp only[aaT];rw[Α];refine h _ _ ⟨j+1,by omega,by simp,rfl,?_⟩ (by omega)
   simp_all
  ·simp only[aaU];refine⟨.inr ⟨j,rfl,by omega,hm,?_⟩,by trivial⟩
   simp_all
 ·simp only[u,acQ,aaT]
  grind
theorem ag5 {w:θ} {s:fU} {xs:List Int} {v:Value} {p:Int->Bool} {C:b_} (hs:iQ 1 eI w s xs) (hl:xs.length<=2^30) (hp:FnI v C p) (hC:∀W,gV w W (fU.at s)->C W):
  ny s v w λr w'=>iQ 1 eI w' r (xs.filter λx=> !p x)/\gV w w' (fU.at s)/\∀b,fU.at r b->fU.at s b:=by
 apply zS;have hlen:=hs.len;have ae:=hs.sl jr (by omega);have U:=ae.cap;refine cmS1 (aje ae hl hp (hC w (gV.refl _ _))) ?_;rintro r w' ⟨h,hw⟩;subst hw;rcases h with ⟨rfl,hno⟩|⟨i0,rfl,hi0,hany,Y⟩
 ·rw[show ((-1:Int)== -1)=true from rfl,aaU];refine⟨?_,gV.refl _ _,λb hb=>hb⟩;rw[amK.2 (λy hy=>by simp_all)];exact hs
 rw[show ((i0:Int)== -1)=false from ama.2 (by omega),aaT];obtain⟨b,pad,ha,hc,hr⟩:∃b pad,s.a=some ⟨b,0,none⟩/\s.cap * 1=xs.length * 1+pad.length/\Row w' b (xs.flatMap eI++pad):=by
  rcases hs.mem with ⟨_,h,_⟩|h
  ·simp_all
  ·exact h
 obtain⟨sa,sl,sc⟩:=s;simp only at ha hc hlen U;subst ha;subst hlen;rw[aku] at hr;rw[Α];have af:∀{W},gV w' W (·=b)->gV w' W (fU.at ⟨some ⟨b,0,none⟩,xs.length,sc⟩):=λhf=>hf.mono λc hc=>⟨0,by rw[hc]⟩;refine gI (λst W=>∃j:Nat,j<=xs.length/\st.2.1=(j:Int)/\st.1=(((xs.take j).filter λx=> !p x).length:Int)/\((xs.take j).filter λx=> !p x).length<j/\gV w' W (·=b)/\∃mid,mid.length=j - ((xs.take j).filter λx=> !p x).length/\Row W b ((((xs.take j).filter λx=> !p x).map λx=>Β x)++(mid++(((xs.drop j).map λx=>Β x)++pad))))
  (λst _=>(xs.length - st.2.1).toNat) ⟨i0+1,by omega,by simp,by grind,by grind,gV.refl _ _,?_⟩ ?_
 ·rw[Y,ajT,alH (by omega)];have hx:=ade hi0;refine⟨[Β xs[i0]],by simp,?_⟩;have:xs.map (λx=>Β x)=(xs.take i0).map (λx=>Β x)++(Β xs[i0]::(xs.drop (i0+1)).map λx=>Β x):=by
   conv=>lhs;rw[<- ajS i0 xs,alI hi0,alz,ajU]
  rw[this] at hr;simpa using hr
 rintro⟨i',j',⟨⟩⟩ W ⟨j,hj,hj1,hi1,hij,hf,mid,Z,I⟩ next u
 simp only at hj1 hi1;subst hj1 hi1;generalize aa:(xs.take j).filter (λx=> !p x)=kp at *;have ai:(kp.map λx=>Β x).length=kp.length:=ahc ..;by_cases ag:(j:Int)<(xs.length:Int)
 ·rw[aeJ ag,aaU];intro J;have hx:=ade (show j<xs.length by omega);have ah:=alI (show j<xs.length by omega);generalize xs[j]=x at hx ah;have htk:xs.take (j+1)=xs.take j++[x]:=by grind
  rw[ah,ajU] at I;have N:W.cell? ⟨b,j,none⟩=some (Β x):=by
   rw[I.cell,akQ (by omega),akQ (by omega),show j - (kp.map λx=>Β x).length - mid.length=0 by omega];rfl
  refine(Az _ xs.length sc _ (j:Int) _).2 ⟨by omega,by omega,?_⟩;rw[gJ,ahO,ab3,aiG];simp -zeta only[sx,N];refine hp x W _ (hC W (af hf)) ⟨p x,rfl,?_⟩
  cases he:p x
  ·rw[afa,aaU];have R:(xs.take (j+1)).filter (λx=> !p x)=kp++[x]:=by simp_all
   refine⟨by omega,by omega,?_⟩;rw[ab3,aiG];refine gY I rfl (by grind) λW2 r2 g2 z2=> ?_;obtain⟨m0,ms,aj⟩:∃m0 ms,mid=m0::ms:=by
    cases mid with
    |nil=>grind
    |cons a l=>simp
   subst aj;rw[alS _ _ (by omega),ai,Nat.sub_self] at r2;simp only[alr,af7] at r2;simp only[J];rw[Α,Α];simp only[aiQ] at Z;refine u _ _ ⟨j+1,by omega,by simp,by simp_all,by simp_all,hf.trans (g2 (·=b) rfl) λ_ _ e=>e,ms++[Β x],by simp_all,?_⟩ (by grind);rw[R];simpa using r2
  ·rw[adp,aaT];have R:(xs.take (j+1)).filter (λx=> !p x)=kp:=by simp_all
   simp only[J];rw[Α];refine u _ _ ⟨j+1,by omega,by simp,by rw[R],by grind,hf,mid++[Β x],by grind,?_⟩ (by grind);rw[R];simpa using I
 ·rw[adn ag,aaT];have ak:j=xs.length:=by omega
  subst ak;rw[akY] at aa;rw[List.drop_length,List.map_nil,alJ] at I;refine⟨by omega,by grind,by grind,?_⟩;simp only[ab3];have am:sc≠kp.length:=by omega
  have ab:qU (some (⟨b,0,none⟩:Addr)) sc kp.length 1=some ⟨b,kp.length,none⟩:=by
   unfold qU;rw[ada am,ag4,gJ,ahO,aiG]
  rw[ab];refine Z4 I (by simp_all) λW2 r2 g2=> ?_;have hrl:(gX [Β 0] (xs.length - kp.length)).length=xs.length - kp.length:=by rw[nG];simp
  have ac:spl ((kp.map λx=>Β x)++(mid++pad)) kp.length (gX [Β 0] (xs.length - kp.length))=(kp.map λx=>Β x)++(gX [Β 0] (xs.length - kp.length)++pad):=by
   have:=Ko (A:=kp.map λx=>Β x) (B:=mid) (C:=pad) (vs:=gX [Β 0] (xs.length - kp.length)) (by omega)
   simp_all
  rw[ac] at r2;refine⟨by trivial,by omega,by grind,?_⟩;have O:qU (some (⟨b,0,none⟩:Addr)) sc 0 1=some ⟨b,0,none⟩:=by
   unfold qU;split<;>simp[Addr.add]
  simp only[ab3,al_,alN,O];refine⟨⟨by rw[aa],.inr ⟨b,gX [Β 0] (xs.length - kp.length)++pad,rfl,?_,?_⟩⟩,af (hf.trans g2 λ_ _ e=>e),λc hc=> ?_⟩
  ·grind
  ·rw[aku,aa];exact r2
  ·obtain⟨o,e⟩:=hc;exact⟨o,e⟩
theorem ai0 (m:Nat):V4.jY 8 m=V4.jY 4 (m / 4294967296)++V4.jY 4 (m % 4294967296):=by
 simp only[V4.jY,alr,alJ,alP,alO];refine⟨?_,?_,?_,?_,?_,?_,?_,?_⟩<;>apply UInt8.toNat_inj.1<;>simp<;>omega
theorem afN {x:Int} (h:Bind.In64 x):lu .i64 (jE .i64 x 32) 4294967295=(((x % 18446744073709551616).toNat / 4294967296:Nat):Int)/\lu .i64 x 4294967295=(((x % 18446744073709551616).toNat % 4294967296:Nat):Int):=by
 obtain⟨h1,h2⟩:=h;have low:∀y:Int,lu .i64 y 4294967295=(((y % 18446744073709551616).toNat % 4294967296:Nat):Int):=by
  intro y;unfold lu;have e1:(BitVec.ofInt (IntKind.bits .i64) y).toNat=(y % 18446744073709551616).toNat:=by rfl
  have e2:(BitVec.ofInt (IntKind.bits .i64) 4294967295).toNat=2^32 - 1:=by rfl
  rw[al3,e1,e2,JG];rw[Α]
 refine⟨?_,low x⟩;rw[low];unfold jE;have e:(2:Int)^(min (32:Int).toNat (IntKind.bits .i64))=4294967296:=by decide
 rw[e,amq _ (by omega)];omega
theorem ZG (bd ra rp:Int) (hr:∀n∈[bd,ra,rp],Bind.In64 n) (w:θ):uY bd ra rp w λr w'=>r=Bind.keyS [bd,ra,rp]/\Ext w w':=by
 apply U9;refine gy λa w1 r1 e1 z1 f1=> ?_;simp only[Xm,gJ,ahO,d_,f_,gq,r1.cell];refine gy λb w2 h e2 z2 f2=> ?_;have f12:=f1.trans f2;obtain⟨ns,J⟩:∃ns:List Int,ns=[bd,ra,rp]:=⟨_,rfl⟩;have hl:ns.length<=10:=by simp_all
 have hl3:ns.length=3:=by rw[J];rfl
 have h:Row w2 b (ns.map λn=>Β n):=by rw[J];exact h
 rw[<- J] at hr ⊢;have e3:(3:Int)=(ns.length:Int):=by omega
 have e3n:(⟨some ⟨b,0,none⟩,3,3⟩:fU)=⟨some ⟨b,0,none⟩,ns.length,3⟩:=by rw[hl3]
 rw[e3n,e3];refine gI (λst W=>∃i:Nat,i<=ns.length/\st.2.1=(i:Int)/\iD W st.1 (Bind.keyB (ns.take i))/\Ext w2 W) (λst _=>ns.length - st.2.1.toNat) ⟨0,by omega,rfl,iD.nil,Ext.refl _⟩ ?_;rintro⟨s,x,⟨⟩⟩ W ⟨i,hi,rfl,hs,hx⟩ next I
 have hs:=hs;by_cases N:i<ns.length
 ·have u:((i:Int)<(ns.length:Int)):=by omega
  simp only[sx,u,ace,ab3,aiG,(h.ext hx).cell,aiN,ade N,ag4];refine⟨by omega,by trivial,by omega,?_⟩;obtain⟨e1,e2⟩:=afN (hr _ (akI N));rw[e1,e2];generalize hm:(ns[i] % 18446744073709551616).toNat=m;have hm2:m<18446744073709551616:=by omega
  have kl:=Bind.Oh (ns.take i);have kl2:(ns.take i).length<=10:=by simp;omega
  refine cmS2 (zT hs (by omega) _ 4) ?_;rintro t1 w1 ⟨b1,f1,_⟩;have p1:lU (Bind.keyB (ns.take i)) ((m / 4294967296:Nat):Int) 4=Bind.keyB (ns.take i)++V4.jY 4 (m / 4294967296):=by
   unfold lU;rw[aeH ⟨⟨by omega,by omega⟩,by omega,by simp;omega⟩];rfl
  rw[p1] at b1;refine cmS2 (zT (iD.iG b1) (by simp[V4.iT];omega) _ 4) ?_;rintro t2 w2 ⟨b2,f2,_⟩;have p2:lU (Bind.keyB (ns.take i)++V4.jY 4 (m / 4294967296)) ((m % 4294967296:Nat):Int) 4=Bind.keyB (ns.take i)++V4.jY 4 (m / 4294967296)++V4.jY 4 (m % 4294967296):=by
   unfold lU;rw[aeH ⟨⟨by omega,by omega⟩,by omega,by simp;omega⟩];rfl
  rw[p2] at b2;rw[Α];refine I _ _ ⟨i+1,by omega,by simp,?_,(hx.trans f1).trans f2⟩ (by grind);have ek:Bind.keyB (ns.take (i+1))=Bind.keyB (ns.take i)++V4.jY 4 (m / 4294967296)++V4.jY 4 (m % 4294967296):=by
   rw[aj3 N];unfold Bind.keyB;rw[alh,List.flatMap_singleton,hm,ai0,akc]
  rw[ek];exact iD.iG b2
 ·have u:¬((i:Int)<(ns.length:Int)):=by omega
  simp only[u,acQ,aaT];have:i=ns.length:=by omega
  subst this;rw[akY] at hs;exact Qu hs ⟨rfl,f12.trans hx⟩
theorem qV (l:List Int) (h:l.length<=10):(Bind.keyS l).size<=2^63 - 1:=by
 have:(Bind.keyS l).size=(Bind.keyB l).length:=rfl;rw[this,Bind.Oh];omega
end Go.Proofs.SN
end
