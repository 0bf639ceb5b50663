import Derived.Test.YtcmnjlhbgjhbcaaGreatDoorG33
import Derived.Test.YtcmnjlhbgjhbcaaGreatDoorW3
import Derived.Test.YtcmnjlhbgjhbcaaGreatDoorW2
import Derived.Lib.Overlaps
import Derived.Shelf.SlSortCmp.WholeK
open List (cons_append getElem?_cons_zero getElem?_eq_getElem getElem?_map getElem?_replicate length_cons replicate_succ take_succ_eq_append_getElem)
open Int (toNat_natCast)
open Option (isNone_none isNone_some map_some)
set_option maxRecDepth 100000
section
namespace Gp.Hash
abbrev Gu:=Option (ByteArray×Int)
def cy (m a:Nat):Nat:=if a<m then a else a - m
def used (L:List Gu) (i:Nat):Prop:=∃e:ByteArray×Int,L[i]? =some (some e)
def Has (L:List Gu) (k:ByteArray) (n:Int):Prop:=∃i:Nat,L[i]? =some (some (k,n))
structure T (H:ByteArray->Nat) (L:List Gu) (X:Nat->Nat->Prop):Prop where
 dist:∀(i j:Nat) (k:ByteArray) (n n':Int),L[i]? =some (some (k,n))->L[j]? =some (some (k,n'))->i=j
 reach:∀(i:Nat) (k:ByteArray) (n:Int),L[i]? =some (some (k,n))->∃D,D<L.length/\cy L.length (H k+D)=i/\∀d,d<D->used L (cy L.length (H k+d))\/X i (cy L.length (H k+d))
def Stop (L:List Gu) (h:Nat) (k:ByteArray) (d:Nat):Prop:=L[cy L.length (h+d)]? =some none\/∃n,L[cy L.length (h+d)]? =some (some (k,n))
structure First (L:List Gu) (h:Nat) (k:ByteArray) (d:Nat):Prop where
 lt:d<L.length
 stop:Stop L h k d
 first:∀d',d'<d->¬Stop L h k d'
section
variable {H:ByteArray->Nat} {L:List Gu} {X:Nat->Nat->Prop} {k:ByteArray} {n:Int}
theorem cyc (m a:Nat):(a<m/\cy m a=a)\/(m<=a/\cy m a=a - m):=by
 unfold cy;split<;>omega
theorem aiO {m a:Nat} (h:a<2 * m):cy m a<m:=by unfold cy;split<;>omega
theorem YJ (t:T H L X) (hX:∀i p,¬X i p) (hh:H k<L.length) {i:Nat} (hi:L[i]? =some (some (k,n))) {d:Nat} (f:First L (H k) k d):cy L.length (H k+d)=i:=by
 obtain⟨D,hD,hc,hu⟩:=t.reach i k n hi;have hs:Stop L (H k) k D:= .inr ⟨n,by rw[hc];exact hi⟩;have h1:¬D<d:=λj=>f.first D j hs
 by_cases h2:d<D
 ·rcases hu d h2 with ⟨e,he⟩|hx
  ·rcases f.stop with h0|⟨n',h0⟩
   ·rw[he] at h0;cases h0
   ·exact t.dist _ _ _ _ _ h0 hi
  ·exact absurd hx (hX _ _)
 ·have:d=D:=by omega
  rw[this,hc]
theorem abW (L:List Gu) (q i:Nat) (e:Gu):(L.set q e)[i]? =if q=i/\q<L.length then some e else L[i]? :=by
 rw[List.getElem?_set];by_cases h1:q=i
 ·subst h1;by_cases h2:q<L.length
  ·simp[h2]
  ·simp[h2]
 ·simp[h1]
def off (m at_ i:Nat):Nat:=if at_<=i then i - at_ else i+m - at_
theorem am_ (m at_ i:Nat):(at_<=i/\off m at_ i=i - at_)\/(i<at_/\off m at_ i=i+m - at_):=by
 unfold off;split<;>omega
def Xj (m at_ e j i p:Nat):Prop:=j<=off m at_ i/\off m at_ i<e/\off m at_ p<j
structure Zone (L:List Gu) (at_ e j:Nat):Prop where
 at_lt:at_<L.length
 e1:e<L.length
 je:j<=e
 full:∀d,j<=d->d<e->used L (cy L.length (at_+d))
 free:L[cy L.length (at_+e)]? =some none
theorem way {m at_ e j h d D:Nat} (hat:at_<m) (he:e<m) (hje:j<e) (hh:h<m) (hD:D<m) (hd:d<D) (hp:cy m (at_+j)=cy m (h+d))
  (hz:¬(j<=off m at_ (cy m (h+D))/\off m at_ (cy m (h+D))<e)):(cy m (at_+e)=cy m (h+(d+(e - j)))/\d+(e - j)<D)\/cy m (at_+e)=cy m (h+D):=by
 have c1:=cyc m (at_+j);have c2:=cyc m (h+d);have c3:=cyc m (h+D);have c4:=cyc m (at_+e);have c5:=cyc m (h+(d+(e - j)));have o1:=am_ m at_ (cy m (h+D));omega
theorem clear {at_ e j:Nat} (z:Zone L at_ e j) (hj:j<e) (hH:∀k,H k<L.length) (t:T H L (Xj L.length at_ e j)):T H (L.set (cy L.length (at_+j)) none) (Xj L.length at_ e (j+1)):=by
 have J:=z.at_lt;have he:=z.e1;have hp:cy L.length (at_+j)<L.length:=aiO (by omega);have old:∀(i:Nat) (k':ByteArray) (n1:Int),(L.set (cy L.length (at_+j)) none)[i]? =some (some (k',n1))->L[i]? =some (some (k',n1))/\cy L.length (at_+j)≠i:=by
  intro i k' n1 hi;rw[abW] at hi;split at hi
  ·cases hi
  ·rename_i h1;exact⟨hi,λh=>h1 ⟨h,hp⟩⟩
 refine⟨λi j' k' n1 n2 hi hj'=>t.dist _ _ _ _ _ (old _ _ _ hi).1 (old _ _ _ hj').1,λi k' n1 hi=> ?_⟩;obtain⟨hi,U⟩:=old _ _ _ hi;simp only[List.length_set];obtain⟨D,hD,hc,hx⟩:=t.reach i k' n1 hi;have hh:=hH k';have hlt:i<L.length:=(List.getElem?_eq_some_iff.1 hi).1;have hoff:off L.length at_ i≠j:=by
  intro h;apply U;unfold off at h;unfold cy;split at h<;>split<;>omega
 refine⟨D,hD,hc,λd hd=> ?_⟩;by_cases I:cy L.length (at_+j)=cy L.length (H k'+d)
 ·
  right;have o1:off L.length at_ (cy L.length (H k'+d))=j:=by rw[<- I];unfold off cy;split<;>split<;>omega
  refine⟨?_,?_,by omega⟩
  all_goals
   by_cases hz:j<=off L.length at_ i/\off L.length at_ i<e
   ·omega
   ·exfalso;have u:=z.free;have key:=way J he hj hh hD hd I (by rw[hc];exact hz);rcases key with ⟨k1,k2⟩|k1
    ·rcases hx _ k2 with ⟨x,hu⟩|hX
     ·rw[<- k1,u] at hu;cases hu
     ·exact hz ⟨hX.1,hX.2.1⟩
    ·rw[k1,hc,hi] at u;cases u
 ·rcases hx d hd with ⟨x,hu⟩|hX
  ·exact .inl ⟨x,by rw[abW,if_neg (λh=>I h.1)];exact hu⟩
  ·exact .inr ⟨by have:=hX.1;omega,hX.2.1,by have:=hX.2.2;omega⟩
theorem akM {m h i:Nat} (hh:h<m) (hi:i<m):off m h i<m/\cy m (h+off m h i)=i:=by
 have c1:=cyc m (h+off m h i);have o1:=am_ m h i;omega
theorem XL {h i:Nat} (hh:h<L.length) (hi:L[i]? =some none):∃d,d<L.length/\Stop L h k d:=by
 have j:i<L.length:=(List.getElem?_eq_some_iff.1 hi).1;obtain⟨h1,h2⟩:=akM hh j;exact⟨_,h1,.inl (by rw[h2];exact hi)⟩
def cnt:List Gu->Nat
 |[]=>0
 |none::r=>cnt r
 |some _::r=>cnt r+1
theorem abV:∀{L:List Gu},cnt L<L.length->∃i:Nat,L[i]? =some none
 |[],h=>by simp[cnt] at h
 |none::_,_=>⟨0,rfl⟩
 |some _::r,h=>by
  obtain⟨i,hi⟩:=abV (L:=r) (by simp only[cnt,length_cons] at h;omega);exact⟨i+1,by simpa using hi⟩
end
end Gp.Hash
end
section
namespace Go.Proofs
open Gp Gp.Hash
theorem aiy {m from_ i:Nat} (hm:m<=2^48) (hf:from_<m) (hi:i<m):Int.tmod (IntKind.i64.wrap ((from_:Int)+(i:Int))) (m:Int)=((cy m (from_+i):Nat):Int):=by
 rw[wrap_i64 (by omega) (by omega),Int.tmod_eq_emod_of_nonneg (by omega)];have c:=cyc m (from_+i);rcases c with ⟨h1,h2⟩|⟨h1,h2⟩
 ·rw[h2,Int.emod_eq_of_lt (by omega) (by omega)];omega
 ·rw[h2];have:((from_:Int)+(i:Int))=((from_+i - m:Nat):Int)+(m:Int):=by omega
  rw[this,Int.add_emod_right,Int.emod_eq_of_lt (by omega) (by omega)]
theorem agt {w:World} {f0 f1 b from_ m:Nat} {body:Nat->zM [.one (.int .i64)]->World->(Exit->b_)->Prop} {Kn Kr:b_} {Kx:List (Nat×(b_))}
  (I:Nat->b_) (J:Exit->b_) (hm:m<=2^48) (hf:from_<m)
  (h0:∀w1,(∀S,fV w w1 S)->w1.heap[w.heap.size]? =some (.deferred (some []))->w1.heap.size=w.heap.size+2->I 0 w1)
  (hI:∀i W,I i W->Row W f0 [.pointer (some ⟨b,0,none⟩)]/\Row W f1 [.int .i64 from_]/\∃s,W.cell? ⟨b,0,none⟩=some (.slice s m m))
  (stI:∀i W W',I i W->fV W W' (·=w.heap.size+1)->I i W')
  (stJ:∀e W W',J e W->fV W W' (·=w.heap.size+1)->J e W')
  (jmp:∀e W,J e W->e= .ret\/∃id,e= .exit id)
  (step:∀i W Kb,i<m->I i W->(∀W',W'.heap[w.heap.size+1]? =(fF W (w.heap.size+1)).heap[w.heap.size+1]? ->I (i+1) W'->Kb .normal W')->
   (∀e W',W'.heap[w.heap.size+1]? =(fF W (w.heap.size+1)).heap[w.heap.size+1]? ->J e W'->Kb e W')->body (w.heap.size+1) (((cy m (from_+i):Nat):Int),()) W Kb)
  (fn:∀W,I m W->Kn W) (fr:∀W,J .ret W->Kr W) (fx:∀id W,J (.exit id) W->Lh id Kx W):
  Ez Tryz.prog none [.one (.int .i64)] (Value.func (.func yT) #[] #[(Value.pointer (some ⟨f0,0,none⟩)),(Value.pointer (some ⟨f1,0,none⟩))]) w body Kn Kr Kx:=by
 refine⟨λl₀ h=>(by cases h),by kernel_rfl,λl L w1 ctx=> ?_⟩;have hl:l=w.heap.size+1:=ctx.at_;subst hl;refine Calls.mono (FY (a0:= .func (.yield (w.heap.size+1)) #[] #[]) (f0:=⟨f0,0,none⟩) (f1:=⟨f1,0,none⟩)
  (K:=λw2=>∃st p,L st p w2/\st≠.busy/\ab2 Kn Kr Kx p (gZ w2 (w.heap.size+1) .exhausted p)) ?_) (λe w' h=>h)
 have i0:=h0 w1 (λS=>⟨by have:=ctx.size;omega,λb hb _=>ctx.old b hb,ctx.io⟩) (ctx.marks rfl) ctx.size;obtain⟨r0,r1,s,hs⟩:=hI _ _ i0;simp only[sx,r0.cell,hs];refine fZ (λst W=>(∃i:Nat,i<=m/\st.1=i/\I i W)/\L .ready none W) (λst _=>m - st.1.toNat) ⟨⟨0,by omega,rfl,i0⟩,ctx.ready⟩ ?_;rintro⟨x,⟨⟩⟩ W ⟨⟨i,hi,rfl,U⟩,hL⟩ next u
 by_cases Y:i<m
 ·have j:((i:Int)<(m:Int)):=by omega
  simp only[j,decide_true,cond_true];have Z:=stI _ _ _ U (fV.drew W _);have z:L .ready none W.drew:=ctx.frame _ _ _ _ hL rfl;obtain⟨r0,r1,s,hs⟩:=hI _ _ Z;simp only[KZ,getElem?_cons_zero,fC,fE,fD,D9,r0.cell,r1.cell,hs];refine⟨by omega,?_⟩;rw[aiy hm hf Y];refine ctx.yield (((cy m (from_+i):Nat):Int),()) W.drew none _ z (step i W.drew _ Y Z ?_ ?_)
  ·intro W' hh hI';refine⟨ctx.frame _ _ _ _ (ctx.busy _ _ z) hh,none,rfl,true,rfl,?_⟩;simp only[Bool.not_true,cond_false];refine u _ _ ⟨⟨i+1,by omega,?_,stI _ _ _ hI' (fV.gZ _ _ _ _)⟩,ctx.set _ _ _ _ _ (ctx.frame _ _ _ _ (ctx.busy _ _ z) hh)⟩ ?_
   ·simp only;rw[wrap_i64 (by omega) (by omega)];omega
   ·simp only;rw[wrap_i64 (by omega) (by omega)];omega
  ·intro e W' hh hJ;have hb:=ctx.frame _ _ _ _ (ctx.busy _ _ z) hh;rcases jmp _ _ hJ with rfl|⟨id,rfl⟩
   ·refine⟨hb,_,rfl,false,rfl,?_⟩;simp only[Bool.not_false,cond_true];refine⟨.done,some .ret,ctx.set _ _ _ _ _ hb,by simp,?_⟩;exact fr _ (stJ _ _ _ (stJ _ _ _ hJ (fV.gZ _ _ _ _)) (fV.gZ _ _ _ _))
   ·refine⟨hb,_,rfl,false,rfl,?_⟩;simp only[Bool.not_false,cond_true];refine⟨.done,some (.exit id),ctx.set _ _ _ _ _ hb,by simp,?_⟩;exact fx _ _ (stJ _ _ _ (stJ _ _ _ hJ (fV.gZ _ _ _ _)) (fV.gZ _ _ _ _))
 ·have j:¬((i:Int)<(m:Int)):=by omega
  simp only[j,decide_false,cond_false];have:i=m:=by omega
  subst this;exact⟨.ready,none,hL,by simp,fn _ (stI _ _ _ U (fV.gZ _ _ _ _))⟩
def amN:Gu->ByteArray
 |none=>bs []
 |some x=>x.1
def eN:Gu->Int
 |none=>0
 |some x=>x.2
def eU:Gu->Bool
 |none=>false
 |some _=>true
def aeW (e:Gu):List Value:=[.string (amN e),.int .i64 (eN e),.bool (eU e)]
theorem aeX (e:Gu):(aeW e).length=3:=rfl
def slA (s:Nat) (L:List Gu):eG:=if L=[] then none else some ⟨s,0,none⟩
structure HT (w:World) (b s:Nat) (L:List Gu) (many most:Int):Prop where
 hd:Row w b [.slice (slA s L) L.length L.length,.int .i64 many,.int .i64 most,.bool true]
 row:L≠[]->Row w s (L.flatMap aeW)
 ne:L≠[]->b≠s
 sz:L.length<=2^20
theorem HT.fr {w w':World} {b s:Nat} {L:List Gu} {many most:Int} {S:Nat->Prop} (h:HT w b s L many most) (hf:fV w w' S) (h1:¬S b) (h2:L≠[]->¬S s):HT w' b s L many most:=
 ⟨h.hd.fr hf h1,λhn=>(h.row hn).fr hf (h2 hn),h.ne,h.sz⟩
theorem HT.frn {w w':World} {b s:Nat} {L:List Gu} {many most:Int} (h:HT w b s L many most) (hf:∀S,fV w w' S):HT w' b s L many most:=
 h.fr (hf λ_=>False) (by simp) (by simp)
theorem HT.ent {w:World} {b s:Nat} {L:List Gu} {many most:Int} (h:HT w b s L many most) {i:Nat} {e:Gu} (hi:L[i]? =some e) (j:Nat) (hj:j<3):w.cell? ⟨s,i * 3+j,none⟩=(aeW e)[j]? :=by
 have hn:L≠[]:=by rintro rfl;simp at hi
 rw[(h.row hn).cell,flat_get _ 3 aeX _ _ j hj,hi];rfl
def hTo (k:ByteArray):Nat->Int
 |0=>2166136261
 |i+1=>match k[i]? with
  |some c=>IntKind.u32.wrap (ad4 .u32 (hTo k i) (IntKind.u32.wrap (c.toNat:Int)) * 16777619)
  |none=>0
def yx (k:ByteArray) (m:Nat):Nat:=(Int.tmod (hTo k k.size) (m:Int)).toNat
theorem ZO (n:Int):0<=IntKind.u32.wrap n/\IntKind.u32.wrap n<4294967296:=by
 rw[IntKind.wrap_u32];omega
theorem afi (k:ByteArray) (i:Nat):0<=hTo k i/\hTo k i<4294967296:=by
 cases i with
 |zero=>simp[hTo]
 |succ i=>
  simp only[hTo];split
  ·exact ZO _
  ·omega
theorem QU (k:ByteArray) {m:Nat} (hm:0<m):yx k m<m:=by
 unfold yx;have h:=(afi k k.size).1;rw[Int.tmod_eq_emod_of_nonneg h];have:=Int.emod_lt_of_pos (hTo k k.size) (b:=(m:Int)) (by omega);have:=Int.emod_nonneg (hTo k k.size) (b:=(m:Int)) (by omega);omega
theorem ahu (k:ByteArray) (m:Nat) (hm:0<m) (hm2:m<=2^20) (w:World) (hk:k.size<=2^63 - 1):xO k (m:Int) w λr w'=>r=(yx k m:Int)/\w'=w:=by
 apply Xk;refine fZ (λst W=>(∃i:Nat,i<=k.size/\st.2.1=i/\st.1=hTo k i)/\W=w) (λst _=>k.size - st.2.1.toNat) ⟨⟨0,by omega,rfl,rfl⟩,rfl⟩ ?_;rintro⟨x,y,⟨⟩⟩ W ⟨⟨i,hi,rfl,rfl⟩,rfl⟩ next u
 by_cases z:i<k.size
 ·have j:((i:Int)<(k.size:Int)):=by omega
  simp only[j,decide_true,cond_true];have hg:k[i]? =some k[i]:=by simp[z]
  refine⟨k[i],by omega,by simp,?_⟩;have e:IntKind.i64.wrap ((i:Int)+1)=((i+1:Nat):Int):=by rw[wrap_i64 (by omega) (by omega)];omega
  rw[e];refine u _ _ ⟨⟨i+1,by omega,rfl,?_⟩,rfl⟩ (by simp only;omega);simp only[hTo,hg]
 ·have j:¬((i:Int)<(k.size:Int)):=by omega
  simp only[j,decide_false,cond_false];have e1:IntKind.u32.wrap (m:Int)=m:=by rw[IntKind.wrap_u32];omega
  have:i=k.size:=by omega
  subst this;rw[e1];refine⟨by omega,?_,by trivial⟩;have h1:=QU k hm;have h2:Int.tmod (hTo k k.size) (m:Int)=(yx k m:Int):=by
   unfold yx;have:=Int.tmod_nonneg (m:Int) (afi k k.size).1;omega
  rw[h2,wrap_i64 (by omega) (by omega)]
theorem aiF (tb:Nat) (x:Int) (w:World):mJ (some ⟨tb,0,none⟩) x w λr w'=>∃f0 f1,r= .func (.func yT) #[] #[(Value.pointer (some ⟨f0,0,none⟩)),(Value.pointer (some ⟨f1,0,none⟩))]/\
  Row w' f0 [.pointer (some ⟨tb,0,none⟩)]/\Row w' f1 [.int .i64 x]/\w.heap.size<=f0/\w.heap.size<=f1/\∀S,fV w w' S:=by
 apply JD;refine⟨rfl,tV λa2 w1 r1 e1 _ f1=>⟨rfl,tV λa4 w3 r3 e3 _ f3=>⟨a2,a4,rfl,r1.fr (f3 λ_=>False) (by simp),r3,by omega,by have:=(f1 λ_=>False).size;omega,λS=>(f1 S).trans (f3 S) λ_ _ e=>e⟩⟩⟩
theorem adl {w:World} {b s:Nat} {L:List Gu} {many most:Int} (h:HT w b s L many most):lF (some ⟨b,0,none⟩) w λr w'=>r=true/\w'=w:=by
 apply H_;simp only[sx,h.hd.cell,Bool.not_false];exact⟨trivial,trivial⟩
theorem fV.putObj (w:World) (b:Nat) (o:Obj):fV w (w.putObj b o) (·=b):=
 ⟨by simp[World.putObj],λc _ hn=>by simp[World.putObj,Array.getElem?_setIfInBounds];omega,rfl,rfl,rfl⟩
theorem toList_inj {a b:ByteArray} (h:a.toList=b.toList):a=b:=by
 rw[ByteArray.toList_eq,ByteArray.toList_eq] at h
 cases a;cases b
 simp at h;rw[h]
theorem Vq {a b:ByteArray}:strEq a b=true↔a=b:=by
 unfold strEq;constructor
 ·intro h;exact toList_inj (by simpa using h)
 ·rintro rfl;simp
theorem ad_ {w:World} {T:TypeId} {x y z x' y' z':Value} {K:Addr->b_} (h1:iC x'=true) (h2:iC y'=true) (h3:iC z'=true)
  (h:∀a w',Row w' a [x',y',z']->w.heap.size<=a->(∀S,fV w w' S)->K ⟨a,0,none⟩ w'):
  Al w (.cells ⟨[x,y,z]⟩ T) λa w1=>St w1 (a.add 0) x' λw2=>St w2 (a.add 1) y' λw3=>St w3 (a.add 2) z' λw4=>K a w4:=by
 refine tV λa w1 r1 e1 _ f1=> ?_;simp only[sx];refine gB r1 h1 (by simp) λw2 r2 f2 _=> ?_;refine gB r2 h2 (by simp) λw3 r3 f3 _=> ?_;refine gB r3 h3 (by simp) λw4 r4 f4 _=> ?_;refine h a w4 r4 (by omega) λS=> ?_;exact(((f1 S).trans (f2 (·=a) rfl) λx hx e=>by omega).trans (f3 (·=a) rfl) λx hx e=>by omega).trans (f4 (·=a) rfl) λx hx e=>by omega
def aeb (L:List Gu) (k:ByteArray) (at_:Int) (t:Bool):Prop:=
 ∃d,First L (yx k L.length) k d/\at_=((cy L.length (yx k L.length+d):Nat):Int)/\
  ((t=true/\∃n,L[cy L.length (yx k L.length+d)]? =some (some (k,n)))\/(t=false/\L[cy L.length (yx k L.length+d)]? =some none))
structure FI (w W:World) (S:Nat->Prop):Prop where
 fr:fV w W S
 mark:W.heap[w.heap.size]? =some (.deferred (some []))
 size:w.heap.size+2<=W.heap.size
theorem FI.st {w W W':World} {S:Nat->Prop} (h:FI w W S) (hf:fV W W' (·=w.heap.size+1)):FI w W' S:=
 ⟨h.fr.trans hf λb hb e=>by omega,by rw[hf.same _ (by have:=h.size;omega) (by omega)];exact h.mark,by have:=h.size;have:=hf.size;omega⟩
theorem afk {w:World} {b s:Nat} {L:List Gu} {many most:Int} {k:ByteArray} (h:HT w b s L many most) (J:L≠[]) (hk:k.size<=2^63 - 1) (hs:∃d,d<L.length/\Stop L (yx k L.length) k d):
  jL (some ⟨b,0,none⟩) k w λat_ t w'=>aeb L k at_ t/\∀S,fV w w' S:=by
 apply AQ;have u:0<L.length:=by cases L with
  |nil=>exact absurd rfl J
  |cons _ _=>simp
 have ac:=h.sz;have hh:=QU k u;refine⟨rfl,tV λa2 w1 r2 e2 _ f1=>⟨rfl,tV λa4 w3 r4 e4 _ f3=>tV λa6 w5 r6 e6 _ f5=>tV λa8 w7 r8 e8 _ f7=> ?_⟩⟩;have s1:=(f1 λ_=>False).size;have s3:=(f3 λ_=>False).size;have s5:=(f5 λ_=>False).size;have s7:=(f7 λ_=>False).size;have l2:=r2.lt;have l4:=r4.lt;have l6:=r6.lt;have Z:∀S,fV w w7 S:=λS=>(((f1 S).trans (f3 S) λ_ _ e=>e).trans (f5 S) λ_ _ e=>e).trans (f7 S) λ_ _ e=>e;have h7:=h.frn Z;have r2:Row w7 a2 _:=((r2.fr (f3 λ_=>False) (by simp)).fr (f5 λ_=>False) (by simp)).fr (f7 λ_=>False) (by simp);have r4:Row w7 a4 _:=(r4.fr (f5 λ_=>False) (by simp)).fr (f7 λ_=>False) (by simp);have r6:Row w7 a6 _:=r6.fr (f7 λ_=>False) (by simp);have hl0:((L.length:Int)==0)=false:=by simp;omega
 have h7d:HT w7.drew b s L many most:=h7.frn λS=>fV.drew _ S;have r2d:=r2.drew;have r4d:=r4.drew;simp only[sx,r2.cell,r2d.cell,r4d.cell,h7.hd.cell,h7d.hd.cell,hl0];refine V6 (ahu k L.length u ac w7.drew hk) ?_;rintro r w22 ⟨rfl,rfl⟩;refine⟨by simp[r2d.cell],?_⟩;refine Je (aiF b _ _) ?_;rintro r j ⟨g0,g1,rfl,q0,q1,lg0,lg1,f24⟩;have r2:Row j a2 _:=r2d.fr (f24 λ_=>False) (by simp);have r4:Row j a4 _:=r4d.fr (f24 λ_=>False) (by simp);have r6:Row j a6 _:=r6.drew.fr (f24 λ_=>False) (by simp);have r8:Row j a8 _:=r8.drew.fr (f24 λ_=>False) (by simp);have aa:=h7d.frn f24;have f024:∀S,fV w j S:=λS=>((Z S).trans (fV.drew _ S) λ_ _ e=>e).trans (f24 S) λ_ _ e=>e;have l8:=r8.lt;have hb:=h.hd.lt;have hs7:w7.heap.size<=j.heap.size:=by have:=(f24 λ_=>False).size;exact this
 have hsl:s<w.heap.size:=(h.row J).lt;have lg0':=q0.lt;have lg1':=q1.lt;have hg0:w7.heap.size<=g0:=lg0;have hg1:w7.heap.size<=g1:=lg1;refine agt (b:=b) (m:=L.length) (from_:=yx k L.length)
  (λi W=>(∀d,d<i->¬Stop L (yx k L.length) k d)/\FI j W λ_=>False)
  (λe W=>e= .ret/\(FI j W λx=>x=a6\/x=a8)/\∃at_ t,Row W a6 [.int .i64 at_]/\Row W a8 [.bool t]/\aeb L k at_ t)
  (by omega) hh ?_ ?_ ?_ ?_ ?_ ?_ ?_ ?_ ?_
 ·exact λw1 hf hm hz=>⟨λd hd=>by omega,hf _,hm,by omega⟩
 ·exact λi W hI=>⟨q0.fr hI.2.fr (by simp),q1.fr hI.2.fr (by simp),_,by rw[(aa.hd.fr hI.2.fr (by simp)).cell];rfl⟩
 ·exact λi W W' hI hf=>⟨hI.1,hI.2.st hf⟩
 ·rintro e W W' ⟨rfl,hF,at_,t,ra,rt,hr⟩ hf;exact⟨by trivial,hF.st hf,at_,t,ra.fr hf (by omega),rt.fr hf (by omega),hr⟩
 ·exact λe W hJ=> .inl hJ.1
 ·rintro i W Kb hi ⟨z,hF⟩ hn hj;have hFz:=hF.size;have zb:=(fV.fF W (j.heap.size+1)).size;have fb:fV j (fF W (j.heap.size+1)) λ_=>False:=hF.fr.trans (fV.fF W _) λx hx e=>by omega
  have hW:HT (fF W (j.heap.size+1)) b s L many most:=aa.fr fb (by simp) (by simp);have q2:=r2.fr fb (by simp);have q4:=r4.fr fb (by simp);have q6:=r6.fr fb (by simp);have q8:=r8.fr fb (by simp);refine⟨by trivial,?_⟩;simp only[KZ,getElem?_cons_zero,fC,fE,D9,q2.cell,hW.hd.cell];have hx:cy L.length (yx k L.length+i)<L.length:=aiO (by omega);have he:∃e,L[cy L.length (yx k L.length+i)]? =some e:=⟨_,getElem?_eq_getElem hx⟩;obtain⟨e,he⟩:=he;have c0:=hW.ent he 0 (by omega);have c1:=hW.ent he 1 (by omega);have c2:=hW.ent he 2 (by omega);refine XU (b:=s) (o:=0) (by simp[slA,J]) (by omega) (by simp only;omega) ?_;simp only[toNat_natCast,Nat.zero_add];simp only[Nat.add_zero] at c0;simp only[sx,c0,c1,c2,aeW];refine ad_ rfl rfl rfl λa37 I ae e37 f40=> ?_;have fb40:fV j I λ_=>False:=fb.trans (f40 _) λ_ _ e=>e;have l40:=(f40 λ_=>False).size;have q6:=q6.fr (f40 λ_=>False) (by simp);have q8:=q8.fr (f40 λ_=>False) (by simp);have q4:=q4.fr (f40 λ_=>False) (by simp);have hm40:I.heap[j.heap.size]? =some (.deferred (some [])):=by rw[(f40 λ_=>False).same _ (by omega) (by simp),(fV.fF W _).same _ (by omega) (by omega)];exact hF.mark
  have hk40:I.heap[j.heap.size+1]? =(fF W (j.heap.size+1)).heap[j.heap.size+1]? :=(f40 λ_=>False).same _ (by omega) (by simp);have out:∀(v:Int) (t:Bool),aeb L k v t->St I ⟨a6,0,none⟩ (Value.int .i64 v) λab=>St ab ⟨a8,0,none⟩ (Value.bool t) λU=>Kb .ret U:=by
   intro v t hr;refine gB q6 rfl (by simp) λab af f42 z42=> ?_;refine gB (q8.fr (f42 (·=a6) rfl) (by omega)) rfl (by simp) λU ag f43 z43=> ?_;have f0:fV I U λx=>x=a6\/x=a8:=(f42 _ (.inl rfl)).trans (f43 _ (.inr rfl)) λ_ _ e=>e;refine hj _ _ ?_ ⟨rfl,⟨(fb40.mono λ_ e=>e.elim).trans f0 λ_ _ e=>e,?_,by have:=f0.size;omega⟩,v,t,(af.fr (f43 (·=a8) rfl) (by omega)),ag,hr⟩
   ·rw[f0.same _ (by omega) (by omega)];exact hk40
   ·rw[f0.same _ (by omega) (by omega)];exact hm40
  simp only[sx,ae.cell,q4.cell]
  cases e with
  |none=>
   simp only[eU,Bool.not_false,cond_true];exact out _ _ ⟨i,⟨hi,.inl he,z⟩,rfl,.inr ⟨rfl,he⟩⟩
  |some x=>
   obtain⟨k',n'⟩:=x;simp only[eU,Bool.not_true,cond_false,cond_false,amN]
   cases Y:strEq k' k with
   |true=>
    have:=Vq.1 Y;subst this;simp only[cond_true];exact out _ _ ⟨i,⟨hi,.inr ⟨_,he⟩,z⟩,rfl,.inl ⟨rfl,_,he⟩⟩
   |false=>
    simp only[cond_false];refine hn _ hk40 ⟨λd hd=> ?_,fb40,hm40,by omega⟩;by_cases ah:d=i
    ·subst ah;rintro(h1|⟨n,h1⟩)
     ·rw[he] at h1;cases h1
     ·rw[he] at h1;cases h1;rw[Vq.2 rfl] at Y;cases Y
    ·exact z d (by omega)
 ·rintro W ⟨z,_⟩;obtain⟨d,hd,ai⟩:=hs;exact absurd ai (z d hd)
 ·rintro W ⟨_,hF,at_,t,ra,rt,hr⟩;refine⟨hF.mark,?_⟩;have pf:=fV.putObj W j.heap.size (.deferred none);simp only[getElem?_cons_zero,fC,fD,gW,(ra.fr pf (by omega)).cell,(rt.fr pf (by omega)).cell];refine⟨hr,λS=> ?_⟩;exact((f024 S).trans hF.fr λx hx e=>by omega).trans pf λx hx e=>by omega
 ·rintro id W ⟨h,_⟩
  cases h
theorem adk {w:World} {b s:Nat} {many most:Int} {k:ByteArray} (h:HT w b s [] many most):
  jL (some ⟨b,0,none⟩) k w λat_ t w'=>t=false/\∀S,fV w w' S:=by
 apply AQ;refine⟨rfl,tV λa2 w1 r2 e2 _ f1=>⟨rfl,tV λa4 w3 r4 e4 _ f3=>tV λa6 w5 r6 e6 _ f5=>tV λa8 w7 r8 e8 _ f7=> ?_⟩⟩;have s1:=(f1 λ_=>False).size;have s3:=(f3 λ_=>False).size;have s5:=(f5 λ_=>False).size;have s7:=(f7 λ_=>False).size;have l6:=r6.lt;have j:∀S,fV w w7 S:=λS=>(((f1 S).trans (f3 S) λ_ _ e=>e).trans (f5 S) λ_ _ e=>e).trans (f7 S) λ_ _ e=>e;have h7:=h.frn j;have r2:Row w7 a2 _:=((r2.fr (f3 λ_=>False) (by simp)).fr (f5 λ_=>False) (by simp)).fr (f7 λ_=>False) (by simp);have r6:Row w7 a6 _:=r6.fr (f7 λ_=>False) (by simp);simp only[sx,r2.cell,h7.hd.cell,List.length_nil,Int.natCast_zero,beq_self_eq_true];refine gB r6 rfl (by simp) λw12 u f12 _=> ?_;refine gB (r8.fr (f12 (·=a6) rfl) (by omega)) rfl (by simp) λw13 z f13 _=> ?_;simp only[(u.fr (f13 (·=a8) rfl) (by omega)).cell,z.cell];exact⟨by trivial,λS=>((j S).trans (f12 (·=a6) rfl) λx hx e=>by omega).trans (f13 (·=a8) rfl) λx hx e=>by omega⟩
structure TB (w:World) (b s:Nat) (L:List Gu) (most:Int) (M:ByteArray->Option Int):Prop where
 ht:HT w b s L (cnt L:Int) most
 t:T (λk=>yx k L.length) L λ_ _=>False
 free:2 * cnt L<=L.length
 m:∀k n,M k=some n↔Has L k n
 most0:0<=most
 most1:most<=65536
 sz:L.length<=262144
 nils:L=[]->s=b
 keys:∀k n,Has L k n->k.size<=2^63 - 1
theorem TB.fr {w w':World} {b s:Nat} {L:List Gu} {most:Int} {M:ByteArray->Option Int} {S:Nat->Prop} (h:TB w b s L most M) (hf:fV w w' S) (h1:¬S b) (h2:¬S s):TB w' b s L most M:=
 ⟨h.ht.fr hf h1 λ_=>h2,h.t,h.free,h.m,h.most0,h.most1,h.sz,h.nils,h.keys⟩
theorem TB.frn {w w':World} {b s:Nat} {L:List Gu} {most:Int} {M:ByteArray->Option Int} (h:TB w b s L most M) (hf:∀S,fV w w' S):TB w' b s L most M:=
 h.fr (hf λ_=>False) (by simp) (by simp)
theorem TB.Y8 {w:World} {b s:Nat} {L:List Gu} {most:Int} {M:ByteArray->Option Int} (h:TB w b s L most M) (k:ByteArray):M k=none↔∀n,¬Has L k n:=by
 constructor
 ·intro hn n hx;rw[(h.m k n).2 hx] at hn;cases hn
 ·intro hn
  cases hx:M k with
  |none=>rfl
  |some n=>exact absurd ((h.m k n).1 hx) (hn n)
theorem TB.pos {w:World} {b s:Nat} {L:List Gu} {most:Int} {M:ByteArray->Option Int} (_:TB w b s L most M) (j:L≠[]):0<L.length:=by
 cases L with
 |nil=>exact absurd rfl j
 |cons _ _=>simp
theorem afl {w:World} {b s:Nat} {L:List Gu} {most:Int} {M:ByteArray->Option Int} (h:TB w b s L most M) (k:ByteArray) (hk:k.size<=2^63 - 1):
  jL (some ⟨b,0,none⟩) k w λat_ t w'=>(∀S,fV w w' S)/\
   ((t=true/\∃(i:Nat) (n:Int),at_=(i:Int)/\L[i]? =some (some (k,n))/\M k=some n)\/
    (t=false/\M k=none/\(L≠[]->∃d,First L (yx k L.length) k d/\at_=((cy L.length (yx k L.length+d):Nat):Int)))):=by
 by_cases j:L=[]
 ·subst j;refine um (adk h.ht) ?_;rintro at_ t w' ⟨rfl,hf⟩;refine⟨hf,.inr ⟨rfl,(h.Y8 k).2 ?_,λhx=>absurd rfl hx⟩⟩;rintro n ⟨i,hi⟩;simp at hi
 ·have u:=h.pos j;have hh:=QU k u;have hfr:=h.free;obtain⟨i,hi⟩:=abV (L:=L) (by omega);refine um (afk h.ht j hk (XL hh hi)) ?_;rintro at_ t w' ⟨⟨d,hd,rfl,⟨rfl,n,hn⟩|⟨rfl,hn⟩⟩,hf⟩
  ·exact⟨hf,.inl ⟨rfl,_,n,rfl,hn,(h.m k n).2 ⟨_,hn⟩⟩⟩
  ·refine⟨hf,.inr ⟨rfl,(h.Y8 k).2 ?_,λ_=>⟨d,hd,rfl⟩⟩⟩;rintro n ⟨i,hi⟩;have:=YJ h.t (λ_ _ x=>x) hh hi hd;rw[this,hi] at hn;cases hn
theorem aht {w:World} {b s:Nat} {L:List Gu} {most:Int} {M:ByteArray->Option Int} (h:TB w b s L most M) (k:ByteArray) (hk:k.size<=2^63 - 1):
  oq (some ⟨b,0,none⟩) k w λn t w'=>(∀S,fV w w' S)/\t=(M k).isSome/\n=(M k).getD 0:=by
 apply LJ;refine Hr (adl h.ht) ?_;rintro r w2 ⟨rfl,rfl⟩;simp only[Bool.not_true,cond_false];refine um (afl h k hk) ?_;rintro at_ t w' ⟨hf,⟨rfl,i,n,rfl,hi,hM⟩|⟨rfl,hM,_⟩⟩
 ·have h':=h.frn hf;have j:L≠[]:=by rintro rfl;simp at hi
  have hlt:i<L.length:=(List.getElem?_eq_some_iff.1 hi).1;simp only[sx,Bool.not_true,h'.ht.hd.cell];refine XU (b:=s) (o:=0) (by simp[slA,j]) (by omega) (by simp only;omega) ?_;simp only[sx,toNat_natCast,h'.ht.ent hi 1 (by omega),aeW,eN];exact⟨hf,by simp[hM],by simp[hM]⟩
 ·simp only[Bool.not_false,cond_true];exact⟨hf,by simp[hM],by simp[hM]⟩
theorem WU (n:Int) (w:World):uf n w λp e w'=>
  (∀S,fV w w' S)/\((0<=n/\n<=65536/\e=0/\∃b,p=some ⟨b,0,none⟩/\w.heap.size<=b/\TB w' b b [] n λ_=>none)\/((n<0\/65536<n)/\e=1/\p=none)):=by
 apply Zc;by_cases c1:n<0
 ·simp only[c1,decide_true,cond_true];exact⟨λS=>fV.refl _ _,.inr ⟨.inl (by first|trivial|omega),by trivial,by trivial⟩⟩
 ·by_cases c2:n>65536
  ·simp only[c1,c2,decide_true,decide_false,cond_true,cond_false];exact⟨λS=>fV.refl _ _,.inr ⟨.inr (by first|trivial|omega),by trivial,by trivial⟩⟩
  ·simp only[c1,c2,decide_false,cond_false];refine tV λa w3 r3 e3 _ f3=>⟨f3,.inl ⟨by omega,by omega,by trivial,a,rfl,by omega,?_⟩⟩;exact⟨⟨r3,λh=>absurd rfl h,λh=>absurd rfl h,by simp⟩,⟨λi j k n n' h=>by simp at h,λi k n h=>by simp at h⟩,by simp[cnt],λk n=>⟨λh=>by simp at h,λ⟨i,hi⟩=>by simp at hi⟩,by omega,by omega,by simp,λ_=>rfl,λk n ⟨i,hi⟩=>by simp at hi⟩
def f3 (x:ByteArray×Int×Bool):List Value:=[.string x.1,.int .i64 x.2.1,.bool x.2.2]
end Go.Proofs
end
section
namespace Gp.V4
def oU:Nat->Nat->List UInt8
 |0,_=>[]
 |k+1,n=>UInt8.ofNat (n / 256^k)::oU k n
def AP (l:List UInt8):Nat:=l.foldl (λn b=>n * 256+b.toNat) 0
theorem nV (k n:Nat):(oU k n).length=k:=by
 induction k with
 |zero=>rfl
 |succ k ih=>simp[oU,ih]
def tot:List UInt8->Nat
 |[]=>0
 |[a]=>a.toNat * 256
 |a::b::r=>a.toNat * 256+b.toNat+tot r
def fold (n:Nat):Nat:=if n=0 then 0 else (n - 1) % 65535+1
structure lS where
 tos:Int
 id:Int
 off:Int
 ttl:Int
 proto:Int
 src:Int
 dst:Int
 df:Bool
 mf:Bool
 opts:List UInt8
 data:List UInt8
deriving DecidableEq
def lS.zero:lS:=⟨0,0,0,0,0,0,0,false,false,[],[]⟩
def kK (k:Int):Prop:=1<=k/\k<=4
instance (k:Int):Decidable (kK k):=inferInstanceAs (Decidable (_/\_))
def jv (n k:Int):Prop:=kK k/\0<=n/\n<256^k.toNat
instance (n k:Int):Decidable (jv n k):=inferInstanceAs (Decidable (_/\_))
def pR (n:Int):Prop:=0<=n/\n<4294967296
instance (n:Int):Decidable (pR n):=inferInstanceAs (Decidable (_/\_))
def lS.fine (p:lS):Prop:=(jv p.tos 1/\jv p.ttl 1/\jv p.proto 1/\jv p.id 2)/\(pR p.src/\pR p.dst)/\
 (0<=p.off/\p.off<=65528/\Int.tmod p.off 8=0/\(p.mf=true->p.data.length % 8=0))/\p.opts.length<=40/\p.opts.length % 4=0
instance (p:lS):Decidable p.fine:=inferInstanceAs (Decidable (_/\_))
def lS.short (p:lS):Prop:=20+p.opts.length+p.data.length<=65535/\p.off<=65535 - (p.data.length:Int)
instance (p:lS):Decidable p.short:=inferInstanceAs (Decidable (_/\_))
def lS.bits (p:lS):Nat:=p.off.toNat / 8+(if p.df then 16384 else 0)+(if p.mf then 8192 else 0)
def lS.head (p:lS) (s:Nat):List UInt8:=
 oU 1 (64+(20+p.opts.length) / 4)++oU 1 p.tos.toNat++oU 2 (20+p.opts.length+p.data.length)++oU 2 p.id.toNat++oU 2 p.bits++oU 1 p.ttl.toNat++oU 1 p.proto.toNat++oU 2 s++oU 4 p.src.toNat++oU 4 p.dst.toNat++p.opts
def lS.sum (p:lS):Nat:=65535 - fold (tot (p.head 0))
def lS.bytes (p:lS):List UInt8:=p.head p.sum++p.data
def num (b:List UInt8) (at_ k:Nat):Nat:=AP ((b.drop at_).take k)
def hlen (b:List UInt8):Nat:=((b[0]?).getD 0).toNat % 16 * 4
def field (b:List UInt8):lS:=
 let f:=num b 6 2
 ⟨num b 1 1,num b 4 2,(f % 8192 * 8:Nat),num b 8 1,num b 9 1,num b 12 4,num b 16 4,f / 16384 % 2==1,f / 8192 % 2==1,(b.take (hlen b)).drop 20,(b.take (num b 2 2)).drop (hlen b)⟩
end Gp.V4
end
section
namespace Go.Proofs
open Gp Gp.V4
theorem MP {e:TypeId} {w:World} {x:eY} {m:List UInt8} (hx:iF w x m) (hl:m.length<=2^46) {K:eY->b_}
  (hK:∀r w',Buf w' r (bytesV m)->(r.a=none↔x.a=none)->Ext w w'->(∀b,eY.at r b->w.heap.size<=b)->K r w'):
  (bif (Option.isNone x.a) then K ⟨none,0,0⟩ w else Al w (.cells ⟨[]⟩ e) λa3 w2=>uQ e 1 1 [(Value.int .u8 0)] ⟨(some a3),0,0⟩ x w2 K):=by
 cases j:x.a with
 |none=>
  simp only[isNone_none,cond_true];have:=hx.empty j;subst this;exact hK _ _ Buf.nil (by simp[j]) (Ext.refl _) λb ⟨o,h⟩=>by cases h
 |some a=>
  simp only[isNone_some,cond_false];refine fP λb w2 r2 e2 _ f2=> ?_;have hx2:=hx.ext f2;refine kU (l:=[]) ⟨rfl,.inr ⟨b,[],rfl,rfl,by simpa [bytesV] using r2⟩⟩ hx2 (by simpa using hl) λs' w' h1 h2 h3 h4=> ?_;refine hK _ _ (by simpa using h1) (by rw[j];exact⟨λh=>by have:=(h4 h).2;simp at this,λh=>by simp at h⟩) (fV.new (Ext.fr f2 h2) ?_) (λc hc=> ?_)
  ·rintro y hy ⟨o,e⟩
   cases e;omega
  ·rcases h3 c hc with ⟨o,e⟩|h
   ·cases e;omega
   ·have:=(f2 λ_=>False).size;omega
theorem lK {w:World} {x:eY} {m:List UInt8} (hx:iF w x m) (hl:m.length<=2^46):
  fQ x w λr w'=>Buf w' r (bytesV m)/\(r.a=none↔x.a=none)/\Ext w w'/\∀b,eY.at r b->w.heap.size<=b:=by
 apply lZ;exact MP (K:=λr w'=>Buf w' r (bytesV m)/\(r.a=none↔x.a=none)/\Ext w w'/\∀b,eY.at r b->w.heap.size<=b) hx hl λr w' h1 h2 h3 h4=>⟨h1,h2,h3,h4⟩
theorem tK (k:Int) (w:World):t_ k w λr w'=>r=decide (kK k)/\w'=w:=by
 apply Ov;by_cases h1:k>=1
 ·by_cases h2:k<=4
  ·have:kK k:=⟨h1,h2⟩;simp[h1,h2,this]
  ·have:¬kK k:=λh=>h2 h.2;simp[h1,h2,this]
 ·have:¬kK k:=λh=>h1 h.1;simp[h1,this]
theorem agb {n:Int} {i:Nat} (hi:i<=7) (hn:0<=n):jy .i64 n (IntKind.i64.wrap (8 * (i:Int)))=((n.toNat / 256^i:Nat):Int):=by
 rw[wrap_i64 (by omega) (by omega)];unfold jy;have e:(2:Int)^(min ((8:Int) * (i:Int)).toNat (IntKind.bits .i64))=((256^i:Nat):Int):=by
  have:i=0\/i=1\/i=2\/i=3\/i=4\/i=5\/i=6\/i=7:=by omega
  rcases this with rfl|rfl|rfl|rfl|rfl|rfl|rfl|rfl<;>decide
 rw[e,Int.fdiv_eq_ediv_of_nonneg _ (Int.natCast_nonneg _),Int.natCast_ediv,Int.toNat_of_nonneg hn]
theorem Sr {n k:Int} (hk:kK k) (hn:0<=n):(jy .i64 n (IntKind.i64.wrap (8 * k))==0)=decide (n<256^k.toNat):=by
 obtain⟨h1,h2⟩:=hk;obtain⟨m,rfl⟩:∃m:Nat,k=(m:Int):=⟨k.toNat,by omega⟩;rw[agb (by omega) hn];have hp:0<256^m:=Nat.pow_pos (by omega);obtain⟨x,rfl⟩:∃x:Nat,n=(x:Int):=⟨n.toNat,by omega⟩;have e:((256:Int)^(m:Int).toNat)=((256^m:Nat):Int):=by simp
 rw[e];simp only[toNat_natCast];by_cases h:x<256^m
 ·have:x / 256^m=0:=Nat.div_eq_of_lt h;have h':((x:Int)<((256^m:Nat):Int)):=by omega
  rw[this];simp only[h',decide_true];rfl
 ·have:1<=x / 256^m:=(Nat.le_div_iff_mul_le hp).2 (by omega);have h':¬((x:Int)<((256^m:Nat):Int)):=by omega
  simp only[h',decide_false,beq_eq_false_iff_ne,ne_eq];omega
theorem qY (n k:Int) (w:World):kH n k w λr w'=>r=decide (jv n k)/\w'=w:=by
 apply Rw;refine E5 (tK k w) ?_;rintro r w1 ⟨rfl,rfl⟩;by_cases hk:kK k
 ·by_cases hn:n>=0
  ·simp only[hk,hn,decide_true,cond_true];refine⟨by have:=hk.1;have:=hk.2;rw[wrap_i64 (by omega) (by omega)];omega,?_,by trivial⟩;rw[Sr hk hn];simp[jv,hk,hn]
  ·simp only[hk,hn,decide_true,decide_false,cond_true,cond_false];have:¬jv n k:=λh=>hn h.2.1;exact⟨by simp[this],by trivial⟩
 ·simp only[hk,decide_false,cond_false];exact⟨by simp[jv,hk],by trivial⟩
def yB (l:List UInt8):List (zM [.one (.int .u8)]):=l.map λb=>((b.toNat:Int),())
theorem SV (l:List UInt8) (i:Nat):(yB l)[i]? =(l[i]?).map λb=>((b.toNat:Int),()):=by simp[yB]
theorem Kw:∀(k n i:Nat),i<k->(oU k n)[i]? =some (UInt8.ofNat (n / 256^(k - 1 - i)))
 |0,_,_,h=>by omega
 |k+1,n,0,_=>by simp[oU]
 |k+1,n,i+1,h=>by
  simp only[oU,List.getElem?_cons_succ];rw[Kw k n i (by omega),show k+1 - 1 - (i+1)=k - 1 - i by omega]
theorem Fq {n:Int} {k f0 f1:Nat} (hk:k<=4) (hn:0<=n):
  lX Tryz.prog [.one (.int .u8)] (Value.func (.func IK) #[] #[(Value.pointer (some ⟨f0,0,none⟩)),(Value.pointer (some ⟨f1,0,none⟩))])
   (λW=>Row W f0 [.int .i64 (k:Int)]/\Row W f1 [.int .i64 n]) (yB (oU k n.toNat)):=by
 refine⟨by kernel_rfl,λl Q D hC hQ hD hy w h0=> ?_⟩;refine Calls.mono (FQ (a0:= .func (.yield l) #[] #[]) (f0:=⟨f0,0,none⟩) (f1:=⟨f1,0,none⟩) (K:=λw'=>Q (yB (oU k n.toNat)).length w'\/D w') ?_) (λe w' h=>h);have hlen:(yB (oU k n.toNat)).length=k:=by simp[yB,nV]
 obtain⟨r0,_⟩:=hC _ _ h0;simp only[sx,r0.cell];rw[hlen];refine fZ (λst W=>∃i:Nat,i<=k/\st.1=(k:Int) - 1 - i/\Q i W) (λst _=>(st.1+1).toNat) ⟨0,by omega,by rw[wrap_i64 (by omega) (by omega)];simp,h0⟩ ?_;rintro⟨x,⟨⟩⟩ W ⟨i,hi,hx,hq⟩ next u
 simp only at hx;by_cases z:i<k
 ·have hx0:x>=0:=by omega
  obtain⟨_,r1⟩:=hC _ _ hq;simp only[sx,hx0,decide_true,r1.cell];refine⟨by rw[wrap_i64 (by omega) (by omega)];omega,?_⟩;obtain⟨j,rfl⟩:∃j:Nat,x=(j:Int):=⟨x.toNat,by omega⟩;rw[agb (by omega) hn];have hj:j=k - 1 - i:=by omega
  have e:IntKind.u8.wrap ((n.toNat / 256^j:Nat):Int)=(((UInt8.ofNat (n.toNat / 256^j)).toNat:Nat):Int):=by
   rw[IntKind.wrap_u8];simp
  rw[e];refine kC (hy i ((((UInt8.ofNat (n.toNat / 256^j)).toNat:Nat):Int),()) W _ ?_ hq ?_ ?_)
  ·rw[SV,Kw _ _ _ z,<- hj];rfl
  ·intro W' hq';refine⟨true,rfl,?_⟩;simp only[Bool.not_true,cond_false];rw[wrap_i64 (by omega) (by omega)];exact u _ _ ⟨i+1,by omega,by simp only;omega,hq'⟩ (by simp only;omega)
  ·intro W' hd;refine⟨false,rfl,?_⟩;simp only[Bool.not_false,cond_true];exact .inr hd
 ·have hx0:¬x>=0:=by omega
  simp only[hx0,decide_false,cond_false];have:i=k:=by omega
  subst this;exact .inl hq
def Gv (w0 w:World) (v:Value) (l:List UInt8):Prop:=
 ∃C,lX Tryz.prog [.one (.int .u8)] v C (yB l)/\∀W S,fV w W S->(∀b,w0.heap.size<=b->b<w.heap.size->¬S b)->C W
theorem GK {n k:Int} (hk:kK k) (hn:0<=n) (w:World):qj n k w λv w'=>Ext w w'/\Gv w w' v (oU k.toNat n.toNat):=by
 apply Lu;refine⟨rfl,fP λa w1 r1 e1 z1 f1=>⟨rfl,fP λb w2 r2 e2 z2 f2=> ?_⟩⟩;have r1':=r1.ext f2;obtain⟨m,rfl⟩:∃m:Nat,k=(m:Int):=⟨k.toNat,by have:=hk.1;omega⟩;refine⟨f1.trans f2,_,Fq (by have:=hk.2;omega) hn,λW S hf hs=>⟨r2.fr hf (hs _ ?_ ?_),r1'.fr hf (hs _ ?_ ?_)⟩⟩<;>omega
theorem yX {w0 w:World} {s:eY} {v:Value} {l m:List UInt8} (hs:Buf w s (bytesV l)) (hv:Gv w0 w v m) (hd:∀b,eY.at s b->¬(w0.heap.size<=b/\b<w.heap.size)) (hl:l.length+m.length<=2^46):
  iD s v w λr w'=>Buf w' r (bytesV (l++m))/\fV w w' (eY.at s)/\(∀b,eY.at r b->eY.at s b\/w.heap.size<=b)/\(r.a=none->l++m=[]/\s.a=none):=by
 obtain⟨C,hi,hC⟩:=hv;apply oN;refine⟨rfl,fP λa w1 r1 e1 z1 f1=> ?_⟩;have hlen:(yB m).length=m.length:=by simp[yB]
 have j:∀b,eY.at s b->b<w.heap.size:=λb hb=>hs.lt hb;refine tN hi (λi W=>∃t:eY,Row W a [.slice t.a t.len t.cap]/\Buf W t (bytesV (l++m.take i))/\fV w W (eY.at s)/\(∀b,eY.at t b->eY.at s b\/(w.heap.size<=b/\b≠a/\b≠jU none w1/\b≠w1.heap.size))/\(t.a=none->l++m.take i=[]/\s.a=none)/\jU none w1<W.heap.size)
  (λ_ _=>False) (by simp) ?_ ?_ ?_ (by intro e W W' h;exact h.elim) (by intro e W h;exact h.elim) ?_ ?_ (by intro W h;exact h.elim) (by intro id W h;exact h.elim)
 ·intro w2 f2 z2;refine⟨s,r1.ext f2,by simpa using (hs.ext f1).ext f2,(f1.trans f2) _,λb hb=> .inl hb,?_,by omega⟩;simp only[List.take_zero,List.append_nil];intro ha;obtain⟨_,⟨_,h2,_⟩|⟨c,pad,h2,_⟩⟩:=hs
  ·exact⟨by simpa [bytesV] using h2,ha⟩
  ·rw[ha] at h2;cases h2
 ·rintro i W ⟨t,_,_,hf,_⟩;exact hC W _ hf λb h1 h2 h3=>hd b h3 ⟨h1,h2⟩
 ·rintro i W W' ⟨t,h1,h2,h3,h4,h5,h6⟩ hf;have z:jU none w1=w1.heap.size+1:=rfl;refine⟨t,h1.fr hf (by omega),h2.fr hf λb hb e=> ?_,h3.trans hf (λb hb e=>by omega),h4,h5,by have:=hf.size;omega⟩;rcases h4 b hb with h|h
  ·have:=j b h;omega
  ·omega
 ·intro i x W Kb hx ⟨t,h1,h2,h3,h4,h5,h6⟩ hlt u _;refine⟨rfl,?_⟩;have z:jU none w1=w1.heap.size+1:=rfl;rw[SV] at hx
  cases hb:m[i]? with
  |none=>rw[hb] at hx;simp at hx
  |some y=>
  rw[hb] at hx;simp only[map_some,Option.some.injEq] at hx;subst hx;have fb:=fV.fF W (jU none w1);have h1':=h1.fr fb (by omega);have h2':Buf (fF W (jU none w1)) t (bytesV (l++m.take i)):=h2.fr fb λb hb e=>by
   rcases h4 b hb with h|h
   ·have:=j b h;omega
   ·omega
  simp only[sx,h1'.cell];have I:i<m.length:=(List.getElem?_eq_some_iff.1 hb).1;refine fP λc w3 r3 e3 z3 f3=> ?_;have hz3:w3.heap.size=W.heap.size+1:=by rw[z3,e3];simp[fF]
  have hx3:iF w3 ⟨some ⟨c,0,none⟩,1,1⟩ [y]:= .jI (iF.row (l:=[y]) (by simpa [bytesV] using r3));have h2'':=h2'.ext f3;refine kU h2'' hx3 (by simp;omega) λs' w4 b4 f4 p4 n4=> ?_;have J:¬eY.at t a:=λh=>by
   rcases h4 a h with h|h
   ·have:=j a h;omega
   ·exact h.2.1 rfl
  have h1'':=(h1'.ext f3).fr f4 J;refine gB h1'' rfl (by simp) λw5 r5 f5 z5=> ?_;simp only[List.set_cons_zero] at r5;have hbz:(fF W (jU none w1)).heap.size=W.heap.size:=by simp[fF]
  have U:∀b,eY.at s' b->b≠a:=λb hb e=>by
   rcases p4 b hb with h|h
   ·exact J (e ▸ h)
   ·have:=h1.lt;omega
  refine u w5 (λb=>eY.at t b\/b=a) ?_ ?_ ⟨s',r5,?_,?_,?_,?_,?_⟩
  ·exact((f3 _).trans (f4.mono λb h=> .inl h) λ_ _ e=>e).trans (f5 (λb=>eY.at t b\/b=a) (.inr rfl)) λ_ _ e=>e
  ·rintro b hb1 hb2 (h|h)
   ·rcases h4 b h with h|h
    ·have:=j b h;omega
    ·rcases Nat.lt_or_ge b (jU none w1) with hx|hx<;>omega
   ·omega
  ·have e:l++m.take (i+1)=l++m.take i++[y]:=by
    rw[take_succ_eq_append_getElem I];have:m[i]=y:=by rw[getElem?_eq_getElem I] at hb;simpa using hb
    simp[this]
   rw[e];exact b4.fr (f5 (·=a) rfl) λb hb e=>U b hb e
  ·refine((h3.trans fb λb hb e=>by omega).ext f3).trans (S':=λb=>eY.at t b\/b=a) ((f4.mono λb h=> .inl h).trans (f5 (λb=>eY.at t b\/b=a) (.inr rfl)) λ_ _ e=>e) ?_;rintro b hb (h|h)
   ·rcases h4 b h with h|h
    ·exact h
    ·omega
   ·omega
  ·intro b hb;rcases p4 b hb with h|h
   ·exact h4 b h
   ·refine .inr ⟨by have:=h3.size;omega,U b hb,?_,?_⟩<;>omega
  ·intro ha;obtain⟨h1,h2⟩:=n4 ha;simp at h1
  ·have:=f4.size;omega
 ·rintro W ⟨t,h1,h2,h3,h4,h5,h6⟩ hm;have z:jU none w1=w1.heap.size+1:=rfl;simp only[sx,h1.cell];rw[hlen,List.take_length] at h2 h5;refine⟨hm rfl,?_,?_,?_,h5⟩
  ·exact h2.fr (fV.jh _ _ _) λb hb e=>by
    rcases h4 b hb with h|h
    ·have:=j b h;omega
    ·omega
  ·exact h3.trans (fV.jh _ _ _) λb hb e=>by omega
  ·intro b hb;rcases h4 b hb with h|h
   ·exact .inl h
   ·exact .inr h.1
def nI (l:List UInt8) (n k:Int):List UInt8:=if jv n k then l++oU k.toNat n.toNat else l
theorem AU {w:World} {s:eY} {l:List UInt8} (hs:iF w s l) (hl:l.length+4<=2^46) (n k:Int):
  lu s n k w λr w'=>Buf w' r (bytesV (nI l n k))/\Ext w w'/\(∀b,eY.at r b->w.heap.size<=b):=by
 apply Vb;refine gu (lK hs (by omega)) ?_;rintro r w1 ⟨b1,_,f1,n1⟩;refine ny (qY n k w1) ?_;rintro _ _ ⟨rfl,rfl⟩;by_cases hf:jv n k
 ·simp only[hf,decide_true,Bool.not_true,cond_false];refine DZ (GK hf.1 hf.2.1 _) ?_;rintro v w2 ⟨f2,hv⟩;have hk:=hf.1;refine kE (yX (b1.ext f2) hv (λb hb h=>by have:=b1.lt hb;omega) (by rw[nV];have:=hk.2;omega)) ?_;rintro r' w3 ⟨b3,f3,n3,_⟩;refine⟨by simpa [nI,hf] using b3,(f1.trans f2).new f3 λb hb h=>by have:=n1 b h;omega,λb hb=> ?_⟩;have:=f1.size;have:=f2.size;rcases n3 b hb with h|h
  ·exact n1 b h
  ·omega
 ·simp only[hf,decide_false,Bool.not_false,cond_true];exact⟨by simpa [nI,hf] using b1,f1,n1⟩
end Go.Proofs
end
section
namespace Gp.Bind
open Gp.V4
def keyB (l:List Int):List UInt8:=l.flatMap λn=>oU 8 (n % 18446744073709551616).toNat
def keyS (l:List Int):ByteArray:=⟨⟨keyB l⟩⟩
def In64 (n:Int):Prop:= -9223372036854775808<=n/\n<=9223372036854775807
theorem YW (l:List Int):(keyB l).length=l.length * 8:=by
 induction l with
 |nil=>rfl
 |cons n l ih=>
  have:keyB (n::l)=oU 8 (n % 18446744073709551616).toNat++keyB l:=rfl;rw[this,List.length_append,nV,ih,length_cons];omega
structure Bnd where
 sw:Int
 pr:Int
 ad:Int
 po:Int
 opr:Int
 oad:Int
 opo:Int
 st:Bool
deriving DecidableEq
def Bnd.i (b:Bnd):List Int:=[b.sw,b.pr,b.ad,b.po]
def Bnd.o (b:Bnd):List Int:=[b.opr,b.oad,b.opo]
def Bnd.ok (b:Bnd):Prop:=(∀n∈b.i,In64 n)/\∀n∈b.o,In64 n
abbrev Slots:=List (Option Bnd)
def live:Nat->Slots->List (Int×Bnd)
 |_,[]=>[]
 |i,none::r=>live (i+1) r
 |i,some b::r=>((i:Int),b)::live (i+1) r
theorem qH:∀(S:Slots) (k:Nat),(live k S).length<=S.length
 |[],_=>by simp[live]
 |none::r,k=>by have:=qH r (k+1);simp[live];omega
 |some b::r,k=>by have:=qH r (k+1);simp[live];omega
structure GoodB (S:Slots) (Mi Mo:ByteArray->Option Int):Prop where
 i:∀k v,Mi k=some v↔∃(j:Nat) (b:Bnd),S[j]? =some (some b)/\keyS b.i=k/\v=(j:Int)
 o:∀k v,Mo k=some v↔∃(j:Nat) (b:Bnd),S[j]? =some (some b)/\keyS b.o=k/\v=(j:Int)
 ok:∀(j:Nat) (b:Bnd),S[j]? =some (some b)->b.ok
end Gp.Bind
end
section
namespace Go.Proofs
open Gp Gp.Hash
theorem anZ (m:Nat):V4.oU 8 m=V4.oU 4 (m / 4294967296)++V4.oU 4 (m % 4294967296):=by
 simp only[V4.oU,cons_append,List.nil_append,List.cons.injEq,and_true];refine⟨?_,?_,?_,?_,?_,?_,?_,?_⟩<;>apply UInt8.toNat_inj.1<;>simp<;>omega
theorem amQ {x:Int} (h:Bind.In64 x):wH .i64 (jy .i64 x 32) 4294967295=(((x % 18446744073709551616).toNat / 4294967296:Nat):Int)/\wH .i64 x 4294967295=(((x % 18446744073709551616).toNat % 4294967296:Nat):Int):=by
 obtain⟨h1,h2⟩:=h;have low:∀y:Int,wH .i64 y 4294967295=(((y % 18446744073709551616).toNat % 4294967296:Nat):Int):=by
  intro y;unfold wH;have e1:(BitVec.ofInt (IntKind.bits .i64) y).toNat=(y % 18446744073709551616).toNat:=by rw[EU,BitVec.toNat_ofInt];rfl
  have e2:(BitVec.ofInt (IntKind.bits .i64) 4294967295).toNat=2^32 - 1:=by rw[EU,BitVec.toNat_ofInt];rfl
  rw[BitVec.toNat_and,e1,e2,Pm];rw[wrap_i64 (by omega) (by omega)]
 refine⟨?_,low x⟩;rw[low];unfold jy;have e:(2:Int)^(min (32:Int).toNat (IntKind.bits .i64))=4294967296:=by decide
 rw[e,Int.fdiv_eq_ediv_of_nonneg _ (by omega)];omega
theorem key_ok {w:World} {b:Nat} {ns:List Int} {vs:List Value} (h:Row w b vs) (hv:vs=ns.map λn=>Value.int .i64 n) (n c:Nat) (hn:n=ns.length) (hl:ns.length<=10) (hr:∀n∈ns,Bind.In64 n):
  zY ⟨some ⟨b,0,none⟩,n,c⟩ w λr w'=>r=Bind.keyS ns/\Ext w w':=by
 subst hv hn;apply Zb;refine fZ (λst W=>∃i:Nat,i<=ns.length/\st.2.1=(i:Int)/\iF W st.1 (Bind.keyB (ns.take i))/\Ext w W) (λst _=>ns.length - st.2.1.toNat) ⟨0,by omega,rfl,iF.nil,Ext.refl _⟩ ?_;rintro⟨s,x,⟨⟩⟩ W ⟨i,hi,rfl,hs,hx⟩ next u
 have hs:iF W s (Bind.keyB (ns.take i)):=hs;by_cases z:i<ns.length
 ·have j:((i:Int)<(ns.length:Int)):=by omega
  simp only[sx,j,decide_true,toNat_natCast,Nat.mul_one,(h.ext hx).cell,getElem?_map,getElem?_eq_getElem z,map_some];refine⟨by omega,by trivial,by omega,?_⟩;obtain⟨e1,e2⟩:=amQ (hr _ (List.getElem_mem z));rw[e1,e2];generalize hm:(ns[i] % 18446744073709551616).toNat=m;have hm2:m<18446744073709551616:=by omega
  have kl:=Bind.YW (ns.take i);have kl2:(ns.take i).length<=10:=by simp;omega
  refine pG (AU hs (by omega) _ 4) ?_;rintro t1 w1 ⟨b1,f1,_⟩;have p1:nI (Bind.keyB (ns.take i)) ((m / 4294967296:Nat):Int) 4=Bind.keyB (ns.take i)++V4.oU 4 (m / 4294967296):=by
   unfold nI;rw[if_pos ⟨⟨by omega,by omega⟩,by omega,by simp;omega⟩];rfl
  rw[p1] at b1;refine pG (AU (iF.jI b1) (by simp[V4.nV];omega) _ 4) ?_;rintro t2 w2 ⟨b2,f2,_⟩;have p2:nI (Bind.keyB (ns.take i)++V4.oU 4 (m / 4294967296)) ((m % 4294967296:Nat):Int) 4=Bind.keyB (ns.take i)++V4.oU 4 (m / 4294967296)++V4.oU 4 (m % 4294967296):=by
   unfold nI;rw[if_pos ⟨⟨by omega,by omega⟩,by omega,by simp;omega⟩];rfl
  rw[p2] at b2;rw[wrap_i64 (by omega) (by omega)];refine u _ _ ⟨i+1,by omega,by simp,?_,(hx.trans f1).trans f2⟩ (by simp only;omega);have ek:Bind.keyB (ns.take (i+1))=Bind.keyB (ns.take i)++V4.oU 4 (m / 4294967296)++V4.oU 4 (m % 4294967296):=by
   rw[take_succ_eq_append_getElem z];unfold Bind.keyB;rw[List.flatMap_append,List.flatMap_singleton,hm,anZ,List.append_assoc]
  rw[ek];exact iF.jI b2
 ·have j:¬((i:Int)<(ns.length:Int)):=by omega
  simp only[j,decide_false,cond_false];have:i=ns.length:=by omega
  subst this;rw[List.take_length] at hs;exact xI hs ⟨rfl,hx⟩
theorem adu (l:List Int) (h:l.length<=10):(Bind.keyS l).size<=2^63 - 1:=by
 have:(Bind.keyS l).size=(Bind.keyB l).length:=rfl;rw[this,Bind.YW];omega
theorem ah3 (a b c:Int) (h:∀n∈[a,b,c],Bind.In64 n) (w:World):oV a b c w λr w'=>r=Bind.keyS [a,b,c]/\Ext w w':=by
 apply Nr;refine fP λp w1 r1 _ _ f1=> ?_;simp only[sx,r1.cell];refine fP λq w2 r2 _ _ f2=> ?_;refine Yl (key_ok (ns:=[a,b,c]) r2 rfl 3 3 rfl (by simp) h) ?_;rintro _ w3 ⟨rfl,f3⟩;exact⟨rfl,(f1.trans f2).trans f3⟩
open Gp.Bind (Bnd Slots live GoodB In64)
def AY:Option Bnd->List Value
 |none=>[.int .i64 0,.int .i64 0,.int .i64 0,.int .i64 0,.int .i64 0,.int .i64 0,.int .i64 0,.bool false,.bool false]
 |some b=>[.int .i64 b.sw,.int .i64 b.pr,.int .i64 b.ad,.int .i64 b.po,.int .i64 b.opr,.int .i64 b.oad,.int .i64 b.opo,.bool b.st,.bool true]
theorem NJ (o:Option Bnd):(AY o).length=9:=by cases o<;>rfl
structure XR where
 d:Nat
 sl:Nat
 ti:Nat
 si:Nat
 tu:Nat
 su:Nat
def fp (A:XR) (b:Nat):Prop:=b=A.d\/b=A.sl\/b=A.ti\/b=A.si\/b=A.tu\/b=A.su
def XR.ne (A:XR):Prop:=A.d≠A.sl/\A.d≠A.ti/\A.d≠A.si/\A.d≠A.tu/\A.d≠A.su/\A.sl≠A.ti/\A.sl≠A.si/\A.sl≠A.tu/\A.sl≠A.su/\A.ti≠A.tu/\A.ti≠A.su/\A.si≠A.tu/\A.si≠A.su
structure DB (w:World) (A:XR) (most:Nat) (S:Slots) (Mi Mo:ByteArray->Option Int):Prop where
 hd:Row w A.d [.slice (some ⟨A.sl,0,none⟩) most most,.pointer (some ⟨A.ti,0,none⟩),.pointer (some ⟨A.tu,0,none⟩),.int .i64 ((live 0 S).length:Int)]
 row:Row w A.sl (S.flatMap AY)
 len:S.length=most
 mx:most<=4096
 tI:∃L,TB w A.ti A.si L most Mi/\cnt L=(live 0 S).length
 tO:∃L,TB w A.tu A.su L most Mo/\cnt L=(live 0 S).length
 good:GoodB S Mi Mo
 ne:A.ne
section
variable {w w':World} {A:XR} {most:Nat} {S:Slots} {Mi Mo:ByteArray->Option Int}
theorem DB.fr {F:Nat->Prop} (h:DB w A most S Mi Mo) (hf:fV w w' F) (hs:∀b,fp A b->¬F b):DB w' A most S Mi Mo:=by
 obtain⟨L,h1,h2⟩:=h.tI;obtain⟨L',h3,h4⟩:=h.tO;exact⟨h.hd.fr hf (hs _ (.inl rfl)),h.row.fr hf (hs _ (.inr (.inl rfl))),h.len,h.mx,⟨L,h1.fr hf (hs _ (.inr (.inr (.inl rfl)))) (hs _ (.inr (.inr (.inr (.inl rfl))))),h2⟩,
  ⟨L',h3.fr hf (hs _ (.inr (.inr (.inr (.inr (.inl rfl)))))) (hs _ (.inr (.inr (.inr (.inr (.inr rfl)))))),h4⟩,h.good,h.ne⟩
theorem DB.ext (h:DB w A most S Mi Mo) (hf:Ext w w'):DB w' A most S Mi Mo:=h.fr (hf λ_=>False) (λ_ _=>by simp)
theorem DB.slot (h:DB w A most S Mi Mo) {i:Nat} {o:Option Bnd} (hi:S[i]? =some o) (j:Nat) (hj:j<9):w.cell? ⟨A.sl,i * 9+j,none⟩=(AY o)[j]? :=by
 rw[h.row.cell,flat_get AY 9 NJ _ _ j hj,hi];rfl
theorem UY (h:DB w A most S Mi Mo):l7 (some ⟨A.d,0,none⟩) w λr w'=>r=true/\w'=w:=by
 apply Nq;simp only[sx,h.hd.cell,Bool.not_false];exact⟨by trivial,by trivial⟩
theorem aeM (h:DB w A most S Mi Mo) (a b c:Int) (hq:∀n∈[a,b,c],In64 n):
  lC (some ⟨A.d,0,none⟩) a b c w λn t w'=>t=(Mo (Bind.keyS [a,b,c])).isSome/\n=(Mo (Bind.keyS [a,b,c])).getD 0/\Ext w w':=by
 apply O7;refine fP λp w1 r1 _ _ f1=> ?_;refine Dj (UY (h.ext f1)) ?_;rintro _ w2 ⟨rfl,hw⟩;subst hw;have h2:=(h.ext f1).ext (Ext.drew _);simp only[sx,Bool.not_true,h2.hd.cell,r1.drew.cell];refine MQ (ah3 a b c hq _) ?_;rintro _ w3 ⟨rfl,f3⟩;have h3:=h2.ext f3;simp only[true_and,d_,h3.hd.cell];obtain⟨L,hL,_⟩:=h3.tO;refine KJ (aht hL _ (adu _ (by simp))) ?_;rintro n t w4 ⟨f4,rfl,rfl⟩;exact⟨rfl,rfl,((f1.trans (Ext.drew _)).trans f3).trans f4⟩
end
end Go.Proofs
end
section
namespace Go.Proofs
open Gp Gp.Hash
open Gp.Bind (Bnd Slots live GoodB In64)
section
variable {w w':World} {A:XR} {most:Nat} {S:Slots} {Mi Mo:ByteArray->Option Int}
def yD (L:List (Int×Bnd)):List (zM [.one (.int .i64),.agg [(.int .i64),(.int .i64),(.int .i64),(.int .i64),(.int .i64),(.int .i64),(.int .i64),.bool]]):=
 L.map λx=>(x.1,(x.2.sw,x.2.pr,x.2.ad,x.2.po,x.2.opr,x.2.oad,x.2.opo,x.2.st,()),())
theorem kF:∀(S T:Slots) (k:Nat),live k (S++T)=live k S++live (k+S.length) T
 |[],T,k=>by simp[live]
 |none::r,T,k=>by rw[cons_append,live,live,kF r T (k+1)];simp;congr 1;omega
 |some b::r,T,k=>by rw[cons_append,live,live,kF r T (k+1)];simp;congr 1;omega
theorem WY {S:Slots} {i:Nat} {b:Bnd} (h:S[i]? =some (some b)):(live 0 S)[(live 0 (S.take i)).length]? =some ((i:Int),b)/\(live 0 (S.take (i+1))).length=(live 0 (S.take i)).length+1:=by
 have j:=(List.getElem?_eq_some_iff.1 h).1;have hS:S[i]=some b:=by rw[getElem?_eq_getElem j] at h;simpa using h
 have e1:S=S.take i++some b::S.drop (i+1):=by
  conv=>lhs;rw[<- List.take_append_drop i S,List.drop_eq_getElem_cons j,hS]
 have hl:(S.take i).length=i:=by simp;omega
 constructor
 ·conv=>lhs;rw[e1]
  rw[kF,List.getElem?_append_right (by simp[hl])];simp[live,hl]
 ·rw[take_succ_eq_append_getElem j,hS,kF];simp[live]
theorem Nb {S:Slots} {i:Nat} (h:S[i]? =some none):(live 0 (S.take (i+1))).length=(live 0 (S.take i)).length:=by
 have j:=(List.getElem?_eq_some_iff.1 h).1;have hS:S[i]=none:=by rw[getElem?_eq_getElem j] at h;simpa using h
 rw[take_succ_eq_append_getElem j,hS,kF];simp[live]
theorem P9 (most:Nat) (S:Slots) (Mi Mo:ByteArray->Option Int) (A:XR) (f0:Nat):
  lX Tryz.prog [.one (.int .i64),.agg [(.int .i64),(.int .i64),(.int .i64),(.int .i64),(.int .i64),(.int .i64),(.int .i64),.bool]] (Value.func (.func Eu) #[] #[(Value.pointer (some ⟨f0,0,none⟩))])
   (λW=>Row W f0 [.pointer (some ⟨A.d,0,none⟩)]/\DB W A most S Mi Mo) (yD (live 0 S)):=by
 refine⟨by kernel_rfl,λn Q D hC hQ hD hy w h0=> ?_⟩;refine Calls.mono (Np (a0:= .func (.yield n) #[] #[]) (f0:=⟨f0,0,none⟩) (K:=λw'=>Q (yD (live 0 S)).length w'\/D w') ?_) (λe w' h=>h);obtain⟨r0,h⟩:=hC _ _ h0;have hl:=h.len;have hm:=h.mx;simp only[sx,r0.cell];refine Dj (UY h) ?_;rintro _ w2 ⟨rfl,hw⟩;subst hw;simp only[sx,Bool.not_true,r0.cell,h.hd.cell];have I:(yD (live 0 S)).length=(live 0 S).length:=by simp[yD]
 rw[I];refine fZ (λst W=>∃i:Nat,i<=most/\st.1=(i:Int)/\Q (live 0 (S.take i)).length W) (λst _=>most - st.1.toNat) ⟨0,by omega,rfl,by simpa [live] using h0⟩ ?_;rintro⟨x,⟨⟩⟩ W ⟨i,hi,rfl,hq⟩ next z
 obtain⟨r0,h⟩:=hC _ _ hq;by_cases hlt:i<most
 ·have u:((i:Int)<(most:Int)):=by omega
  have hS:S[i]? =some S[i]:=getElem?_eq_getElem (by omega);generalize S[i]=o at hS;have c:∀j,j<9->_:=h.slot hS;have c0:=c 0 (by omega);have c1:=c 1 (by omega);have c2:=c 2 (by omega);have c3:=c 3 (by omega);have c4:=c 4 (by omega);have c5:=c 5 (by omega);have c6:=c 6 (by omega);have c7:=c 7 (by omega);have c8:=c 8 (by omega);simp only[Nat.add_zero] at c0
  cases o with
  |none=>
   simp only[u,decide_true,cond_true,d_,fC,fD,gW,toNat_natCast,c0,c1,c2,c3,c4,c5,c6,c7,c8,AY];refine⟨by omega,by trivial,uP rfl rfl λp w3 r3 e3 z3 f3=> ?_⟩;simp only[sx,r3.cell];rw[wrap_i64 (by omega) (by omega)];refine z _ _ ⟨i+1,by omega,by simp,?_⟩ (by simp only;omega);rw[Nb hS];exact hQ _ _ _ hq f3
  |some b=>
   simp only[u,decide_true,cond_true,d_,fC,fD,gW,toNat_natCast,c0,c1,c2,c3,c4,c5,c6,c7,c8,AY];refine⟨by omega,by trivial,uP rfl rfl λp w3 r3 e3 z3 f3=> ?_⟩;simp only[sx,r3.cell];obtain⟨g1,g2⟩:=WY hS;refine kC (hy (live 0 (S.take i)).length ((i:Int),(b.sw,b.pr,b.ad,b.po,b.opr,b.oad,b.opo,b.st,()),()) w3 _ ?_ (hQ _ _ _ hq f3) ?_ ?_)
   ·simp only[yD,getElem?_map,g1,map_some]
   ·intro W' hq';refine⟨true,rfl,?_⟩;simp only[Bool.not_true,cond_false];rw[wrap_i64 (by omega) (by omega)];exact z _ _ ⟨i+1,by omega,by simp,by rw[g2];exact hq'⟩ (by simp only;omega)
   ·intro W' hd;refine⟨false,rfl,?_⟩;simp only[Bool.not_false,cond_true];exact .inr hd
 ·have u:¬((i:Int)<(most:Int)):=by omega
  simp only[u,decide_false,cond_false];rw[List.take_of_length_le (by omega)] at hq;exact .inl hq
theorem ahc (n:Int) (w:World):zX n w λp e w'=>Ext w w'/\((¬(0<=n/\n<=4096)/\p=none/\e=1)\/(0<=n/\n<=4096/\e=0/\∃A,p=some ⟨A.d,0,none⟩/\(∀x,fp A x->w.heap.size<=x/\x<w'.heap.size)/\DB w' A n.toNat (List.replicate n.toNat none) (λ_=>none) (λ_=>none))):=by
 apply Za;by_cases c1:n<0
 ·simp only[c1,decide_true,cond_true];exact⟨Ext.refl _,.inl ⟨by omega,by trivial,by trivial⟩⟩
 by_cases c2:n>4096
 ·simp only[c1,c2,decide_true,decide_false,cond_true,cond_false];exact⟨Ext.refl _,.inl ⟨by omega,by trivial,by trivial⟩⟩
 simp only[c1,c2,decide_false,cond_false];refine E_ (WU n w) ?_;rintro p1 e1 w1 ⟨f1,(⟨_,_,rfl,ti,rfl,l1,t1⟩|⟨u,_,_⟩)⟩;rotate_left
 ·omega
 refine E_ (WU n w1) ?_;rintro p2 e2 w2 ⟨f2,(⟨_,_,rfl,tu,rfl,l2,t2⟩|⟨u,_,_⟩)⟩;rotate_left
 ·omega
 simp only[show ((0:Int) !=0)=false from rfl,cond_false];refine C9 (by omega) (by omega) (by omega) (by omega) λsl w3 r3 e3 z3 f3=> ?_;refine fP λd w4 r4 e4 z4 f4=> ?_;obtain⟨m,rfl⟩:∃m:Nat,n=(m:Int):=⟨n.toNat,by omega⟩;simp only[toNat_natCast] at r3 r4 ⊢;have f1:Ext w w1:=f1;have f2:Ext w1 w2:=f2;have f3:Ext w2 w3:=f3;have x4:Ext w w4:=(f1.trans f2).trans (f3.trans f4);have i1:=t1.ht.hd.lt;have i2:=t2.ht.hd.lt;have s1:=f1.size;have s2:=f2.size;have sZ:∀(k j:Nat),live j (List.replicate k none)=[]:=by
  intro k
  induction k with
  |zero=>intro j;rfl
  |succ k ih=>intro j;rw[replicate_succ,live];exact ih _
 have rep:∀k,fO [Value.int .i64 0,Value.int .i64 0,Value.int .i64 0,Value.int .i64 0,Value.int .i64 0,Value.int .i64 0,Value.int .i64 0,Value.bool false,Value.bool false] k=(List.replicate k (none:Option Bnd)).flatMap AY:=by
  intro k
  induction k with
  |zero=>rfl
  |succ k ih=>rw[fO,ih,replicate_succ,List.flatMap_cons];rfl
 refine⟨x4,.inr ⟨by omega,by omega,by trivial,⟨d,sl,ti,ti,tu,tu⟩,rfl,?_,?_⟩⟩
 ·intro x hx;rcases hx with hx|hx|hx|hx|hx|hx<;>simp only at hx<;>omega
 ·refine⟨?_,?_,by simp,by omega,⟨[],?_,?_⟩,⟨[],?_,?_⟩,⟨λk v=> ?_,λk v=> ?_,λj b hb=> ?_⟩,?_⟩
  ·rw[sZ];exact r4
  ·rw[<- rep];exact r3.ext f4
  ·exact t1.frn (f2.trans (f3.trans f4))
  ·rw[sZ];rfl
  ·exact t2.frn (f3.trans f4)
  ·rw[sZ];rfl
  ·constructor
   ·intro h;cases h
   ·rintro⟨j,b,hj,_⟩;rw[getElem?_replicate] at hj;split at hj<;>simp at hj
  ·constructor
   ·intro h;cases h
   ·rintro⟨j,b,hj,_⟩;rw[getElem?_replicate] at hj;split at hj<;>simp at hj
  ·rw[getElem?_replicate] at hb;split at hb<;>simp at hb
  ·refine⟨?_,?_,?_,?_,?_,?_,?_,?_,?_,?_,?_,?_,?_⟩<;>simp only<;>omega
end
end Go.Proofs
end
section
namespace Gp.Ses
open Gp.V4
open Gp.Bind (keyB keyS In64)
structure Ses where
 bd:Int
 st:Int
 un:Int
 ra:Int
 rp:Int
deriving DecidableEq
def Ses.k (b:Ses):List Int:=[b.bd,b.ra,b.rp]
def Ses.ok (b:Ses):Prop:=∀n∈b.k,In64 n
abbrev Slots:=List (Option Ses)
def live:Nat->Slots->List (Int×Ses)
 |_,[]=>[]
 |i,none::r=>live (i+1) r
 |i,some b::r=>((i:Int),b)::live (i+1) r
theorem qH:∀(S:Slots) (k:Nat),(live k S).length<=S.length
 |[],_=>by simp[live]
 |none::r,k=>by have:=qH r (k+1);simp[live];omega
 |some b::r,k=>by have:=qH r (k+1);simp[live];omega
structure GoodS (S:Slots) (M:ByteArray->Option Int):Prop where
 k:∀k v,M k=some v↔∃(j:Nat) (b:Ses),S[j]? =some (some b)/\keyS b.k=k/\v=(j:Int)
 ok:∀(j:Nat) (b:Ses),S[j]? =some (some b)->b.ok
def ids (S:Slots) (k:Int):List Int:=((live 0 S).filter λx=>x.2.bd==k).map (·.1)
end Gp.Ses
end
section
open List (length_nil)
namespace Go.Proofs.SN
open Gp Gp.Hash
abbrev eI (x:Int):List Value:=[.int .i64 x]
theorem qG (x:Int):(eI x).length=1:=rfl
theorem akR (x:Int):∀v∈eI x,iC v=true:=by intro v hv;rw[List.mem_singleton.1 hv];rfl
theorem SlN_ix {α:Type} {n:Nat} {f:α->List Value} {w:World} {s:eY} {xs:List α} (hn:∀x,(f x).length=n) (hn0:0<n) (h:lV n f w s xs) {i:Int} {K:Addr->Prop} {x:α} (h0:0<=i) (hx:xs[i.toNat]? =some x)
  (hK:∀a:Addr,(∀j v,(f x)[j]? =some v->w.cell? (a.add j)=some v)->K a):iP s n i K:=by
 obtain⟨a,ha,hc⟩:=h.at_ hn hn0 hx;have hlt:=(List.getElem?_eq_some_iff.1 hx).1;obtain⟨sa,sl,sc⟩:=s;simp only at ha;subst ha;have hl:sl=xs.length:=h.len;refine(wF ..).2 ⟨h0,by omega,hK _ λj v hj=> ?_⟩;rw[<- hc j v hj];congr 1;obtain⟨b,o,t⟩:=a;unfold Addr.add;by_cases h1:i.toNat * n=0<;>by_cases h2:j=0<;>simp[h1,h2,Nat.add_assoc]
theorem agP {w:World} {s:eY} {l:List Int} (h:lV 1 eI w s l) {k:Nat} {z:Int} (hk:l[k]? =some z) {K:Addr->Prop} (hK:∀a,w.cell? a=some (.int .i64 z)->K a):iP s 1 (k:Int) K:=
 SlN_ix qG (by omega) h (by omega) (by rw[toNat_natCast];exact hk) λa hc=>hK a (hc 0 _ rfl)
theorem UM {w:World} {s:eY} {xs:List Int} (hs:lV 1 eI w s xs) (hl:xs.length<=2^30):
  jk s w λr w'=>Ext w w'/\jB 1 eI w' r xs/\∀b,eY.at r b->w.heap.size<=b:=by
 apply Dy;have hlen:=hs.len
 cases ha:s.a with
 |none=>
  have hc:=hs.cells;rw[ha] at hc;have h0:xs.flatMap eI=[]:=hc;have j:=kR eI 1 qG xs;rw[h0] at j;have:xs=[]:=by
   cases xs with
   |nil=>rfl
   |cons _ _=>simp only[length_cons,length_nil] at j;omega
  subst this;simp only[isNone_none,cond_true];exact⟨Ext.refl _,jB.nil,λb ⟨o,hb⟩=>by cases hb⟩
 |some a=>
  simp only[isNone_some,cond_false];refine fP λt w1 rt et zt f1=> ?_;have hb:jB 1 eI w1 ⟨some ⟨t,0,none⟩,0,0⟩ ([]:List Int):=jB.row (xs:=[]) rt;refine tX qG hb (hs.ext f1) rfl (by omega) akR (by simp only[length_nil];omega) (by simp only[length_nil];omega) λs' w' h1 h2 h3=> ?_;refine⟨f1.new h2 λb hb ⟨o,he⟩=>by cases he;omega,h1,λb hb=> ?_⟩;rcases h3 b hb with ⟨o,he⟩|h
  ·cases he;omega
  ·omega
end Go.Proofs.SN
end
section
namespace Go.Proofs.SN
open Gp Gp.Hash
open Gp.Ses (Ses Slots live GoodS ids)
open Gp.Bind (In64)
def AY:Option Ses->List Value
 |none=>[.int .i64 0,.int .i64 0,.int .i64 0,.int .i64 0,.int .i64 0,.bool false]
 |some b=>[.int .i64 b.bd,.int .i64 b.st,.int .i64 b.un,.int .i64 b.ra,.int .i64 b.rp,.bool true]
theorem NJ (o:Option Ses):(AY o).length=6:=by cases o<;>rfl
def encI (k:Int):Value:= .int .i64 k
def slV (s:eY):Value:= .slice s.a s.len s.cap
abbrev OL:=List (Int×eY)
def ownB (l:OL) (b:Nat):Prop:=∃k s,yE l k=some s/\eY.at s b
structure X0 (w:World) (m:Nat) (l:OL) (S:Slots):Prop where
 mp:nU encI slV w m l
 nd:(l.map (·.1)).Nodup
 has:∀k s,yE l k=some s->jB 1 eI w s (ids S k)
 non:∀k,yE l k=none->ids S k=[]
 ap:∀k k' s s' b,k≠k'->yE l k=some s->yE l k'=some s'->eY.at s b->¬eY.at s' b
 ne:∀b,ownB l b->b≠m
section
variable {w w':World} {m:Nat} {l:OL} {S S':Slots}
theorem X0.fr {F:Nat->Prop} (h:X0 w m l S) (hf:fV w w' F) (hm:¬F m) (ho:∀b,ownB l b->¬F b):X0 w' m l S:=
 ⟨h.mp.fr hf hm,h.nd,λk s hk=>(h.has k s hk).fr hf λb hb=>ho b ⟨k,s,hk,hb⟩,h.non,h.ap,h.ne⟩
theorem X0.lt (h:X0 w m l S) {b:Nat} (hb:ownB l b):b<w.heap.size:=by
 obtain⟨k,s,hk,hs⟩:=hb;exact(h.has k s hk).lt hs
def lkS (l:OL) (k:Int):eY:=(yE l k).getD ⟨none,0,0⟩
theorem X0.buf (h:X0 w m l S) (k:Int):jB 1 eI w (lkS l k) (ids S k):=by
 unfold lkS
 cases hl:yE l k with
 |none=>rw[h.non k hl];exact jB.nil
 |some s=>exact h.has k s hl
end
structure XR where
 d:Nat
 sl:Nat
 ti:Nat
 si:Nat
 m:Nat
 l:OL
def fp (A:XR) (b:Nat):Prop:=b=A.d\/b=A.sl\/b=A.ti\/b=A.si\/b=A.m\/ownB A.l b
structure XR.ne (A:XR):Prop where
 p:A.d≠A.sl/\A.d≠A.ti/\A.d≠A.si/\A.d≠A.m/\A.sl≠A.ti/\A.sl≠A.si/\A.sl≠A.m/\A.ti≠A.m/\A.si≠A.m
 o:∀b,ownB A.l b->b≠A.d/\b≠A.sl/\b≠A.ti/\b≠A.si
structure TA (w:World) (A:XR) (most:Nat) (S:Slots) (M:ByteArray->Option Int):Prop where
 hd:Row w A.d [.slice (some ⟨A.sl,0,none⟩) most most,.pointer (some ⟨A.ti,0,none⟩),.map (some A.m),.int .i64 ((live 0 S).length:Int)]
 row:Row w A.sl (S.flatMap AY)
 len:S.length=most
 mx:most<=4096
 tb:∃L,TB w A.ti A.si L most M/\cnt L=(live 0 S).length
 own:X0 w A.m A.l S
 good:GoodS S M
 ne:A.ne
section
variable {w w':World} {A:XR} {most:Nat} {S:Slots} {M:ByteArray->Option Int}
theorem TA.fr {F:Nat->Prop} (h:TA w A most S M) (hf:fV w w' F) (hs:∀b,fp A b->¬F b):TA w' A most S M:=by
 obtain⟨L,h1,h2⟩:=h.tb;exact⟨h.hd.fr hf (hs _ (.inl rfl)),h.row.fr hf (hs _ (.inr (.inl rfl))),h.len,h.mx,⟨L,h1.fr hf (hs _ (.inr (.inr (.inl rfl)))) (hs _ (.inr (.inr (.inr (.inl rfl))))),h2⟩,
  h.own.fr hf (hs _ (.inr (.inr (.inr (.inr (.inl rfl)))))) (λb hb=>hs _ (.inr (.inr (.inr (.inr (.inr hb)))))),h.good,h.ne⟩
theorem TA.ext (h:TA w A most S M) (hf:Ext w w'):TA w' A most S M:=h.fr (hf λ_=>False) (λ_ _=>by simp)
theorem ano {b s:Nat} {L:List Gu} {mo:Int} (t:TB w b s L mo M):s<w.heap.size:=by
 by_cases hL:L=[]
 ·rw[t.nils hL];exact t.ht.hd.lt
 ·exact(t.ht.row hL).lt
theorem TA.lt (h:TA w A most S M) {x:Nat} (hx:fp A x):x<w.heap.size:=by
 obtain⟨L,h1,h2⟩:=h.tb;rcases hx with rfl|rfl|rfl|rfl|rfl|hx
 ·exact h.hd.lt
 ·exact h.row.lt
 ·exact h1.ht.hd.lt
 ·exact ano h1
 ·exact h.own.mp.lt
 ·exact h.own.lt hx
theorem TA.slot (h:TA w A most S M) {i:Nat} {o:Option Ses} (hi:S[i]? =some o) (j:Nat) (hj:j<6):w.cell? ⟨A.sl,i * 6+j,none⟩=(AY o)[j]? :=by
 rw[h.row.cell,flat_get AY 6 NJ _ _ j hj,hi];rfl
theorem adZ (h:TA w A most S M):jW (some ⟨A.d,0,none⟩) w λr w'=>r=true/\w'=w:=by
 apply Em;simp only[sx,h.hd.cell,Bool.not_false];exact⟨by trivial,by trivial⟩
end
end Go.Proofs.SN
end
section
namespace Go.Proofs.SN
open Gp Gp.Hash
open Gp.Ses (Ses Slots live GoodS ids)
open Gp.Bind (In64)
section
variable {w w':World} {A:XR} {most:Nat} {S:Slots} {M:ByteArray->Option Int}
abbrev yK:List Shape:=[.one (.int .i64),.agg [(.int .i64),(.int .i64),(.int .i64),(.int .i64),(.int .i64)]]
def yS (L:List (Int×Ses)):List (zM yK):=L.map λx=>(x.1,(x.2.bd,x.2.st,x.2.un,x.2.ra,x.2.rp,()),())
theorem kF:∀(S T:Slots) (k:Nat),live k (S++T)=live k S++live (k+S.length) T
 |[],T,k=>by simp[live]
 |none::r,T,k=>by rw[cons_append,live,live,kF r T (k+1)];simp;congr 1;omega
 |some b::r,T,k=>by rw[cons_append,live,live,kF r T (k+1)];simp;congr 1;omega
theorem WY {S:Slots} {i:Nat} {b:Ses} (h:S[i]? =some (some b)):(live 0 S)[(live 0 (S.take i)).length]? =some ((i:Int),b)/\(live 0 (S.take (i+1))).length=(live 0 (S.take i)).length+1:=by
 have j:=(List.getElem?_eq_some_iff.1 h).1;have hS:S[i]=some b:=by rw[getElem?_eq_getElem j] at h;simpa using h
 have e1:S=S.take i++some b::S.drop (i+1):=by
  conv=>lhs;rw[<- List.take_append_drop i S,List.drop_eq_getElem_cons j,hS]
 have hl:(S.take i).length=i:=by simp;omega
 constructor
 ·conv=>lhs;rw[e1]
  rw[kF,List.getElem?_append_right (by simp[hl])];simp[live,hl]
 ·rw[take_succ_eq_append_getElem j,hS,kF];simp[live]
theorem Nb {S:Slots} {i:Nat} (h:S[i]? =some none):(live 0 (S.take (i+1))).length=(live 0 (S.take i)).length:=by
 have j:=(List.getElem?_eq_some_iff.1 h).1;have hS:S[i]=none:=by rw[getElem?_eq_getElem j] at h;simpa using h
 rw[take_succ_eq_append_getElem j,hS,kF];simp[live]
theorem P9 (most:Nat) (S:Slots) (M:ByteArray->Option Int) (A:XR) (f0:Nat):
  lX Tryz.prog yK (Value.func (.func wE) #[] #[(Value.pointer (some ⟨f0,0,none⟩))])
   (λW=>Row W f0 [.pointer (some ⟨A.d,0,none⟩)]/\TA W A most S M) (yS (live 0 S)):=by
 refine⟨by kernel_rfl,λn Q D hC hQ hD hy w h0=> ?_⟩;refine Calls.mono (Ej (a0:= .func (.yield n) #[] #[]) (f0:=⟨f0,0,none⟩) (K:=λw'=>Q (yS (live 0 S)).length w'\/D w') ?_) (λe w' h=>h);obtain⟨r0,h⟩:=hC _ _ h0;have hl:=h.len;have hm:=h.mx;simp only[sx,r0.cell];refine D6 (adZ h) ?_;rintro _ w2 ⟨rfl,hw⟩;subst hw;simp only[sx,Bool.not_true,r0.cell,h.hd.cell];have I:(yS (live 0 S)).length=(live 0 S).length:=by simp[yS]
 rw[I];refine fZ (λst W=>∃i:Nat,i<=most/\st.1=(i:Int)/\Q (live 0 (S.take i)).length W) (λst _=>most - st.1.toNat) ⟨0,by omega,rfl,by simpa [live] using h0⟩ ?_;rintro⟨x,⟨⟩⟩ W ⟨i,hi,rfl,hq⟩ next z
 obtain⟨r0,h⟩:=hC _ _ hq;by_cases hlt:i<most
 ·have u:((i:Int)<(most:Int)):=by omega
  have hS:S[i]? =some S[i]:=getElem?_eq_getElem (by omega);generalize S[i]=o at hS;have c:∀j,j<6->_:=h.slot hS;have c0:=c 0 (by omega);have c1:=c 1 (by omega);have c2:=c 2 (by omega);have c3:=c 3 (by omega);have c4:=c 4 (by omega);have c5:=c 5 (by omega);simp only[Nat.add_zero] at c0
  cases o with
  |none=>
   simp only[u,decide_true,cond_true,d_,fC,fD,gW,toNat_natCast,c0,c1,c2,c3,c4,c5,AY];refine⟨by omega,by trivial,uP rfl rfl λp w3 r3 e3 z3 f3=> ?_⟩;simp only[sx,r3.cell];rw[wrap_i64 (by omega) (by omega)];refine z _ _ ⟨i+1,by omega,by simp,?_⟩ (by simp only;omega);rw[Nb hS];exact hQ _ _ _ hq f3
  |some b=>
   simp only[u,decide_true,cond_true,d_,fC,fD,gW,toNat_natCast,c0,c1,c2,c3,c4,c5,AY];refine⟨by omega,by trivial,uP rfl rfl λp w3 r3 e3 z3 f3=> ?_⟩;simp only[sx,r3.cell];obtain⟨g1,g2⟩:=WY hS;refine kC (hy (live 0 (S.take i)).length ((i:Int),(b.bd,b.st,b.un,b.ra,b.rp,()),()) w3 _ ?_ (hQ _ _ _ hq f3) ?_ ?_)
   ·simp only[yS,getElem?_map,g1,map_some]
   ·intro W' hq';refine⟨true,rfl,?_⟩;simp only[Bool.not_true,cond_false];rw[wrap_i64 (by omega) (by omega)];exact z _ _ ⟨i+1,by omega,by simp,by rw[g2];exact hq'⟩ (by simp only;omega)
   ·intro W' hd;refine⟨false,rfl,?_⟩;simp only[Bool.not_false,cond_true];exact .inr hd
 ·have u:¬((i:Int)<(most:Int)):=by omega
  simp only[u,decide_false,cond_false];rw[List.take_of_length_le (by omega)] at hq;exact .inl hq
theorem J5 {α β:Type} {enc:α->Value} {ev:β->Value} {w:World} {K:Addr->b_} (h:∀w1,nU enc ev w1 w.heap.size []->w1.heap.size=w.heap.size+1->Ext w w1->K ⟨w.heap.size,0,none⟩ w1):Al w (.map #[] 0) K:=
 h _ (nU.new w enc ev) (by simp) (λS=>fV.alloc w _ S)
theorem aiz (n:Int) (w:World):sK n w λp e w'=>Ext w w'/\((¬(0<=n/\n<=4096)/\p=none/\e=1)\/(0<=n/\n<=4096/\e=0/\∃A,p=some ⟨A.d,0,none⟩/\(∀x,fp A x->w.heap.size<=x)/\TA w' A n.toNat (List.replicate n.toNat none) (λ_=>none))):=by
 apply RQ;by_cases c1:n<0
 ·simp only[c1,decide_true,cond_true];exact⟨Ext.refl _,.inl ⟨by omega,by trivial,by trivial⟩⟩
 by_cases c2:n>4096
 ·simp only[c1,c2,decide_true,decide_false,cond_true,cond_false];exact⟨Ext.refl _,.inl ⟨by omega,by trivial,by trivial⟩⟩
 simp only[c1,c2,decide_false,cond_false];refine E_ (WU n w) ?_;rintro p1 e1 w1 ⟨f1,(⟨_,_,rfl,ti,rfl,l1,t1⟩|⟨hbad,_,_⟩)⟩;rotate_left
 ·omega
 simp only[show ((0:Int) !=0)=false from rfl,cond_false];refine C9 (by omega) (by omega) (by omega) (by omega) λsl w3 r3 e3 z3 f3=> ?_;refine J5 (enc:=encI) (ev:=slV) λw4 m4 z4 f4=> ?_;refine fP λd w5 r5 e5 z5 f5=> ?_;obtain⟨m,rfl⟩:∃m:Nat,n=(m:Int):=⟨n.toNat,by omega⟩;simp only[toNat_natCast] at r3 r5 ⊢;have f1:Ext w w1:=f1;have f3:Ext w1 w3:=f3;have x5:Ext w w5:=(f1.trans f3).trans (f4.trans f5);have i1:=t1.ht.hd.lt;have s1:=f1.size;have sZ:∀(k j:Nat),live j (List.replicate k none)=[]:=by
  intro k
  induction k with
  |zero=>intro j;rfl
  |succ k ih=>intro j;rw[replicate_succ,live];exact ih _
 have ids_rep:∀k j,ids (List.replicate k none) j=[]:=λk j=>by unfold ids;rw[sZ];rfl
 have rep:∀k,fO [Value.int .i64 0,Value.int .i64 0,Value.int .i64 0,Value.int .i64 0,Value.int .i64 0,Value.bool false] k=(List.replicate k (none:Option Ses)).flatMap AY:=by
  intro k
  induction k with
  |zero=>rfl
  |succ k ih=>rw[fO,ih,replicate_succ,List.flatMap_cons];rfl
 have noB:∀x,¬ownB [] x:=λx ⟨k,s,hk,_⟩=>by cases hk
 refine⟨x5,.inr ⟨by omega,by omega,by trivial,⟨d,sl,ti,ti,w3.heap.size,[]⟩,rfl,?_,?_⟩⟩
 ·intro x hx;rcases hx with hx|hx|hx|hx|hx|hx
  ·simp only at hx;omega
  ·simp only at hx;omega
  ·simp only at hx;omega
  ·simp only at hx;omega
  ·simp only at hx;omega
  ·exact absurd hx (noB x)
 ·refine⟨?_,?_,by simp,by omega,⟨[],?_,?_⟩,⟨?_,?_,?_,?_,?_,?_⟩,⟨λk v=> ?_,λj b hb=> ?_⟩,⟨?_,λx hx=>absurd hx (noB x)⟩⟩
  ·rw[sZ];exact r5
  ·rw[<- rep];exact(r3.ext f4).ext f5
  ·exact t1.frn (f3.trans (f4.trans f5))
  ·rw[sZ];rfl
  ·exact nU.ext (m4) f5
  ·simp
  ·intro k s hk;cases hk
  ·intro k _;exact ids_rep _ _
  ·intro k k' s s' b _ hk;cases hk
  ·intro b hb;exact absurd hb (noB b)
  ·constructor
   ·intro h;cases h
   ·rintro⟨j,b,hj,_⟩;rw[getElem?_replicate] at hj;split at hj<;>simp at hj
  ·rw[getElem?_replicate] at hb;split at hb<;>simp at hb
  ·refine⟨?_,?_,?_,?_,?_,?_,?_,?_,?_⟩<;>simp only<;>omega
end
end Go.Proofs.SN
end
section
namespace Go.Proofs.QN
open Gp
def Gh (m:Int) (x:Int):List Value:=[.int .i64 x,.int .i64 m]
structure QOk (l:List Int) (m:Int):Prop where
 lo:∀x∈l,0<=x/\x<=m
 m0:0<=m
 m1:m<=4096
 len:l.length<=64
structure QR (w:World) (b s:Nat) (l:List Int) (m:Int):Prop where
 hd:Row w b [.slice (some ⟨s,0,none⟩) l.length l.length]
 row:Row w s (l.flatMap (Gh m))
 ne:b≠s
theorem QR.fr {w w':World} {b s:Nat} {l:List Int} {m:Int} {S:Nat->Prop} (h:QR w b s l m) (hf:fV w w' S) (h1:¬S b) (h2:¬S s):QR w' b s l m:=⟨h.hd.fr hf h1,h.row.fr hf h2,h.ne⟩
def inR (l:List Int) (i:Int):Prop:=0<=i/\i<(l.length:Int)
instance (l:List Int) (i:Int):Decidable (inR l i):=inferInstanceAs (Decidable (_/\_))
theorem JQ (m x:Int):(Gh m x).length=2:=rfl
theorem ae9 (m x:Int) (n:Nat):(List.replicate n x).flatMap (Gh m)=fO (Gh m x) n:=by
 induction n with
 |zero=>rfl
 |succ n ih=>simp[replicate_succ,fO,ih]
def AL (n m:Int):Prop:=1<=n/\n<=64/\0<=m/\m<=4096
instance (n m:Int):Decidable (AL n m):=inferInstanceAs (Decidable (_/\_))
theorem ahW {n m:Int} (h:AL n m):QOk (List.replicate n.toNat 0) m:=by
 obtain⟨h1,h2,h3,h4⟩:=h;refine⟨λx hx=> ?_,h3,h4,by simp;omega⟩;have:=(List.mem_replicate.1 hx).2;omega
def LV (m:Int) (n k:Nat):List Value:=(List.replicate k (0:Int)).flatMap (Gh m)++(List.replicate (n - k) (0:Int)).flatMap (Gh 0)
theorem adN (m:Int) (n k:Nat) (hk:k<n):(LV m n k).set (k * 2+1) (.int .i64 m)=LV m n (k+1):=by
 unfold LV;have hl:((List.replicate k (0:Int)).flatMap (Gh m)).length=k * 2:=by rw[kR _ 2 (JQ m)];simp
 rw[List.set_append_right _ _ (by omega),hl];obtain⟨j,hj⟩:∃j,n - k=j+1:=⟨n - k - 1,by omega⟩;have hj2:n - (k+1)=j:=by omega
 rw[hj,hj2,List.replicate_succ' (n:=k),List.flatMap_append];simp[replicate_succ,Gh]
theorem adM (m:Int) (n k:Nat) (hk:k<=n):(LV m n k).length=n * 2:=by
 unfold LV;rw[List.length_append,kR _ 2 (JQ m),kR _ 2 (JQ 0)];simp;omega
theorem Rk (n m:Int) (w:World):xX n m w λp e w'=>
  (∀S,fV w w' S)/\((AL n m/\e=0/\∃b s,p=some ⟨b,0,none⟩/\w.heap.size<=b/\w.heap.size<=s/\QR w' b s (List.replicate n.toNat 0) m)\/(¬AL n m/\e=1/\p=none)):=by
 apply Xo;by_cases hn:AL n m
 ·obtain⟨h1,h2,h3,h4⟩:=hn;have c1:¬(n<1):=by omega
  have c2:¬(n>64):=by omega
  have c3:¬(m<0):=by omega
  have c4:¬(m>4096):=by omega
  simp only[sx,c1,c2,c3,c4,decide_false];refine C9 (by omega) (by omega) (by omega) (by omega) λs w1 hr0 hs _ hf1=> ?_;have hq0:fO [Value.int .i64 0,Value.int .i64 0] n.toNat=LV m n.toNat 0:=by
   unfold LV;simp only[List.replicate_zero,List.flatMap_nil,List.nil_append,Nat.sub_zero];exact(ae9 0 0 _).symm
  rw[hq0] at hr0;subst hs;refine tV λb w2 hr2 hb hsz hf2=> ?_;simp only[getElem?_cons_zero,fC,fE,hr2.cell];have hb1:=(hf1 λ_=>False).size;have hs0:w.heap.size<w1.heap.size:=hr0.lt;refine fZ (λst w'=>∃k:Nat,k<=n.toNat/\st.1=k/\Row w' b [.slice (some ⟨w.heap.size,0,none⟩) n.toNat n.toNat]/\Row w' w.heap.size (LV m n.toNat k)/\∀S,fV w w' S)
   (λst _=>n.toNat - st.1.toNat) ⟨0,by omega,rfl,hr2,hr0.fr (hf2 λ_=>False) (by simp),λS=>(hf1 S).trans (hf2 S) λ_ _ e=>e⟩ ?_
  rintro⟨i,⟨⟩⟩ w3 ⟨k,hk,rfl,hb3,hr3,hf3⟩ next j
  simp only[sx,hb3.cell];by_cases u:k<n.toNat
  ·simp only[u,Int.ofNat_lt,decide_true,cond_true,toNat_natCast];refine⟨by omega,by first|trivial|omega,?_⟩
   refine gB hr3 rfl (by rw[adM _ _ _ hk];omega) λw4 hr4 hf4 _=> ?_;rw[adN _ _ _ u] at hr4;have e2:IntKind.i64.wrap ((k:Int)+1)=((k+1:Nat):Int):=by rw[wrap_i64 (by omega) (by omega)];omega
   rw[e2];refine j _ _ ⟨k+1,by omega,rfl,hb3.fr (hf4 (·=w.heap.size) rfl) (by omega),hr4,λS=>(hf3 S).trans (hf4 (·=w.heap.size) rfl) λx hx e=>by omega⟩ (by simp only;omega)
  ·have hk2:k=n.toNat:=by omega
   subst hk2;simp only[Int.lt_irrefl,decide_false,cond_false];refine⟨hf3,.inl ⟨⟨h1,h2,h3,h4⟩,by trivial,b,w.heap.size,rfl,by omega,by omega,⟨by simpa using hb3,?_,by omega⟩⟩⟩;unfold LV at hr3;simpa using hr3
 ·have key:(bif decide (n<1) then true else bif decide (n>64) then true else bif decide (m<0) then true else decide (m>4096))=true:=by
   simp only[AL] at hn;by_cases c1:n<1
   ·simp[c1]
   ·by_cases c2:n>64
    ·simp[c2]
    ·by_cases c3:m<0
     ·simp[c3]
     ·simp[c1,c2,c3];omega
  by_cases c1:n<1
  ·simp only[sx,c1,decide_true];exact⟨λS=>fV.refl _ _,.inr ⟨hn,by trivial,by trivial⟩⟩
  ·by_cases c2:n>64
   ·simp only[sx,c1,c2,decide_true,decide_false];exact⟨λS=>fV.refl _ _,.inr ⟨hn,by trivial,by trivial⟩⟩
   ·by_cases c3:m<0
    ·simp only[sx,c1,c2,c3,decide_true,decide_false];exact⟨λS=>fV.refl _ _,.inr ⟨hn,by trivial,by trivial⟩⟩
    ·have c4:m>4096:=by simp only[AL] at hn;omega
     simp only[sx,c1,c2,c3,c4,decide_true,decide_false];exact⟨λS=>fV.refl _ _,.inr ⟨hn,by trivial,by trivial⟩⟩
end Go.Proofs.QN
end
section
namespace Gp.Wh
structure Tm where
 id:Int
 a:Nat
 tn:Int
deriving DecidableEq
def Lv (now a n:Nat):Prop:=now / 64^(n+1)=a / 64^(n+1)/\(n=0\/now / 64^n≠a / 64^n)
def dg (a n:Nat):Nat:=a / 64^n % 64
abbrev Fs:=Nat->Nat->List Tm
abbrev Ps:=Int->Option Tm
structure WI (now:Nat) (P:Ps) (F:Fs):Prop where
 pl:∀id t,P id=some t->t.id=id/\now<=t.a/\t.a<=2^40
 nw:now<=2^40
 mem:∀n k t,n<7->k<64->(t∈F n k↔P t.id=some t/\Lv now t.a n/\dg t.a n=k)
 nd:∀n k,n<7->k<64->((F n k).map Tm.id).Nodup
variable {now:Nat} {P:Ps} {F:Fs}
def rest (P:Ps) (M:List Tm):Ps:=λid=>match P id with|some t=>if t∈M then none else some t|none=>none
end Gp.Wh
end
section
open List (length_nil)
namespace Go.Proofs.WN
open Gp Gp.Wh
abbrev eT (t:Tm):List Value:=[.int .i64 t.id,.int .i64 (t.a:Int),.int .i64 t.tn]
end Go.Proofs.WN
end
section
open List (length_map)
namespace Go.Proofs.WN
open Gp Gp.Wh
def aav (k:Int):Value:= .int .i64 k
def slV (s:eY):Value:= .slice s.a s.len s.cap
def evT (t:Tm):Value:= .agg ⟨eT t⟩
theorem eqW (a b:Int):DJ Tryz.prog 16 3 (aav a) (aav b)=some (decide (a=b)):=by
 have h:DJ Tryz.prog 16 3 (.int .i64 a) (.int .i64 b)=some (a==b):=by kernel_rfl
 rw[aav,aav,h];congr 1
theorem aor (a:Int):nS Tryz.prog 3 (aav a)=true:=by
 have h:nS Tryz.prog 3 (.int .i64 a)=true:=by kernel_rfl
 exact h
theorem aef {α β:Type} {enc:α->Value} {ev:β->Value} {w:World} {r:Nat} {l:List (α×β)} (h:nU enc ev w r l) {K:Int->Prop} (hK:K (l.length:Int)):I5 w (some r) K:=by
 obtain⟨es,c,h1,h2,_⟩:=h;refine⟨es,c,h1,?_⟩;have:es.size=l.length:=by
  have:=congrArg List.length h2;simpa using this
 rw[this];exact hK
abbrev PL:=List (Int×Tm)
def atS (ss:List eY) (b:Nat):Prop:=∃(i:Nat) (s:eY),ss[i]? =some s/\eY.at s b
def fpW (d m:Nat) (ss:List eY) (b:Nat):Prop:=b=d\/b=m\/atS ss b
structure WM (w:World) (d m:Nat) (ss:List eY) (l:PL) (now:Nat) (tn most:Int) (F:Fs):Prop where
 hd:Row w d (ss.map slV++[.map (some m),.int .i64 (now:Int),.int .i64 tn,.int .i64 most])
 len:ss.length=448
 mp:nU aav evT w m l
 nd:(l.map (·.1)).Nodup
 buf:∀n k,n<7->k<64->∃s,ss[n * 64+k]? =some s/\jB 3 eT w s (F n k)
 ap:∀(i j:Nat) s s' b,i≠j->ss[i]? =some s->ss[j]? =some s'->eY.at s b->¬eY.at s' b
 ne:∀b,atS ss b->b≠d/\b≠m
 dm:d≠m
 sm:∀n k,n<7->k<64->(F n k).length<=2^21
section
variable {w w':World} {d m:Nat} {ss:List eY} {l:PL} {now:Nat} {tn most:Int} {F:Fs}
theorem WM.fr {S:Nat->Prop} (h:WM w d m ss l now tn most F) (hf:fV w w' S) (hs:∀b,fpW d m ss b->¬S b):WM w' d m ss l now tn most F:=
 ⟨h.hd.fr hf (hs _ (.inl rfl)),h.len,h.mp.fr hf (hs _ (.inr (.inl rfl))),h.nd,λn k hn hk=>by
  obtain⟨s,h1,h2⟩:=h.buf n k hn hk;exact⟨s,h1,h2.fr hf λb hb=>hs b (.inr (.inr ⟨_,s,h1,hb⟩))⟩,h.ap,h.ne,h.dm,h.sm⟩
theorem WM.aiq (h:WM w d m ss l now tn most F) {b:Nat} (hb:atS ss b):∃n k s,n<7/\k<64/\ss[n * 64+k]? =some s/\eY.at s b/\jB 3 eT w s (F n k):=by
 obtain⟨i,s,hi,hs⟩:=hb;have hlt:=(List.getElem?_eq_some_iff.1 hi).1;have hl:=h.len;obtain⟨s',h1,h2⟩:=h.buf (i / 64) (i % 64) (by omega) (by omega);have e:i / 64 * 64+i % 64=i:=by omega
 rw[e,hi] at h1
 cases h1
 exact⟨i / 64,i % 64,s,by omega,by omega,by rw[e];exact hi,hs,h2⟩
theorem WM.lt (h:WM w d m ss l now tn most F) {b:Nat} (hb:fpW d m ss b):b<w.heap.size:=by
 rcases hb with rfl|rfl|hb
 ·exact h.hd.lt
 ·exact h.mp.lt
 ·obtain⟨n,k,s,_,_,_,h1,h2⟩:=h.aiq hb;exact h2.lt h1
theorem WM.amH (h:WM w d m ss l now tn most F):w.cell? ⟨d,448,none⟩=some (.map (some m)):=by
 rw[h.hd.cell,List.getElem?_append_right (by rw[length_map,h.len];omega),length_map,h.len];rfl
theorem WM.cs (h:WM w d m ss l now tn most F) {i:Nat} {s:eY} (hi:ss[i]? =some s):w.cell? ⟨d,i,none⟩=some (.slice s.a s.len s.cap):=by
 have j:=(List.getElem?_eq_some_iff.1 hi).1;rw[h.hd.cell,List.getElem?_append_left (by rw[length_map];exact j),getElem?_map,hi];rfl
theorem ad3 (h:WM w d m ss l now tn most F):kQ (some ⟨d,0,none⟩) w λr w'=>r=true/\w'=w:=by
 apply Gf;simp only[sx,h.amH,Bool.not_false];exact⟨by trivial,by trivial⟩
theorem aiG (h:WM w d m ss l now tn most F):jP (some ⟨d,0,none⟩) w λn w'=>n=(l.length:Int)/\w'=w:=by
 apply JO;refine Fj (ad3 h) ?_;rintro _ w2 ⟨rfl,hw⟩;subst hw;simp only[sx,Bool.not_true,h.amH];exact aef h.mp ⟨by trivial,by trivial⟩
end
end Go.Proofs.WN
end
section
namespace Go.Proofs.WN
open Gp Gp.Wh
section
variable {w w':World} {d m:Nat} {ss:List eY} {l:PL} {now:Nat} {tn most:Int} {F:Fs}
structure WS (w:World) (d m:Nat) (ss:List eY) (l:PL) (now:Nat) (tn most:Int) (F:Fs):Prop where
 wm:WM w d m ss l now tn most F
 wi:WI now (yE l) F
 mo:most<=1048576/\(l.length:Int)<=most
 tb:∀id t,yE l id=some t->t.tn<=tn
 ti:∀id id' t u,yE l id=some t->yE l id'=some u->t.tn=u.tn->id=id'
 t0:0<=tn
theorem WS.fr {S:Nat->Prop} (h:WS w d m ss l now tn most F) (hf:fV w w' S) (hs:∀b,fpW d m ss b->¬S b):WS w' d m ss l now tn most F:=⟨h.wm.fr hf hs,h.wi,h.mo,h.tb,h.ti,h.t0⟩
end
end Go.Proofs.WN
end
section
namespace Go.Proofs.WN
open Gp Gp.Wh
theorem J5 {α β:Type} {enc:α->Value} {ev:β->Value} {w:World} {K:Addr->b_} (h:∀w1,nU enc ev w1 w.heap.size []->w1.heap.size=w.heap.size+1->Ext w w1->K ⟨w.heap.size,0,none⟩ w1):Al w (.map #[] 0) K:=
 h _ (nU.new w enc ev) (by simp) (λS=>fV.alloc w _ S)
theorem aiH (n:Int) (hn:0<=n/\n<=1048576) (w:World):yg n w λp e w'=>Ext w w'/\e=0/\∃d m ss,p=some ⟨d,0,none⟩/\WS w' d m ss [] 0 0 n (λ_ _=>[])/\∀b,fpW d m ss b->w.heap.size<=b:=by
 apply Xw;have c1:¬n<0:=by omega
 have c2:¬n>1048576:=by omega
 simp only[c1,c2,decide_false,cond_false];refine J5 (enc:=aav) (ev:=evT) λw4 m4 z4 f4=> ?_;refine fP λd w5 r5 e5 z5 f5=> ?_;have z:∀(i:Nat) (s:eY),(List.replicate 448 (⟨none,0,0⟩:eY))[i]? =some s->s=⟨none,0,0⟩:=λi s hi=>by
  rw[getElem?_replicate] at hi;split at hi
  ·cases hi;rfl
  ·cases hi
 have noat:∀b,¬atS (List.replicate 448 (⟨none,0,0⟩:eY)) b:=λb ⟨i,s,hi,o,hs⟩=>by rw[z i s hi] at hs;cases hs
 refine⟨f4.trans f5,by trivial,d,w.heap.size,List.replicate 448 ⟨none,0,0⟩,rfl,⟨⟨?_,by simp,m4.ext f5,by simp,λn k hn hk=> ?_,λi j s s' b hij hi hj hb=> ?_,λb hb=>absurd hb (noat b),by omega,λ_ _ _ _=>by simp⟩,⟨λid t ht=> ?_,by omega,λn k t hn hk=> ?_,λn k hn hk=>by simp⟩,⟨by omega,by simpa using hn.1⟩,λid t ht=> ?_,λi i' t u ht=> ?_,by omega⟩,λb hb=> ?_⟩
 ·rw[List.map_replicate];exact r5
 ·refine⟨⟨none,0,0⟩,?_,jB.nil⟩;rw[getElem?_replicate,if_pos (by omega)]
 ·rw[z i s hi] at hb;obtain⟨o,ho⟩:=hb;cases ho
 ·cases ht
 ·constructor
  ·intro hx;simp at hx
  ·rintro⟨hx,_⟩;cases hx
 ·cases ht
 ·cases ht
 ·rcases hb with rfl|rfl|hb
  ·omega
  ·omega
  ·exact absurd hb (noat b)
end Go.Proofs.WN
end
section
namespace Gp.Pool
end Gp.Pool
namespace Go.Proofs.CN
open Gp
theorem mx (a c:Int):(if c>a then c else a)=max a c:=by rw[Int.max_def];split<;>split<;>omega
def yP (l:List Int):List (zM [.one (.int .i64)]):=l.map λp=>(p,())
def VD (w0 w:World) (v:Value) (l:List Int):Prop:=
 iC v=true/\∃C,lX Tryz.prog [.one (.int .i64)] v C (yP l)/\∀W S,fV w W S->(∀b,w0.heap.size<=b->b<w.heap.size->¬S b)->C W
end Go.Proofs.CN
namespace Go.Proofs.CN
open Gp
theorem VD.back {w0 w1 w:World} {v:Value} {l:List Int} (h:VD w1 w v l) (hf:w0.heap.size<=w1.heap.size):VD w0 w v l:=by
 obtain⟨h1,C,h2,h3⟩:=h;exact⟨h1,C,h2,λW S hF hS=>h3 W S hF λb hb j=>hS b (by omega) j⟩
end Go.Proofs.CN
namespace Go.Proofs.CN
end Go.Proofs.CN
namespace Go.Proofs.CN
open Gp
theorem T_ (a b:Int):(a==b)=decide (a=b):=rfl
theorem eqP (a b:Int):DJ Tryz.prog 16 3 (.int .i64 a) (.int .i64 b)=some (decide (a=b)):=by
 have h:DJ Tryz.prog 16 3 (.int .i64 a) (.int .i64 b)=some (a==b):=by kernel_rfl
 rw[h];rfl
theorem ahK (a:Int):nS Tryz.prog 3 (.int .i64 a)=true:=by
 unfold nS;rw[eqP];rfl
theorem tK (k:Int) (w:World):kT k w λr w'=>r=decide (0<=k/\k<4294967296)/\w'=w:=by
 apply IL;by_cases h:0<=k
 ·simp[h]
 ·simp[h]
end Go.Proofs.CN
namespace Go.Proofs.CN
open Gp
theorem BA {w w':World} {S:Nat->Prop} (h:fV w w' S) (l:Nat):fV (fF w l) (fF w' l) S:=by
 refine⟨by simpa [fF] using h.size,λb hb hn=> ?_,h.io⟩;have:=h.same b (by simpa [fF] using hb) hn;simp only[fF,Array.getElem?_modify,this]
end Go.Proofs.CN
namespace Go.Proofs.CN
open Gp
theorem Yb {x y a:Int} (hy:0<=y) (hy2:y<=32) (w:World):kX x y a w λr w'=>r=(decide (0<=a/\a<4294967296) && (jy .i64 a (32 - y)==jy .i64 x (32 - y)))/\Ext w w':=by
 apply BN;refine fP λt w1 r1 e1 z1 f1=> ?_;simp only[sx,r1.cell];refine nC (tK a _) ?_;rintro _ w' ⟨rfl,hw⟩;subst hw;have f2:=f1.trans (Ext.drew w1);by_cases h:0<=a/\a<4294967296
 ·rw[wrap_i64 (by omega) (by omega)];simp only[h,decide_true,cond_true,cond_true,getElem?_cons_zero,fC,fD,r1.drew.cell,and_self,Bool.true_and];exact⟨by omega,by omega,by trivial,f2⟩
 ·simp only[h,decide_false,cond_false,Bool.false_and];exact⟨by trivial,f2⟩
def abZ (a:Int):Prop:=0<=a/\a<4294967296/\(jy .i64 a 24==jy .i64 0 24)=false/\(jy .i64 a 24==jy .i64 2130706432 24)=false/\(jy .i64 a 29==jy .i64 3758096384 29)=false
theorem Py {a:Int} (h:abZ a) (w:World):ku a w λr w'=>r=true/\Ext w w':=by
 obtain⟨h1,h2,h3,h4,h5⟩:=h;apply Ef;refine nC (tK a _) ?_;rintro _ w' ⟨rfl,hw⟩;subst hw;have hr:(0<=a/\a<4294967296):=⟨h1,h2⟩;simp only[hr,and_self,decide_true,Bool.not_true,cond_false];refine fP λt w1 r1 e1 z1 f1=> ?_;refine NW (K:=λr w2=>r=false/\Ext w1 w2) ?_ ?_
 ·apply FX;refine fZ (λst W=>∃j:Nat,j<=3/\st.1=(j:Int)/\Ext w1 W) (λst _=>(3 - st.1).toNat) ⟨0,by omega,rfl,Ext.refl _⟩ ?_;rintro⟨i,⟨⟩⟩ W ⟨j,hj,hi,hx⟩ next u
  simp only at hi;subst hi;have r:=r1.ext hx;by_cases z:j<3
  ·have hl:((j:Int)<((3:Nat):Int)):=by omega
   have I:∃x y:Int,0<=y/\y<=32/\(jy .i64 a (32 - y)==jy .i64 x (32 - y))=false/\W.cell? ⟨t,j * 2,none⟩=some (.int .i64 x)/\W.cell? ⟨t,j * 2+1,none⟩=some (.int .i64 y):=by
    match j,z with
    |0,_=>exact⟨0,8,by omega,by omega,h3,r.cell 0,r.cell 1⟩
    |1,_=>exact⟨2130706432,8,by omega,by omega,h4,r.cell 2,r.cell 3⟩
    |2,_=>exact⟨3758096384,3,by omega,by omega,h5,r.cell 4,r.cell 5⟩
   obtain⟨x,y,hy,hy2,hs,c0,c1⟩:=I;simp only[sx,hl,decide_true,toNat_natCast,c0,c1];refine⟨by first|trivial|omega,by first|trivial|omega,?_⟩
   refine uP rfl rfl λb w3 r3 e3 z3 x3=> ?_;simp only[sx,r3.cell];refine vH (Yb hy hy2 _) ?_;rintro _ w4 ⟨rfl,x4⟩;simp only[hs,Bool.and_false,cond_false];rw[wrap_i64 (by omega) (by omega)];exact u _ _ ⟨j+1,by omega,by simp,(hx.trans x3).trans x4⟩ (by simp only;omega)
  ·have hl:¬((j:Int)<((3:Nat):Int)):=by omega
   simp only[hl,decide_false,cond_false];exact⟨by trivial,hx⟩
 ·rintro _ w2 ⟨rfl,f2⟩;exact⟨rfl,f1.trans f2⟩
end Go.Proofs.CN
namespace Go.Proofs.CN
open Gp
theorem Vx {w:World} {K:Addr->b_} (h:∀w1,(∀(α:Type) (enc:α->Value),yF enc w1 w.heap.size [])->w1.heap.size=w.heap.size+1->Ext w w1->K ⟨w.heap.size,0,none⟩ w1):Al w (.map #[] 0) K:=
 h _ (λ_ enc=>yF.new w enc) (by simp) (λS=>fV.alloc w _ S)
end Go.Proofs.CN
end
