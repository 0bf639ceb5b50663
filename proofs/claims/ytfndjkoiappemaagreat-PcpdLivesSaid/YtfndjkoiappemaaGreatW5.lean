import Derived.Test.YtfndjkoiappemaaGreatG44
import Derived.Test.YtfndjkoiappemaaGreatW3
import Derived.Test.YtfndjkoiappemaaGreatW2
open List (getElem?_cons_zero getElem?_eq_getElem length_cons length_set set_set)
open Int (toNat_natCast)
set_option maxRecDepth 100000
section
namespace Gp.Hash
abbrev yT:=Option (ByteArray×Int)
def cy (m a:Nat):Nat:=if a<m then a else a - m
def used (L:List yT) (i:Nat):Prop:=∃e:ByteArray×Int,L[i]? =some (some e)
def Has (L:List yT) (k:ByteArray) (n:Int):Prop:=∃i:Nat,L[i]? =some (some (k,n))
structure T (H:ByteArray->Nat) (L:List yT) (X:Nat->Nat->Prop):Prop where
 dist:∀(i j:Nat) (k:ByteArray) (n n':Int),L[i]? =some (some (k,n))->L[j]? =some (some (k,n'))->i=j
 reach:∀(i:Nat) (k:ByteArray) (n:Int),L[i]? =some (some (k,n))->∃D,D<L.length/\cy L.length (H k+D)=i/\∀d,d<D->used L (cy L.length (H k+d))\/X i (cy L.length (H k+d))
def Stop (L:List yT) (h:Nat) (k:ByteArray) (d:Nat):Prop:=L[cy L.length (h+d)]? =some none\/∃n,L[cy L.length (h+d)]? =some (some (k,n))
structure First (L:List yT) (h:Nat) (k:ByteArray) (d:Nat):Prop where
 lt:d<L.length
 stop:Stop L h k d
 first:∀d',d'<d->¬Stop L h k d'
section
variable {H:ByteArray->Nat} {L:List yT} {X:Nat->Nat->Prop} {k:ByteArray} {n:Int}
theorem cyc (m a:Nat):(a<m/\cy m a=a)\/(m<=a/\cy m a=a - m):=by
 unfold cy;split<;>omega
theorem Py {m a:Nat} (h:a<2 * m):cy m a<m:=by unfold cy;split<;>omega
theorem abk {m h d d':Nat} (hh:h<m) (hd:d<m) (hd':d'<m) (e:cy m (h+d)=cy m (h+d')):d=d':=by
 unfold cy at e;split at e<;>split at e<;>omega
theorem Xw (L:List yT) {i:Nat} (h:i<L.length):L[i]? =some none\/∃k n,L[i]? =some (some (k,n)):=by
 rw[getElem?_eq_getElem h]
 cases hx:L[i] with
 |none=>exact .inl rfl
 |some e=>exact .inr ⟨e.1,e.2,rfl⟩
theorem ZV (t:T H L X) (hX:∀i p,¬X i p) (hh:H k<L.length) {i:Nat} (hi:L[i]? =some (some (k,n))) {d:Nat} (f:First L (H k) k d):cy L.length (H k+d)=i:=by
 obtain⟨D,hD,hc,hu⟩:=t.reach i k n hi;have hs:Stop L (H k) k D:= .inr ⟨n,by rw[hc];exact hi⟩;have h1:¬D<d:=λh=>f.first D h hs
 by_cases h2:d<D
 ·rcases hu d h2 with ⟨e,he⟩|hx
  ·rcases f.stop with h0|⟨n',h0⟩
   ·rw[he] at h0;cases h0
   ·exact t.dist _ _ _ _ _ h0 hi
  ·exact absurd hx (hX _ _)
 ·have:d=D:=by omega
  rw[this,hc]
theorem NY (u:∀n,¬Has L k n) {h:Nat} (hh:h<L.length) {d:Nat} (f:First L h k d):L[cy L.length (h+d)]? =some none/\∀d',d'<d->used L (cy L.length (h+d')):=by
 refine⟨?_,λd' hd=> ?_⟩
 ·rcases f.stop with h0|⟨n',h0⟩
  ·exact h0
  ·exact absurd ⟨_,h0⟩ (u n')
 ·have hlt:=f.lt;rcases Xw L (Py (m:=L.length) (a:=h+d') (by omega)) with h0|⟨k',n',h0⟩
  ·exact absurd (.inl h0) (f.first d' hd)
  ·exact⟨_,h0⟩
theorem jG (L:List yT) (q i:Nat) (e:yT):(L.set q e)[i]? =if q=i/\q<L.length then some e else L[i]? :=by
 rw[List.getElem?_set];by_cases h1:q=i
 ·subst h1;by_cases h2:q<L.length
  ·simp[h2]
  ·simp[h2]
 ·simp[h1]
theorem aaN {q i:Nat} {e:yT} (hu:used L i) (hn:L[q]? =some none):used (L.set q e) i:=by
 obtain⟨x,hx⟩:=hu;refine⟨x,?_⟩;rw[jG,if_neg]
 ·exact hx
 ·rintro⟨rfl,_⟩;rw[hn] at hx;cases hx
theorem insert (t:T H L X) (u:∀n,¬Has L k n) (hh:H k<L.length) {d:Nat} (f:First L (H k) k d):T H (L.set (cy L.length (H k+d)) (some (k,n))) X:=by
 obtain⟨hn,hu⟩:=NY u hh f;have hq:cy L.length (H k+d)<L.length:=(List.getElem?_eq_some_iff.1 hn).1;refine⟨λi j k' n1 n2 hi hj=> ?_,λi k' n1 hi=> ?_⟩
 ·rw[jG] at hi hj;split at hi<;>split at hj
  ·rename_i h1 h2;rw[<- h1.1,<- h2.1]
  ·cases hi;exact absurd ⟨_,hj⟩ (u n2)
  ·cases hj;exact absurd ⟨_,hi⟩ (u n1)
  ·exact t.dist _ _ _ _ _ hi hj
 ·rw[jG] at hi;simp only[length_set];split at hi
  ·rename_i h1
   cases hi
   exact⟨d,f.lt,h1.1,λd' hd=> .inl (aaN (hu d' hd) hn)⟩
  ·obtain⟨D,hD,hc,hx⟩:=t.reach i k' n1 hi;exact⟨D,hD,hc,λd' hd=>(hx d' hd).imp (λh=>aaN h hn) id⟩
theorem H9 {q:Nat} (hn:L[q]? =some none) (h:∀n,¬Has L k n) (k':ByteArray) (n':Int):Has (L.set q (some (k,n))) k' n'↔(k'=k/\n'=n)\/(k'≠k/\Has L k' n'):=by
 have hq:q<L.length:=(List.getElem?_eq_some_iff.1 hn).1;constructor
 ·rintro⟨i,hi⟩;rw[jG] at hi;split at hi
  ·cases hi;exact .inl ⟨rfl,rfl⟩
  ·refine .inr ⟨?_,i,hi⟩;rintro rfl;exact h _ ⟨i,hi⟩
 ·rintro(⟨rfl,rfl⟩|⟨hk,i,hi⟩)
  ·exact⟨q,by rw[jG,if_pos ⟨rfl,hq⟩]⟩
  ·refine⟨i,?_⟩;rw[jG,if_neg]
   ·exact hi
   ·rintro⟨rfl,_⟩;rw[hn] at hi;cases hi
theorem update (t:T H L X) {q:Nat} {n0:Int} (hq:L[q]? =some (some (k,n0))):T H (L.set q (some (k,n))) X:=by
 have u:q<L.length:=(List.getElem?_eq_some_iff.1 hq).1;have old:∀(i:Nat) (k':ByteArray) (n1:Int),(L.set q (some (k,n)))[i]? =some (some (k',n1))->∃n2:Int,L[i]? =some (some (k',n2)):=by
  intro i k' n1 hi;rw[jG] at hi;split at hi
  ·rename_i h1;cases hi;exact⟨n0,by rw[<- h1.1];exact hq⟩
  ·exact⟨n1,hi⟩
 have us:∀i,used L i->used (L.set q (some (k,n))) i:=by
  rintro i ⟨e,he⟩;by_cases h:q=i
  ·exact⟨_,by rw[jG,if_pos ⟨h,u⟩]⟩
  ·exact⟨e,by rw[jG,if_neg (λx=>h x.1)];exact he⟩
 refine⟨λi j k' n1 n2 hi hj=> ?_,λi k' n1 hi=> ?_⟩
 ·obtain⟨_,h1⟩:=old _ _ _ hi;obtain⟨_,h2⟩:=old _ _ _ hj;exact t.dist _ _ _ _ _ h1 h2
 ·obtain⟨_,h1⟩:=old _ _ _ hi;simp only[length_set];obtain⟨D,hD,hc,hx⟩:=t.reach i k' _ h1;exact⟨D,hD,hc,λd' hd=>(hx d' hd).imp (us _) id⟩
theorem U0 (t:T H L X) {q:Nat} {n0:Int} (hq:L[q]? =some (some (k,n0))) (k':ByteArray) (n':Int):Has (L.set q (some (k,n))) k' n'↔(k'=k/\n'=n)\/(k'≠k/\Has L k' n'):=by
 have h:q<L.length:=(List.getElem?_eq_some_iff.1 hq).1;constructor
 ·rintro⟨i,hi⟩;rw[jG] at hi;split at hi
  ·cases hi;exact .inl ⟨rfl,rfl⟩
  ·rename_i h1;refine .inr ⟨?_,i,hi⟩;rintro rfl;exact h1 ⟨t.dist _ _ _ _ _ hq hi,h⟩
 ·rintro(⟨rfl,rfl⟩|⟨hk,i,hi⟩)
  ·exact⟨q,by rw[jG,if_pos ⟨rfl,h⟩]⟩
  ·refine⟨i,?_⟩;rw[jG,if_neg]
   ·exact hi
   ·rintro⟨rfl,_⟩;rw[hq] at hi;cases hi;exact hk rfl
def off (m at_ i:Nat):Nat:=if at_<=i then i - at_ else i+m - at_
theorem ahr (m at_ i:Nat):(at_<=i/\off m at_ i=i - at_)\/(i<at_/\off m at_ i=i+m - at_):=by
 unfold off;split<;>omega
def Xj (m at_ e j i p:Nat):Prop:=j<=off m at_ i/\off m at_ i<e/\off m at_ p<j
structure Zone (L:List yT) (at_ e j:Nat):Prop where
 at_lt:at_<L.length
 e1:e<L.length
 je:j<=e
 full:∀d,j<=d->d<e->used L (cy L.length (at_+d))
 free:L[cy L.length (at_+e)]? =some none
theorem ajD (m at_ e i p:Nat):¬Xj m at_ e e i p:=λh=>by have:=h.1;have:=h.2.1;omega
theorem way {m at_ e j h d D:Nat} (hat:at_<m) (he:e<m) (hje:j<e) (hh:h<m) (hD:D<m) (hd:d<D) (hp:cy m (at_+j)=cy m (h+d))
  (hz:¬(j<=off m at_ (cy m (h+D))/\off m at_ (cy m (h+D))<e)):(cy m (at_+e)=cy m (h+(d+(e - j)))/\d+(e - j)<D)\/cy m (at_+e)=cy m (h+D):=by
 have c1:=cyc m (at_+j);have c2:=cyc m (h+d);have c3:=cyc m (h+D);have c4:=cyc m (at_+e);have c5:=cyc m (h+(d+(e - j)));have o1:=ahr m at_ (cy m (h+D));omega
theorem clear {at_ e j:Nat} (z:Zone L at_ e j) (hj:j<e) (hH:∀k,H k<L.length) (t:T H L (Xj L.length at_ e j)):T H (L.set (cy L.length (at_+j)) none) (Xj L.length at_ e (j+1)):=by
 have J:=z.at_lt;have he:=z.e1;have hp:cy L.length (at_+j)<L.length:=Py (by omega);have old:∀(i:Nat) (k':ByteArray) (n1:Int),(L.set (cy L.length (at_+j)) none)[i]? =some (some (k',n1))->L[i]? =some (some (k',n1))/\cy L.length (at_+j)≠i:=by
  intro i k' n1 hi;rw[jG] at hi;split at hi
  ·cases hi
  ·rename_i h1;exact⟨hi,λh=>h1 ⟨h,hp⟩⟩
 refine⟨λi j' k' n1 n2 hi hj'=>t.dist _ _ _ _ _ (old _ _ _ hi).1 (old _ _ _ hj').1,λi k' n1 hi=> ?_⟩;obtain⟨hi,N⟩:=old _ _ _ hi;simp only[length_set];obtain⟨D,hD,hc,hx⟩:=t.reach i k' n1 hi;have hh:=hH k';have hlt:i<L.length:=(List.getElem?_eq_some_iff.1 hi).1;have hoff:off L.length at_ i≠j:=by
  intro h;apply N;unfold off at h;unfold cy;split at h<;>split<;>omega
 refine⟨D,hD,hc,λd hd=> ?_⟩;by_cases I:cy L.length (at_+j)=cy L.length (H k'+d)
 ·
  right;have o1:off L.length at_ (cy L.length (H k'+d))=j:=by rw[<- I];unfold off cy;split<;>split<;>omega
  refine⟨?_,?_,by omega⟩
  all_goals
   by_cases hz:j<=off L.length at_ i/\off L.length at_ i<e
   ·omega
   ·exfalso;have u:=z.free;have key:=way J he hj hh hD hd I (by rw[hc];exact hz);rcases key with ⟨k1,k2⟩|k1
    ·rcases hx _ k2 with ⟨x,hu⟩|hX
     ·rw[<- k1,u] at hu;cases hu
     ·exact hz ⟨hX.1,hX.2.1⟩
    ·rw[k1,hc,hi] at u;cases u
 ·rcases hx d hd with ⟨x,hu⟩|hX
  ·exact .inl ⟨x,by rw[jG,if_neg (λh=>I h.1)];exact hu⟩
  ·exact .inr ⟨by have:=hX.1;omega,hX.2.1,by have:=hX.2.2;omega⟩
theorem least {p:Nat->Prop} (h:∃n,p n):∃n,p n/\∀m,m<n->¬p m:=by
 obtain⟨n,hn⟩:=h
 induction n using Nat.strongRecOn with
 |_ n ih=>
  by_cases hx:∃m,m<n/\p m
  ·obtain⟨m,hm,hp⟩:=hx;exact ih m hm hp
  ·exact⟨n,hn,λm hm hp=>hx ⟨m,hm,hp⟩⟩
theorem afe {h:Nat} (hs:∃d,d<L.length/\Stop L h k d):∃d,First L h k d:=by
 obtain⟨d,⟨h1,h2⟩,h3⟩:=least hs;exact⟨d,h1,h2,λd' hd hx=>h3 d' hd ⟨by omega,hx⟩⟩
theorem aeX {m h i:Nat} (hh:h<m) (hi:i<m):off m h i<m/\cy m (h+off m h i)=i:=by
 have c1:=cyc m (h+off m h i);have o1:=ahr m h i;omega
theorem Il {h i:Nat} (hh:h<L.length) (hi:L[i]? =some none):∃d,d<L.length/\Stop L h k d:=by
 have u:i<L.length:=(List.getElem?_eq_some_iff.1 hi).1;obtain⟨h1,h2⟩:=aeX hh u;exact⟨_,h1,.inl (by rw[h2];exact hi)⟩
def cnt:List yT->Nat
 |[]=>0
 |none::r=>cnt r
 |some _::r=>cnt r+1
theorem cnt_le:∀L:List yT,cnt L<=L.length
 |[]=>Nat.le_refl _
 |none::r=>by have:=cnt_le r;simp only[cnt,length_cons];omega
 |some _::r=>by have:=cnt_le r;simp only[cnt,length_cons];omega
theorem TU:∀{L:List yT},cnt L<L.length->∃i:Nat,L[i]? =some none
 |[],h=>by simp[cnt] at h
 |none::_,_=>⟨0,rfl⟩
 |some _::r,h=>by
  obtain⟨i,hi⟩:=TU (L:=r) (by simp only[cnt,length_cons] at h;omega);exact⟨i+1,by simpa using hi⟩
theorem KX:∀{L:List yT} {i:Nat} {e:ByteArray×Int},L[i]? =some none->cnt (L.set i (some e))=cnt L+1
 |[],_,_,h=>by simp at h
 |x::r,0,e,h=>by simp at h;subst h;rfl
 |x::r,i+1,e,h=>by
  have:=KX (L:=r) (i:=i) (e:=e) (by simpa using h)
  cases x<;>simp only[List.set_cons_succ,cnt,this]
theorem Pv:∀{L:List yT} {i:Nat} {e:ByteArray×Int},L[i]? =some (some e)->cnt (L.set i none)+1=cnt L
 |[],_,_,h=>by simp at h
 |x::r,0,e,h=>by simp at h;subst h;rfl
 |x::r,i+1,e,h=>by
  have:=Pv (L:=r) (i:=i) (e:=e) (by simpa using h)
  cases x<;>simp only[List.set_cons_succ,cnt]<;>omega
theorem Pq:∀{L:List yT} {i:Nat} {e e':ByteArray×Int},L[i]? =some (some e)->cnt (L.set i (some e'))=cnt L
 |[],_,_,_,h=>by simp at h
 |x::r,0,_,_,h=>by simp at h;subst h;rfl
 |x::r,i+1,e,e',h=>by
  have:=Pq (L:=r) (i:=i) (e:=e) (e':=e') (by simpa using h)
  cases x<;>simp only[List.set_cons_succ,cnt,this]
theorem agS (n:Nat):cnt (List.replicate n none)=0:=by
 induction n with
 |zero=>rfl
 |succ n ih=>rw[List.replicate_succ];exact ih
theorem QM (t:T H L X) {q:Nat} {n0:Int} (hq:L[q]? =some (some (k,n0))) (k':ByteArray) (n':Int):Has (L.set q none) k' n'↔k'≠k/\Has L k' n':=by
 have h:q<L.length:=(List.getElem?_eq_some_iff.1 hq).1;constructor
 ·rintro⟨i,hi⟩;rw[jG] at hi;split at hi
  ·cases hi
  ·rename_i h1;refine⟨?_,i,hi⟩;rintro rfl;exact h1 ⟨t.dist _ _ _ _ _ hq hi,h⟩
 ·rintro⟨hk,i,hi⟩;refine⟨i,?_⟩;rw[jG,if_neg]
  ·exact hi
  ·rintro⟨rfl,_⟩;rw[hq] at hi;cases hi;exact hk rfl
theorem ahQ {at_:Nat} (ha:used L at_) (hc:cnt L<L.length):∃e,0<e/\Zone L at_ e 0:=by
 obtain⟨x,hx⟩:=ha;have u:at_<L.length:=(List.getElem?_eq_some_iff.1 hx).1;obtain⟨i,hi⟩:=TU hc;have I:i<L.length:=(List.getElem?_eq_some_iff.1 hi).1;obtain⟨h1,h2⟩:=aeX u I;obtain⟨e,⟨h3,h4⟩,h5⟩:=least (p:=λe=>e<L.length/\L[cy L.length (at_+e)]? =some none) ⟨_,h1,by rw[h2];exact hi⟩;have h0:0<e:=by
  rcases Nat.eq_zero_or_pos e with h|h
  ·subst h;have:cy L.length (at_+0)=at_:=by unfold cy;simp[u]
   rw[this,hx] at h4;cases h4
  ·exact h
 refine⟨e,h0,u,h3,Nat.zero_le _,λd _ hd=> ?_,h4⟩;rcases Xw L (Py (m:=L.length) (a:=at_+d) (by omega)) with h|⟨k',n',h⟩
 ·exact absurd ⟨by omega,h⟩ (h5 d hd)
 ·exact⟨_,h⟩
theorem VZ {at_ e j:Nat} (z:Zone L at_ e j) (hj:j<e):Zone (L.set (cy L.length (at_+j)) none) at_ e (j+1):=by
 have u:=z.at_lt;have he:=z.e1;refine⟨by simpa using u,by simpa using he,hj,λd h1 h2=> ?_,?_⟩
 ·obtain⟨x,hx⟩:=z.full d (by omega) h2;refine⟨x,?_⟩;rw[length_set,jG,if_neg]
  ·exact hx
  ·rintro⟨h,_⟩;have:=abk u (by omega) (by omega) h;omega
 ·rw[length_set,jG,if_neg]
  ·exact z.free
  ·rintro⟨h,_⟩;have:=abk u (by omega) (by omega) h;omega
theorem aer {at_ e j:Nat} (z:Zone L at_ e j) (hj:j<e) (hH:∀k,H k<L.length) (t:T H L (Xj L.length at_ e j)) {n0:Int} (h0:L[cy L.length (at_+j)]? =some (some (k,n0))):
  (∃d,First (L.set (cy L.length (at_+j)) none) (H k) k d)/\∀d,First (L.set (cy L.length (at_+j)) none) (H k) k d->
   Zone ((L.set (cy L.length (at_+j)) none).set (cy L.length (H k+d)) (some (k,n0))) at_ e (j+1)/\
   T H ((L.set (cy L.length (at_+j)) none).set (cy L.length (H k+d)) (some (k,n0))) (Xj L.length at_ e (j+1))/\
   (∀k' n',Has ((L.set (cy L.length (at_+j)) none).set (cy L.length (H k+d)) (some (k,n0))) k' n'↔Has L k' n')/\
   cnt ((L.set (cy L.length (at_+j)) none).set (cy L.length (H k+d)) (some (k,n0)))=cnt L:=by
 have R:=z.at_lt;have he:=z.e1;have hp0:cy L.length (at_+j)<L.length:=Py (by omega);have I:(L.set (cy L.length (at_+j)) none).length=L.length:=length_set;have u:(L.set (cy L.length (at_+j)) none)[cy L.length (at_+j)]? =some none:=by rw[jG,if_pos ⟨rfl,hp0⟩]
 refine⟨afe (Il (by rw[I];exact hH k) u),λd f=> ?_⟩;have t1:=clear z hj hH t;have z1:=VZ z hj;have N:∀n,¬Has (L.set (cy L.length (at_+j)) none) k n:=λn h=>((QM t h0 k n).1 h).1 rfl;have J:=NY N (by rw[I];exact hH k) f;have ins:=insert (n:=n0) t1 N (by rw[I];exact hH k) f;rw[I] at J ins;have hd:d<L.length:=by have:=f.lt;rwa [I] at this
 have hq:=Py (m:=L.length) (a:=H k+d) (by have:=hH k;omega);have O:off L.length at_ (cy L.length (H k+d))<=j:=by
  obtain⟨D,hD,hc,hx⟩:=t.reach _ _ _ h0;have hle:¬D<d:=λU=>by
   obtain⟨x,hx⟩:=J.2 D U;rw[hc,u] at hx;cases hx
  by_cases Y:d=D
  ·rw[Y,hc];have c1:=cyc L.length (at_+j);have o1:=ahr L.length at_ (cy L.length (at_+j));omega
  ·rcases hx d (by omega) with ⟨x,hu⟩|hX
   ·have:=J.1;rw[jG,if_neg] at this
    ·rw[hu] at this;cases this
    ·rintro⟨h,_⟩;rw[<- hc] at h;have:=abk (hH k) hD hd h;omega
   ·have:=hX.2.2;omega
 have keep:∀c,j<c->c<=e->¬(cy L.length (H k+d)=cy L.length (at_+c)/\cy L.length (H k+d)<(L.set (cy L.length (at_+j)) none).length):=by
  rintro c h1 h2 ⟨h,_⟩;rw[h] at O;have c1:=cyc L.length (at_+c);have o1:=ahr L.length at_ (cy L.length (at_+c));omega
 refine⟨⟨by simpa using R,by simpa using he,hj,λc h1 h2=> ?_,?_⟩,ins,λk' n'=> ?_,?_⟩
 ·obtain⟨x,hx⟩:=z1.full c h1 h2;rw[I] at hx;refine⟨x,?_⟩;simp only[length_set];rw[jG,if_neg (keep c (by omega) (by omega))];exact hx
 ·have:=z1.free;rw[I] at this;simp only[length_set];rw[jG,if_neg (keep e hj (Nat.le_refl _))];exact this
 ·rw[H9 J.1 N,QM t h0];constructor
  ·rintro(⟨rfl,rfl⟩|⟨_,_,h⟩)
   ·exact⟨_,h0⟩
   ·exact h
  ·rintro⟨i,hi⟩;by_cases hk:k'=k
   ·subst hk;have:=t.dist _ _ _ _ _ h0 hi;rw[<- this,h0] at hi
    cases hi
    exact .inl ⟨rfl,rfl⟩
   ·exact .inr ⟨hk,hk,i,hi⟩
 ·rw[KX J.1];exact Pv h0
end
end Gp.Hash
end
section
namespace Go.Proofs
open Gp Gp.Hash
theorem ac1 {m from_ i:Nat} (hm:m<=2^48) (hf:from_<m) (hi:i<m):Int.tmod (IntKind.i64.wrap ((from_:Int)+(i:Int))) (m:Int)=((cy m (from_+i):Nat):Int):=by
 rw[wrap_i64 (by omega) (by omega),Int.tmod_eq_emod_of_nonneg (by omega)];have c:=cyc m (from_+i);rcases c with ⟨h1,h2⟩|⟨h1,h2⟩
 ·rw[h2,Int.emod_eq_of_lt (by omega) (by omega)];omega
 ·rw[h2];have:((from_:Int)+(i:Int))=((from_+i - m:Nat):Int)+(m:Int):=by omega
  rw[this,Int.add_emod_right,Int.emod_eq_of_lt (by omega) (by omega)]
theorem aaO {w:World} {f0 f1 b from_ m:Nat} {body:Nat->G9 [.one (.int .i64)]->World->(Exit->b_)->Prop} {Kn Kr:b_} {Kx:List (Nat×(b_))}
  (I:Nat->b_) (J:Exit->b_) (hm:m<=2^48) (hf:from_<m)
  (h0:∀w1,(∀S,iG w w1 S)->w1.heap[w.heap.size]? =some (.deferred (some []))->w1.heap.size=w.heap.size+2->I 0 w1)
  (hI:∀i W,I i W->Row W f0 [.pointer (some ⟨b,0,none⟩)]/\Row W f1 [.int .i64 from_]/\∃s,W.cell? ⟨b,0,none⟩=some (.slice s m m))
  (stI:∀i W W',I i W->iG W W' (·=w.heap.size+1)->I i W')
  (stJ:∀e W W',J e W->iG W W' (·=w.heap.size+1)->J e W')
  (jmp:∀e W,J e W->e= .ret\/∃id,e= .exit id)
  (step:∀i W Kb,i<m->I i W->(∀W',W'.heap[w.heap.size+1]? =(iD W (w.heap.size+1)).heap[w.heap.size+1]? ->I (i+1) W'->Kb .normal W')->
   (∀e W',W'.heap[w.heap.size+1]? =(iD W (w.heap.size+1)).heap[w.heap.size+1]? ->J e W'->Kb e W')->body (w.heap.size+1) (((cy m (from_+i):Nat):Int),()) W Kb)
  (fn:∀W,I m W->Kn W) (fr:∀W,J .ret W->Kr W) (fx:∀id W,J (.exit id) W->UW id Kx W):
  F7 Tryz.prog none [.one (.int .i64)] (Value.func (.func Dh) #[] #[(Value.pointer (some ⟨f0,0,none⟩)),(Value.pointer (some ⟨f1,0,none⟩))]) w body Kn Kr Kx:=by
 refine⟨λl₀ h=>(by cases h),by kernel_rfl,λl L w1 ctx=> ?_⟩;have hl:l=w.heap.size+1:=ctx.at_;subst hl;refine Calls.mono (JW (a0:= .func (.yield (w.heap.size+1)) #[] #[]) (f0:=⟨f0,0,none⟩) (f1:=⟨f1,0,none⟩)
  (K:=λw2=>∃st p,L st p w2/\st≠.busy/\afx Kn Kr Kx p (jP w2 (w.heap.size+1) .exhausted p)) ?_) (λe w' h=>h)
 have i0:=h0 w1 (λS=>⟨by have:=ctx.size;omega,λb hb _=>ctx.old b hb,ctx.io⟩) (ctx.marks rfl) ctx.size;obtain⟨r0,r1,s,hs⟩:=hI _ _ i0;simp only[sx,r0.cell,hs];refine iE (λst W=>(∃i:Nat,i<=m/\st.1=i/\I i W)/\L .ready none W) (λst _=>m - st.1.toNat) ⟨⟨0,by omega,rfl,i0⟩,ctx.ready⟩ ?_;rintro⟨x,⟨⟩⟩ W ⟨⟨i,hi,rfl,R⟩,hL⟩ next N
 by_cases U:i<m
 ·have u:((i:Int)<(m:Int)):=by omega
  simp only[u,decide_true,cond_true];have Y:=stI _ _ _ R (iG.drew W _);have O:L .ready none W.drew:=ctx.frame _ _ _ _ hL rfl;obtain⟨r0,r1,s,hs⟩:=hI _ _ Y;simp only[qx,getElem?_cons_zero,iy,iL,iF,uV,r0.cell,r1.cell,hs];refine⟨by omega,?_⟩;rw[ac1 hm hf U];refine ctx.yield (((cy m (from_+i):Nat):Int),()) W.drew none _ O (step i W.drew _ U Y ?_ ?_)
  ·intro W' hh hI';refine⟨ctx.frame _ _ _ _ (ctx.busy _ _ O) hh,none,rfl,true,rfl,?_⟩;simp only[Bool.not_true,cond_false];refine N _ _ ⟨⟨i+1,by omega,?_,stI _ _ _ hI' (iG.jP _ _ _ _)⟩,ctx.set _ _ _ _ _ (ctx.frame _ _ _ _ (ctx.busy _ _ O) hh)⟩ ?_
   ·simp only;rw[wrap_i64 (by omega) (by omega)];omega
   ·simp only;rw[wrap_i64 (by omega) (by omega)];omega
  ·intro e W' hh hJ;have hb:=ctx.frame _ _ _ _ (ctx.busy _ _ O) hh;rcases jmp _ _ hJ with rfl|⟨id,rfl⟩
   ·refine⟨hb,_,rfl,false,rfl,?_⟩;simp only[Bool.not_false,cond_true];refine⟨.done,some .ret,ctx.set _ _ _ _ _ hb,by simp,?_⟩;exact fr _ (stJ _ _ _ (stJ _ _ _ hJ (iG.jP _ _ _ _)) (iG.jP _ _ _ _))
   ·refine⟨hb,_,rfl,false,rfl,?_⟩;simp only[Bool.not_false,cond_true];refine⟨.done,some (.exit id),ctx.set _ _ _ _ _ hb,by simp,?_⟩;exact fx _ _ (stJ _ _ _ (stJ _ _ _ hJ (iG.jP _ _ _ _)) (iG.jP _ _ _ _))
 ·have u:¬((i:Int)<(m:Int)):=by omega
  simp only[u,decide_false,cond_false];have:i=m:=by omega
  subst this;exact⟨.ready,none,hL,by simp,fn _ (stI _ _ _ R (iG.jP _ _ _ _))⟩
def PG:yT->ByteArray
 |none=>bs []
 |some x=>x.1
def eN:yT->Int
 |none=>0
 |some x=>x.2
def eU:yT->Bool
 |none=>false
 |some _=>true
def PK (e:yT):List Value:=[.string (PG e),.int .i64 (eN e),.bool (eU e)]
theorem JA (e:yT):(PK e).length=3:=rfl
def slA (s:Nat) (L:List yT):g_:=if L=[] then none else some ⟨s,0,none⟩
structure HT (w:World) (b s:Nat) (L:List yT) (many most:Int):Prop where
 hd:Row w b [.slice (slA s L) L.length L.length,.int .i64 many,.int .i64 most,.bool true]
 row:L≠[]->Row w s (L.flatMap PK)
 ne:L≠[]->b≠s
 sz:L.length<=2^20
theorem HT.fr {w w':World} {b s:Nat} {L:List yT} {many most:Int} {S:Nat->Prop} (h:HT w b s L many most) (hf:iG w w' S) (h1:¬S b) (h2:L≠[]->¬S s):HT w' b s L many most:=
 ⟨h.hd.fr hf h1,λhn=>(h.row hn).fr hf (h2 hn),h.ne,h.sz⟩
theorem HT.PV {w w':World} {b s:Nat} {L:List yT} {many most:Int} (h:HT w b s L many most) (hf:∀S,iG w w' S):HT w' b s L many most:=
 h.fr (hf λ_=>False) (by simp) (by simp)
theorem HT.ent {w:World} {b s:Nat} {L:List yT} {many most:Int} (h:HT w b s L many most) {i:Nat} {e:yT} (hi:L[i]? =some e) (j:Nat) (hj:j<3):w.cell? ⟨s,i * 3+j,none⟩=(PK e)[j]? :=by
 have hn:L≠[]:=by rintro rfl;simp at hi
 rw[(h.row hn).cell,flat_get _ 3 JA _ _ j hj,hi];rfl
def hTo (k:ByteArray):Nat->Int
 |0=>2166136261
 |i+1=>match k[i]? with
  |some c=>IntKind.u32.wrap (acg .u32 (hTo k i) (IntKind.u32.wrap (c.toNat:Int)) * 16777619)
  |none=>0
def tC (k:ByteArray) (m:Nat):Nat:=(Int.tmod (hTo k k.size) (m:Int)).toNat
theorem aaR (n:Int):0<=IntKind.u32.wrap n/\IntKind.u32.wrap n<4294967296:=by
 rw[IntKind.wrap_u32];omega
theorem afo (k:ByteArray) (i:Nat):0<=hTo k i/\hTo k i<4294967296:=by
 cases i with
 |zero=>simp[hTo]
 |succ i=>
  simp only[hTo];split
  ·exact aaR _
  ·omega
theorem Gv (k:ByteArray) {m:Nat} (hm:0<m):tC k m<m:=by
 unfold tC;have h:=(afo k k.size).1;rw[Int.tmod_eq_emod_of_nonneg h];have:=Int.emod_lt_of_pos (hTo k k.size) (b:=(m:Int)) (by omega);have:=Int.emod_nonneg (hTo k k.size) (b:=(m:Int)) (by omega);omega
theorem ag7 (k:ByteArray) (m:Nat) (hm:0<m) (hm2:m<=2^20) (w:World) (hk:k.size<=2^63 - 1):BK k (m:Int) w λr w'=>r=(tC k m:Int)/\w'=w:=by
 apply YQ;refine iE (λst W=>(∃i:Nat,i<=k.size/\st.2.1=i/\st.1=hTo k i)/\W=w) (λst _=>k.size - st.2.1.toNat) ⟨⟨0,by omega,rfl,rfl⟩,rfl⟩ ?_;rintro⟨x,y,⟨⟩⟩ W ⟨⟨i,hi,rfl,rfl⟩,rfl⟩ next u
 by_cases I:i<k.size
 ·have h:((i:Int)<(k.size:Int)):=by omega
  simp only[h,decide_true,cond_true];have hg:k[i]? =some k[i]:=by simp[I]
  refine⟨k[i],by omega,by simp,?_⟩;have e:IntKind.i64.wrap ((i:Int)+1)=((i+1:Nat):Int):=by rw[wrap_i64 (by omega) (by omega)];omega
  rw[e];refine u _ _ ⟨⟨i+1,by omega,rfl,?_⟩,rfl⟩ (by simp only;omega);simp only[hTo,hg]
 ·have h:¬((i:Int)<(k.size:Int)):=by omega
  simp only[h,decide_false,cond_false];have e1:IntKind.u32.wrap (m:Int)=m:=by rw[IntKind.wrap_u32];omega
  have:i=k.size:=by omega
  subst this;rw[e1];refine⟨by omega,?_,by trivial⟩;have h1:=Gv k hm;have h2:Int.tmod (hTo k k.size) (m:Int)=(tC k m:Int):=by
   unfold tC;have:=Int.tmod_nonneg (m:Int) (afo k k.size).1;omega
  rw[h2,wrap_i64 (by omega) (by omega)]
theorem ac5 (tb:Nat) (x:Int) (w:World):og (some ⟨tb,0,none⟩) x w λr w'=>∃f0 f1,r= .func (.func Dh) #[] #[(Value.pointer (some ⟨f0,0,none⟩)),(Value.pointer (some ⟨f1,0,none⟩))]/\
  Row w' f0 [.pointer (some ⟨tb,0,none⟩)]/\Row w' f1 [.int .i64 x]/\w.heap.size<=f0/\w.heap.size<=f1/\∀S,iG w w' S:=by
 apply Om;refine⟨rfl,vF λa2 w1 r1 e1 _ f1=>⟨rfl,vF λa4 w3 r3 e3 _ f3=>⟨a2,a4,rfl,r1.fr (f3 λ_=>False) (by simp),r3,by omega,by have:=(f1 λ_=>False).size;omega,λS=>(f1 S).trans (f3 S) λ_ _ e=>e⟩⟩⟩
theorem QO {w:World} {b s:Nat} {L:List yT} {many most:Int} (h:HT w b s L many most):lG (some ⟨b,0,none⟩) w λr w'=>r=true/\w'=w:=by
 apply MC;simp only[sx,h.hd.cell,Bool.not_false];exact⟨trivial,trivial⟩
theorem iG.putObj (w:World) (b:Nat) (o:Obj):iG w (w.putObj b o) (·=b):=
 ⟨by simp[World.putObj],λc _ hn=>by simp[World.putObj,Array.getElem?_setIfInBounds];omega,rfl,rfl,rfl⟩
theorem toList_inj {a b:ByteArray} (h:a.toList=b.toList):a=b:=by
 rw[ByteArray.toList_eq,ByteArray.toList_eq] at h
 cases a;cases b
 simp at h;rw[h]
theorem XJ {a b:ByteArray}:strEq a b=true↔a=b:=by
 unfold strEq;constructor
 ·intro h;exact toList_inj (by simpa using h)
 ·rintro rfl;simp
theorem Ua {w:World} {T:TypeId} {x y z x' y' z':Value} {K:Addr->b_} (h1:jr x'=true) (h2:jr y'=true) (h3:jr z'=true)
  (h:∀a w',Row w' a [x',y',z']->w.heap.size<=a->(∀S,iG w w' S)->K ⟨a,0,none⟩ w'):
  Al w (.cells ⟨[x,y,z]⟩ T) λa w1=>St w1 (a.add 0) x' λw2=>St w2 (a.add 1) y' λw3=>St w3 (a.add 2) z' λw4=>K a w4:=by
 refine vF λa w1 r1 e1 _ f1=> ?_;simp only[sx];refine iK r1 h1 (by simp) λw2 r2 f2 _=> ?_;refine iK r2 h2 (by simp) λw3 r3 f3 _=> ?_;refine iK r3 h3 (by simp) λw4 r4 f4 _=> ?_;refine h a w4 r4 (by omega) λS=> ?_;exact(((f1 S).trans (f2 (·=a) rfl) λx hx e=>by omega).trans (f3 (·=a) rfl) λx hx e=>by omega).trans (f4 (·=a) rfl) λx hx e=>by omega
def aex (L:List yT) (k:ByteArray) (at_:Int) (t:Bool):Prop:=
 ∃d,First L (tC k L.length) k d/\at_=((cy L.length (tC k L.length+d):Nat):Int)/\
  ((t=true/\∃n,L[cy L.length (tC k L.length+d)]? =some (some (k,n)))\/(t=false/\L[cy L.length (tC k L.length+d)]? =some none))
structure FI (w W:World) (S:Nat->Prop):Prop where
 fr:iG w W S
 mark:W.heap[w.heap.size]? =some (.deferred (some []))
 size:w.heap.size+2<=W.heap.size
theorem FI.st {w W W':World} {S:Nat->Prop} (h:FI w W S) (hf:iG W W' (·=w.heap.size+1)):FI w W' S:=
 ⟨h.fr.trans hf λb hb e=>by omega,by rw[hf.same _ (by have:=h.size;omega) (by omega)];exact h.mark,by have:=h.size;have:=hf.size;omega⟩
theorem U2 {w:World} {b s:Nat} {L:List yT} {many most:Int} {k:ByteArray} (h:HT w b s L many most) (O:L≠[]) (hk:k.size<=2^63 - 1) (hs:∃d,d<L.length/\Stop L (tC k L.length) k d):
  jJ (some ⟨b,0,none⟩) k w λat_ t w'=>aex L k at_ t/\∀S,iG w w' S:=by
 apply Et;have I:0<L.length:=by cases L with
  |nil=>exact absurd rfl O
  |cons _ _=>simp
 have ac:=h.sz;have hh:=Gv k I;refine⟨rfl,vF λa2 w1 r2 e2 _ f1=>⟨rfl,vF λa4 w3 r4 e4 _ f3=>vF λa6 w5 r6 e6 _ f5=>vF λa8 w7 r8 e8 _ f7=> ?_⟩⟩;have s1:=(f1 λ_=>False).size;have s3:=(f3 λ_=>False).size;have s5:=(f5 λ_=>False).size;have s7:=(f7 λ_=>False).size;have l2:=r2.lt;have l4:=r4.lt;have l6:=r6.lt;have Y:∀S,iG w w7 S:=λS=>(((f1 S).trans (f3 S) λ_ _ e=>e).trans (f5 S) λ_ _ e=>e).trans (f7 S) λ_ _ e=>e;have h7:=h.PV Y;have r2:Row w7 a2 _:=((r2.fr (f3 λ_=>False) (by simp)).fr (f5 λ_=>False) (by simp)).fr (f7 λ_=>False) (by simp);have r4:Row w7 a4 _:=(r4.fr (f5 λ_=>False) (by simp)).fr (f7 λ_=>False) (by simp);have r6:Row w7 a6 _:=r6.fr (f7 λ_=>False) (by simp);have hl0:((L.length:Int)==0)=false:=by simp;omega
 have h7d:HT w7.drew b s L many most:=h7.PV λS=>iG.drew _ S;have r2d:=r2.drew;have r4d:=r4.drew;simp only[sx,r2.cell,r2d.cell,r4d.cell,h7.hd.cell,h7d.hd.cell,hl0];refine Yf (ag7 k L.length I ac w7.drew hk) ?_;rintro r w22 ⟨rfl,rfl⟩;refine⟨by simp[r2d.cell],?_⟩;refine Ea (ac5 b _ _) ?_;rintro r u ⟨g0,g1,rfl,q0,q1,lg0,lg1,f24⟩;have r2:Row u a2 _:=r2d.fr (f24 λ_=>False) (by simp);have r4:Row u a4 _:=r4d.fr (f24 λ_=>False) (by simp);have r6:Row u a6 _:=r6.drew.fr (f24 λ_=>False) (by simp);have r8:Row u a8 _:=r8.drew.fr (f24 λ_=>False) (by simp);have aa:=h7d.PV f24;have f024:∀S,iG w u S:=λS=>((Y S).trans (iG.drew _ S) λ_ _ e=>e).trans (f24 S) λ_ _ e=>e;have l8:=r8.lt;have hb:=h.hd.lt;have hs7:w7.heap.size<=u.heap.size:=by have:=(f24 λ_=>False).size;exact this
 have hsl:s<w.heap.size:=(h.row O).lt;have lg0':=q0.lt;have lg1':=q1.lt;have hg0:w7.heap.size<=g0:=lg0;have hg1:w7.heap.size<=g1:=lg1;refine aaO (b:=b) (m:=L.length) (from_:=tC k L.length)
  (λi W=>(∀d,d<i->¬Stop L (tC k L.length) k d)/\FI u W λ_=>False)
  (λe W=>e= .ret/\(FI u W λx=>x=a6\/x=a8)/\∃at_ t,Row W a6 [.int .i64 at_]/\Row W a8 [.bool t]/\aex L k at_ t)
  (by omega) hh ?_ ?_ ?_ ?_ ?_ ?_ ?_ ?_ ?_
 ·exact λw1 hf hm hz=>⟨λd hd=>by omega,hf _,hm,by omega⟩
 ·exact λi W hI=>⟨q0.fr hI.2.fr (by simp),q1.fr hI.2.fr (by simp),_,by rw[(aa.hd.fr hI.2.fr (by simp)).cell];rfl⟩
 ·exact λi W W' hI hf=>⟨hI.1,hI.2.st hf⟩
 ·rintro e W W' ⟨rfl,hF,at_,t,ra,rt,hr⟩ hf;exact⟨by trivial,hF.st hf,at_,t,ra.fr hf (by omega),rt.fr hf (by omega),hr⟩
 ·exact λe W hJ=> .inl hJ.1
 ·rintro i W Kb hi ⟨J,hF⟩ hn hj;have hFz:=hF.size;have zb:=(iG.iD W (u.heap.size+1)).size;have fb:iG u (iD W (u.heap.size+1)) λ_=>False:=hF.fr.trans (iG.iD W _) λx hx e=>by omega
  have hW:HT (iD W (u.heap.size+1)) b s L many most:=aa.fr fb (by simp) (by simp);have q2:=r2.fr fb (by simp);have q4:=r4.fr fb (by simp);have q6:=r6.fr fb (by simp);have q8:=r8.fr fb (by simp);refine⟨by trivial,?_⟩;simp only[qx,getElem?_cons_zero,iy,iL,uV,q2.cell,hW.hd.cell];have hx:cy L.length (tC k L.length+i)<L.length:=Py (by omega);have he:∃e,L[cy L.length (tC k L.length+i)]? =some e:=⟨_,getElem?_eq_getElem hx⟩;obtain⟨e,he⟩:=he;have c0:=hW.ent he 0 (by omega);have c1:=hW.ent he 1 (by omega);have c2:=hW.ent he 2 (by omega);refine vG (b:=s) (o:=0) (by simp[slA,O]) (by omega) (by simp only;omega) ?_;simp only[toNat_natCast,Nat.zero_add];simp only[Nat.add_zero] at c0;simp only[sx,c0,c1,c2,PK];refine Ua rfl rfl rfl λa37 N ae e37 f40=> ?_;have fb40:iG u N λ_=>False:=fb.trans (f40 _) λ_ _ e=>e;have l40:=(f40 λ_=>False).size;have q6:=q6.fr (f40 λ_=>False) (by simp);have q8:=q8.fr (f40 λ_=>False) (by simp);have q4:=q4.fr (f40 λ_=>False) (by simp);have hm40:N.heap[u.heap.size]? =some (.deferred (some [])):=by rw[(f40 λ_=>False).same _ (by omega) (by simp),(iG.iD W _).same _ (by omega) (by omega)];exact hF.mark
  have hk40:N.heap[u.heap.size+1]? =(iD W (u.heap.size+1)).heap[u.heap.size+1]? :=(f40 λ_=>False).same _ (by omega) (by simp);have out:∀(v:Int) (t:Bool),aex L k v t->St N ⟨a6,0,none⟩ (Value.int .i64 v) λab=>St ab ⟨a8,0,none⟩ (Value.bool t) λR=>Kb .ret R:=by
   intro v t hr;refine iK q6 rfl (by simp) λab af f42 z42=> ?_;refine iK (q8.fr (f42 (·=a6) rfl) (by omega)) rfl (by simp) λR ag f43 z43=> ?_;have f0:iG N R λx=>x=a6\/x=a8:=(f42 _ (.inl rfl)).trans (f43 _ (.inr rfl)) λ_ _ e=>e;refine hj _ _ ?_ ⟨rfl,⟨(fb40.mono λ_ e=>e.elim).trans f0 λ_ _ e=>e,?_,by have:=f0.size;omega⟩,v,t,(af.fr (f43 (·=a8) rfl) (by omega)),ag,hr⟩
   ·rw[f0.same _ (by omega) (by omega)];exact hk40
   ·rw[f0.same _ (by omega) (by omega)];exact hm40
  simp only[sx,ae.cell,q4.cell]
  cases e with
  |none=>
   simp only[eU,Bool.not_false,cond_true];exact out _ _ ⟨i,⟨hi,.inl he,J⟩,rfl,.inr ⟨rfl,he⟩⟩
  |some x=>
   obtain⟨k',n'⟩:=x;simp only[eU,Bool.not_true,cond_false,cond_false,PG]
   cases U:strEq k' k with
   |true=>
    have:=XJ.1 U;subst this;simp only[cond_true];exact out _ _ ⟨i,⟨hi,.inr ⟨_,he⟩,J⟩,rfl,.inl ⟨rfl,_,he⟩⟩
   |false=>
    simp only[cond_false];refine hn _ hk40 ⟨λd hd=> ?_,fb40,hm40,by omega⟩;by_cases ah:d=i
    ·subst ah;rintro(h1|⟨n,h1⟩)
     ·rw[he] at h1;cases h1
     ·rw[he] at h1;cases h1;rw[XJ.2 rfl] at U;cases U
    ·exact J d (by omega)
 ·rintro W ⟨J,_⟩;obtain⟨d,hd,ai⟩:=hs;exact absurd ai (J d hd)
 ·rintro W ⟨_,hF,at_,t,ra,rt,hr⟩;refine⟨hF.mark,?_⟩;have pf:=iG.putObj W u.heap.size (.deferred none);simp only[getElem?_cons_zero,iy,iF,qw,(ra.fr pf (by omega)).cell,(rt.fr pf (by omega)).cell];refine⟨hr,λS=> ?_⟩;exact((f024 S).trans hF.fr λx hx e=>by omega).trans pf λx hx e=>by omega
 ·rintro id W ⟨h,_⟩
  cases h
theorem adO {w:World} {b s:Nat} {many most:Int} {k:ByteArray} (h:HT w b s [] many most):
  jJ (some ⟨b,0,none⟩) k w λat_ t w'=>t=false/\∀S,iG w w' S:=by
 apply Et;refine⟨rfl,vF λa2 w1 r2 e2 _ f1=>⟨rfl,vF λa4 w3 r4 e4 _ f3=>vF λa6 w5 r6 e6 _ f5=>vF λa8 w7 r8 e8 _ f7=> ?_⟩⟩;have s1:=(f1 λ_=>False).size;have s3:=(f3 λ_=>False).size;have s5:=(f5 λ_=>False).size;have s7:=(f7 λ_=>False).size;have l6:=r6.lt;have u:∀S,iG w w7 S:=λS=>(((f1 S).trans (f3 S) λ_ _ e=>e).trans (f5 S) λ_ _ e=>e).trans (f7 S) λ_ _ e=>e;have h7:=h.PV u;have r2:Row w7 a2 _:=((r2.fr (f3 λ_=>False) (by simp)).fr (f5 λ_=>False) (by simp)).fr (f7 λ_=>False) (by simp);have r6:Row w7 a6 _:=r6.fr (f7 λ_=>False) (by simp);simp only[sx,r2.cell,h7.hd.cell,List.length_nil,Int.natCast_zero,beq_self_eq_true];refine iK r6 rfl (by simp) λw12 I f12 _=> ?_;refine iK (r8.fr (f12 (·=a6) rfl) (by omega)) rfl (by simp) λw13 J f13 _=> ?_;simp only[(I.fr (f13 (·=a8) rfl) (by omega)).cell,J.cell];exact⟨by trivial,λS=>((u S).trans (f12 (·=a6) rfl) λx hx e=>by omega).trans (f13 (·=a8) rfl) λx hx e=>by omega⟩
structure TB (w:World) (b s:Nat) (L:List yT) (most:Int) (M:ByteArray->Option Int):Prop where
 ht:HT w b s L (cnt L:Int) most
 t:T (λk=>tC k L.length) L λ_ _=>False
 free:2 * cnt L<=L.length
 m:∀k n,M k=some n↔Has L k n
 most0:0<=most
 most1:most<=65536
 sz:L.length<=262144
 nils:L=[]->s=b
 keys:∀k n,Has L k n->k.size<=2^63 - 1
theorem TB.fr {w w':World} {b s:Nat} {L:List yT} {most:Int} {M:ByteArray->Option Int} {S:Nat->Prop} (h:TB w b s L most M) (hf:iG w w' S) (h1:¬S b) (h2:¬S s):TB w' b s L most M:=
 ⟨h.ht.fr hf h1 λ_=>h2,h.t,h.free,h.m,h.most0,h.most1,h.sz,h.nils,h.keys⟩
theorem TB.PV {w w':World} {b s:Nat} {L:List yT} {most:Int} {M:ByteArray->Option Int} (h:TB w b s L most M) (hf:∀S,iG w w' S):TB w' b s L most M:=
 h.fr (hf λ_=>False) (by simp) (by simp)
theorem TB.U8 {w:World} {b s:Nat} {L:List yT} {most:Int} {M:ByteArray->Option Int} (h:TB w b s L most M) (k:ByteArray):M k=none↔∀n,¬Has L k n:=by
 constructor
 ·intro hn n hx;rw[(h.m k n).2 hx] at hn;cases hn
 ·intro hn
  cases hx:M k with
  |none=>rfl
  |some n=>exact absurd ((h.m k n).1 hx) (hn n)
theorem TB.pos {w:World} {b s:Nat} {L:List yT} {most:Int} {M:ByteArray->Option Int} (_:TB w b s L most M) (h:L≠[]):0<L.length:=by
 cases L with
 |nil=>exact absurd rfl h
 |cons _ _=>simp
theorem PW {w:World} {b s:Nat} {L:List yT} {most:Int} {M:ByteArray->Option Int} (h:TB w b s L most M) (k:ByteArray) (hk:k.size<=2^63 - 1):
  jJ (some ⟨b,0,none⟩) k w λat_ t w'=>(∀S,iG w w' S)/\
   ((t=true/\∃(i:Nat) (n:Int),at_=(i:Int)/\L[i]? =some (some (k,n))/\M k=some n)\/
    (t=false/\M k=none/\(L≠[]->∃d,First L (tC k L.length) k d/\at_=((cy L.length (tC k L.length+d):Nat):Int)))):=by
 by_cases u:L=[]
 ·subst u;refine kM (adO h.ht) ?_;rintro at_ t w' ⟨rfl,hf⟩;refine⟨hf,.inr ⟨rfl,(h.U8 k).2 ?_,λhx=>absurd rfl hx⟩⟩;rintro n ⟨i,hi⟩;simp at hi
 ·have I:=h.pos u;have hh:=Gv k I;have hfr:=h.free;obtain⟨i,hi⟩:=TU (L:=L) (by omega);refine kM (U2 h.ht u hk (Il hh hi)) ?_;rintro at_ t w' ⟨⟨d,hd,rfl,⟨rfl,n,hn⟩|⟨rfl,hn⟩⟩,hf⟩
  ·exact⟨hf,.inl ⟨rfl,_,n,rfl,hn,(h.m k n).2 ⟨_,hn⟩⟩⟩
  ·refine⟨hf,.inr ⟨rfl,(h.U8 k).2 ?_,λ_=>⟨d,hd,rfl⟩⟩⟩;rintro n ⟨i,hi⟩;have:=ZV h.t (λ_ _ x=>x) hh hi hd;rw[this,hi] at hn;cases hn
theorem acJ {w:World} {b s:Nat} {L:List yT} {most:Int} {M:ByteArray->Option Int} (h:TB w b s L most M) (k:ByteArray) (hk:k.size<=2^63 - 1):
  o8 (some ⟨b,0,none⟩) k w λn t w'=>(∀S,iG w w' S)/\t=(M k).isSome/\n=(M k).getD 0:=by
 apply Qb;refine xA (QO h.ht) ?_;rintro r w2 ⟨rfl,rfl⟩;simp only[Bool.not_true,cond_false];refine kM (PW h k hk) ?_;rintro at_ t w' ⟨hf,⟨rfl,i,n,rfl,hi,hM⟩|⟨rfl,hM,_⟩⟩
 ·have h':=h.PV hf;have u:L≠[]:=by rintro rfl;simp at hi
  have hlt:i<L.length:=(List.getElem?_eq_some_iff.1 hi).1;simp only[sx,Bool.not_true,h'.ht.hd.cell];refine vG (b:=s) (o:=0) (by simp[slA,u]) (by omega) (by simp only;omega) ?_;simp only[sx,toNat_natCast,h'.ht.ent hi 1 (by omega),PK,eN];exact⟨hf,by simp[hM],by simp[hM]⟩
 ·simp only[Bool.not_false,cond_true];exact⟨hf,by simp[hM],by simp[hM]⟩
theorem YD (n:Int) (w:World):yI n w λp e w'=>
  (∀S,iG w w' S)/\((0<=n/\n<=65536/\e=0/\∃b,p=some ⟨b,0,none⟩/\w.heap.size<=b/\TB w' b b [] n λ_=>none)\/((n<0\/65536<n)/\e=1/\p=none)):=by
 apply aao;by_cases c1:n<0
 ·simp only[c1,decide_true,cond_true];exact⟨λS=>iG.refl _ _,.inr ⟨.inl (by first|trivial|omega),by trivial,by trivial⟩⟩
 ·by_cases c2:n>65536
  ·simp only[c1,c2,decide_true,decide_false,cond_true,cond_false];exact⟨λS=>iG.refl _ _,.inr ⟨.inr (by first|trivial|omega),by trivial,by trivial⟩⟩
  ·simp only[c1,c2,decide_false,cond_false];refine vF λa w3 r3 e3 _ f3=>⟨f3,.inl ⟨by omega,by omega,by trivial,a,rfl,by omega,?_⟩⟩;exact⟨⟨r3,λh=>absurd rfl h,λh=>absurd rfl h,by simp⟩,⟨λi j k n n' h=>by simp at h,λi k n h=>by simp at h⟩,by simp[cnt],λk n=>⟨λh=>by simp at h,λ⟨i,hi⟩=>by simp at hi⟩,by omega,by omega,by simp,λ_=>rfl,λk n ⟨i,hi⟩=>by simp at hi⟩
def tr (e:yT):ByteArray×Int×Bool:=(PG e,eN e,eU e)
def f3 (x:ByteArray×Int×Bool):List Value:=[.string x.1,.int .i64 x.2.1,.bool x.2.2]
theorem acI (L:List yT):L.flatMap PK=(L.map tr).flatMap f3:=by rw[List.flatMap_map];rfl
theorem abN (L:List yT) (i:Nat) (e:yT):(L.map tr).set i (tr e)=(L.set i e).map tr:=by rw[List.map_set]
theorem HT.afP {w w':World} {b s:Nat} {L L':List yT} {many most:Int} (h:HT w b s L many most) (hn:L≠[]) (hl:L'.length=L.length) (hf:iG w w' (·=s)) (hr:Row w' s (L'.flatMap PK)):HT w' b s L' many most:=by
 have hn':L'≠[]:=by rintro rfl;simp at hl;exact hn (List.length_eq_zero_iff.1 hl.symm)
 refine⟨?_,λ_=>hr,λ_=>h.ne hn,by rw[hl];exact h.sz⟩;have:=h.hd.fr hf (h.ne hn);rw[show slA s L=slA s L' by simp[slA,hn,hn'],<- hl] at this;exact this
theorem Uh {w:World} {b s i:Nat} {L:List yT} {many most:Int} (h:HT w b s L many most) (hi:i<L.length) (e:yT) {K:b_} (hK:∀w',HT w' b s (L.set i e) many most->iG w w' (·=s)->K w'):
  St w ⟨s,i * 3,none⟩ (.string (PG e)) λw1=>St w1 ⟨s,i * 3+1,none⟩ (.int .i64 (eN e)) λw2=>St w2 ⟨s,i * 3+2,none⟩ (.bool (eU e)) K:=by
 have hn:L≠[]:=by rintro rfl;simp at hi
 have hr:=h.row hn;have hlen:(L.flatMap PK).length=L.length * 3:=jU _ 3 JA L;refine iK hr rfl (by omega) λw1 r1 f1 _=> ?_;refine iK r1 rfl (by simp only[length_set];omega) λw2 r2 f2 _=> ?_;refine iK r2 rfl (by simp only[length_set];omega) λw3 r3 f3' _=> ?_;have hf:iG w w3 (·=s):=((f1 (·=s) rfl).trans (f2 (·=s) rfl) λ_ _ e=>e).trans (f3' (·=s) rfl) λ_ _ e=>e;refine hK w3 (h.afP hn (by simp) hf ?_) hf;rw[acI] at r3;have g0:(L.map tr)[i]? =some (tr L[i]):=by simp[hi]
 have hl:i<(L.map tr).length:=by simpa using hi
 have e0:=Ej f3 3 (λ_=>rfl) (L.map tr) i 0 (tr L[i]) (PG e,(tr L[i]).2) (.string (PG e)) (by omega) g0 rfl;have e1:=Ej f3 3 (λ_=>rfl) ((L.map tr).set i (PG e,(tr L[i]).2)) i 1 (PG e,(tr L[i]).2) (PG e,eN e,(tr L[i]).2.2) (.int .i64 (eN e)) (by omega) (by simp[hi]) rfl;have e2:=Ej f3 3 (λ_=>rfl) (((L.map tr).set i (PG e,(tr L[i]).2)).set i (PG e,eN e,(tr L[i]).2.2)) i 2 (PG e,eN e,(tr L[i]).2.2) (tr e) (.bool (eU e)) (by omega) (by simp[hi]) rfl;rw[Nat.add_zero] at e0;rw[e0,e1,e2] at r3;rw[set_set,set_set,abN,<- acI] at r3;exact r3
theorem ail {w:World} {b s i:Nat} {L:List yT} {many most n n':Int} {k:ByteArray} (h:HT w b s L many most) (hi:L[i]? =some (some (k,n))) {K:b_} (hK:∀w',HT w' b s (L.set i (some (k,n'))) many most->iG w w' (·=s)->K w'):
  St w ⟨s,i * 3+1,none⟩ (.int .i64 n') K:=by
 have hn:L≠[]:=by rintro rfl;simp at hi
 have hlt:i<L.length:=(List.getElem?_eq_some_iff.1 hi).1;have hlen:(L.flatMap PK).length=L.length * 3:=jU _ 3 JA L;refine iK (h.row hn) rfl (by omega) λw1 r1 f1 _=>hK w1 (h.afP hn (by simp) (f1 (·=s) rfl) ?_) (f1 (·=s) rfl);rw[Ej PK 3 JA L i 1 (some (k,n)) (some (k,n')) (.int .i64 n') (by omega) hi rfl] at r1;exact r1
theorem acj {w:World} {b s:Nat} {L:List yT} {many many' most:Int} (h:HT w b s L many most) {K:b_} (hK:∀w',HT w' b s L many' most->iG w w' (·=b)->K w'):St w ⟨b,1,none⟩ (.int .i64 many') K:=by
 refine iK h.hd rfl (by simp) λw1 r1 f1 _=>hK w1 ⟨r1,λhn=>(h.row hn).fr (f1 (·=b) rfl) (λe=>h.ne hn e.symm),h.ne,h.sz⟩ (f1 (·=b) rfl)
theorem UG (a b:List yT):cnt (a++b)=cnt a+cnt b:=by
 induction a with
 |nil=>simp[cnt]
 |cons x a ih=>cases x<;>simp only[List.cons_append,cnt,ih]<;>omega
theorem UZ (a:List yT) (e:yT) (k:ByteArray) (n:Int):Has (a++[e]) k n↔Has a k n\/e=some (k,n):=by
 constructor
 ·rintro⟨i,hi⟩;by_cases h:i<a.length
  ·rw[List.getElem?_append_left h] at hi;exact .inl ⟨i,hi⟩
  ·rw[List.getElem?_append_right (by omega)] at hi;have:=(List.getElem?_eq_some_iff.1 hi).1;simp at this;simp[show i - a.length=0 by omega] at hi;exact .inr hi
 ·rintro(⟨i,hi⟩|h)
  ·exact⟨i,by rw[List.getElem?_append_left (List.getElem?_eq_some_iff.1 hi).1];exact hi⟩
  ·exact⟨a.length,by simp[h]⟩
theorem af7 (n:Nat):iM [Value.string (bs []),Value.int .i64 0,Value.bool false] n=(List.replicate n (none:yT)).flatMap PK:=by
 induction n with
 |zero=>rfl
 |succ n ih=>rw[List.replicate_succ,List.flatMap_cons,<- ih];rfl
theorem afq {L:List yT} {i:Nat} {k:ByteArray} {n:Int} (h:Has (L.take i) k n):∃j:Nat,j<i/\L[j]? =some (some (k,n)):=by
 obtain⟨j,hj⟩:=h;have u:=(List.getElem?_eq_some_iff.1 hj).1;simp only[List.length_take] at u;refine⟨j,by omega,?_⟩;rw[List.getElem?_take] at hj;split at hj
 ·exact hj
 ·cases hj
theorem afr {w:World} {b s:Nat} {L:List yT} {most:Int} {M:ByteArray->Option Int} (h:TB w b s L most M) (hc:(cnt L:Int)<most):
  qM (some ⟨b,0,none⟩) w λw'=>∃s' L',TB w' b s' L' most M/\cnt L'=cnt L/\2 * (cnt L+1)<=L'.length/\iG w w' (·=b)/\(s'=s\/w.heap.size<=s'):=by
 apply Ol;have hd:TB w.drew b s L most M:=h.PV λS=>iG.drew _ S;have hm1:=h.most1;have e1:IntKind.i64.wrap ((cnt L:Int)+1)=((cnt L+1:Nat):Int):=by rw[wrap_i64 (by omega) (by omega)];omega
 have e2:IntKind.i64.wrap (2 * ((cnt L+1:Nat):Int))=((2 * (cnt L+1):Nat):Int):=by rw[wrap_i64 (by omega) (by omega)];omega
 simp only[sx,hd.ht.hd.cell];rw[e1,e2];by_cases al:2 * (cnt L+1)<=L.length
 ·have N:(((2 * (cnt L+1):Nat):Int)<=(L.length:Int)):=by omega
  simp only[N,decide_true,cond_true];exact⟨s,L,hd,rfl,al,iG.drew _ _,.inl rfl⟩
 ·have N:¬(((2 * (cnt L+1):Nat):Int)<=(L.length:Int)):=by omega
  simp only[N,decide_false,cond_false];have hlen:L.length<131072:=by omega
  have e3:IntKind.i64.wrap (2 * (L.length:Int))=((2 * L.length:Nat):Int):=by rw[wrap_i64 (by omega) (by omega)];omega
  rw[e3];obtain⟨m,hm,am⟩:∃m:Nat,(if ((2 * L.length:Nat):Int)>8 then ((2 * L.length:Nat):Int) else 8)=(m:Int)/\(8<=m/\2 * L.length<=m/\m<=262144):=by
   split
   ·exact⟨2 * L.length,rfl,by omega,by omega,by omega⟩
   ·exact⟨8,rfl,by omega,by omega,by omega⟩
  obtain⟨m8,m2,mm⟩:=am;rw[hm];refine F6 (by omega) (by omega) (by omega) (by omega) λs' w8 r8 hs' z8 f8=> ?_;rw[toNat_natCast,af7] at r8;simp only[toNat_natCast];have h8:=hd.PV f8;have l8:=r8.lt;have hbl:=h.ht.hd.lt;have hdw:w.drew.heap.size=w.heap.size:=rfl;refine iK h8.ht.hd rfl (by simp) λan ai f10 z10=> ?_;simp only[List.set_cons_zero] at ai;have hb10:iG w an (·=b):=((iG.drew w _).trans (f8 (·=b)) λ_ _ e=>e).trans (f10 (·=b) rfl) λ_ _ e=>e;have nl:∀A:List yT,A.length=m->slA s' A=some ⟨s',0,none⟩:=λA hA=>by
   have:A≠[]:=by rintro rfl;simp at hA;omega
   simp[slA,this]
  have old:L≠[]->s≠b/\s<w.heap.size:=λhn=>⟨λe=>h.ht.ne hn e.symm,(h.ht.row hn).lt⟩;refine iE (λst W=>(∃i:Nat,i<=L.length/\st.1=i/\∃L2:List yT,L2.length=m/\HT W b s' L2 (cnt L:Int) most/\T (λk=>tC k m) L2 (λ_ _=>False)/\cnt L2=cnt (L.take i)/\∀k n,Has L2 k n↔Has (L.take i) k n)/\iG w W (·=b)) (λst _=>L.length - st.1.toNat)
   ⟨⟨0,by omega,rfl,List.replicate m none,by simp,⟨?_,λ_=>r8.fr (f10 (·=b) rfl) (by omega),λ_=>by omega,by simp;omega⟩,⟨λi j k n n' hi=> ?_,λi k n hi=> ?_⟩,by simp[agS,cnt],λk n=>⟨λ⟨i,hi⟩=> ?_,λ⟨i,hi⟩=>by simp at hi⟩⟩,hb10⟩ ?_
  ·rw[nl _ (by simp)];simpa using ai
  ·rw[List.getElem?_replicate] at hi;split at hi<;>cases hi
  ·rw[List.getElem?_replicate] at hi;split at hi<;>cases hi
  ·rw[List.getElem?_replicate] at hi;split at hi<;>cases hi
  rintro⟨x,⟨⟩⟩ W ⟨⟨i,hi,rfl,L2,hl2,hT,tt,I,u⟩,hF⟩ next J
  have hFz:=hF.size;by_cases ac:i<L.length
  ·have O:((i:Int)<(L.length:Int)):=by omega
   simp only[O,decide_true,cond_true];have hn:L≠[]:=by rintro rfl;simp at ac
   obtain⟨ao,hsl⟩:=old hn;have Y:L[i]? =some L[i]:=getElem?_eq_getElem ac;generalize hE:L[i]=e at Y;have ae:=(h.ht.row hn).fr hF ao;have cell:∀j,j<3->W.cell? ⟨s,i * 3+j,none⟩=(PK e)[j]? :=λj hj=>by rw[ae.cell,flat_get _ 3 JA _ _ j hj,Y];rfl
   refine vG (b:=s) (o:=0) (by simp[slA,hn]) (by omega) (by simp only;omega) ?_;have c0:=cell 0 (by omega);rw[Nat.add_zero] at c0;simp only[sx,toNat_natCast,c0,cell 1 (by omega),cell 2 (by omega),PK];refine Ua rfl rfl rfl λa21 aq aj l24 f24=> ?_;have e4:IntKind.i64.wrap ((i:Int)+1)=((i+1:Nat):Int):=by rw[wrap_i64 (by omega) (by omega)];omega
   have aa:L.take (i+1)=L.take i++[e]:=by rw[List.take_succ_eq_append_getElem ac,hE]
   have hF24:iG w aq (·=b):=hF.trans (f24 _) λ_ _ e=>e;have hT24:=hT.PV f24;simp only[sx,aj.cell,e4]
   cases e with
   |none=>
    simp only[eU,cond_false];refine J _ _ ⟨⟨i+1,by omega,rfl,L2,hl2,hT24,tt,?_,λk n=> ?_⟩,hF24⟩ (by simp only;omega)
    ·rw[aa,UG,I];simp[cnt]
    ·rw[u,aa,UZ];simp
   |some x=>
    obtain⟨k,n⟩:=x;simp only[eU,PG,cond_true,cond_true];have af:Has L k n:=⟨i,Y⟩;have ab:∀n,¬Has L2 k n:=λn' hx=>by
     obtain⟨j,hj,ar⟩:=afq ((u k n').1 hx);have:=h.t.dist _ _ _ _ _ ar Y;omega
    have R:0<L2.length:=by omega
    have hh:=Gv k R;have ag:cnt L2<L2.length:=by
     have h1:=cnt_le (L.take i);have h2:(L.take i).length<=L.length:=by simp;omega
     omega
    obtain⟨j0,hj0⟩:=TU ag;have ah:L2≠[]:=by rintro rfl;simp at R
    refine kM (U2 hT24 ah (h.keys k n af) (Il hh hj0)) ?_;rintro at_ t ak ⟨⟨d,hd,rfl,⟨rfl,n',hn'⟩|⟨rfl,hn'⟩⟩,f29⟩
    ·exact absurd ⟨_,hn'⟩ (ab n')
    ·have hT29:HT ak.drew b s' L2 (cnt L:Int) most:=(hT24.PV f29).PV λS=>iG.drew _ S;have au:Row ak.drew a21 _:=(aj.fr (f29 λ_=>False) (by simp)).drew;simp only[d_,iy,iL,iF,qw,TS,hT29.hd.cell,au.cell];have hq:cy L2.length (tC k L2.length+d)<L2.length:=(List.getElem?_eq_some_iff.1 hn').1;refine vG (b:=s') (o:=0) (nl L2 hl2) (by omega) (by simp only;omega) ?_;simp only[toNat_natCast,Nat.zero_add];refine Uh hT29 hq (some (k,n)) λw38 av f38=> ?_;have U:=insert (n:=n) (H:=λk=>tC k m) tt ab (by rw[<- hl2];exact hh) (by rw[<- hl2];exact hd);rw[hl2] at U;refine J _ _ ⟨⟨i+1,by omega,rfl,_,by simp[hl2],av,by rw[hl2];exact U,?_,λk' n''=> ?_⟩,?_⟩ (by simp only;omega)
     ·rw[KX hn',aa,UG,I];simp[cnt]
     ·rw[H9 hn' ab,aa,UZ,u];constructor
      ·rintro(⟨rfl,rfl⟩|⟨_,hx⟩)
       ·exact .inr rfl
       ·exact .inl hx
      ·rintro(hx|hx)
       ·refine .inr ⟨?_,hx⟩;rintro rfl;exact ab _ ((u _ _).2 hx)
       ·cases hx;exact .inl ⟨rfl,rfl⟩
     ·exact((hF24.trans (f29 _) λ_ _ e=>e).trans (iG.drew _ _) λ_ _ e=>e).trans f38 λx hx e=>by
       have e':x=s':=e;omega
  ·have O:¬((i:Int)<(L.length:Int)):=by omega
   simp only[O,decide_false,cond_false];have:i=L.length:=by omega
   subst this;rw[List.take_length] at I u;refine⟨s',L2,⟨by rw[I];exact hT,by rw[hl2];exact tt,by have:=h.free;omega,λk n=>by rw[u];exact h.m k n,h.most0,h.most1,by omega,λhx=> ?_,λk n hx=>h.keys k n ((u k n).1 hx)⟩,I,by have:=h.free;omega,hF,.inr (by omega)⟩;rw[hx] at hl2;simp at hl2;omega
def upd (M:ByteArray->Option Int) (k:ByteArray) (v:Option Int):ByteArray->Option Int:=λx=>if x=k then v else M x
theorem acM {w:World} {b s:Nat} {L:List yT} {most:Int} {M:ByteArray->Option Int} (h:TB w b s L most M) (k:ByteArray) (n:Int) (hk:k.size<=2^63 - 1):
  o9 (some ⟨b,0,none⟩) k n w λe w'=>
   (e=0/\(M k=none->(cnt L:Int)<most)/\∃s' L',TB w' b s' L' most (upd M k (some n))/\cnt L'=(if (M k).isSome then cnt L else cnt L+1)/\iG w w' (λx=>x=b\/x=s)/\(s'=s\/w.heap.size<=s'))\/
   (e=7/\M k=none/\most<=(cnt L:Int)/\∀S,iG w w' S):=by
 apply Qc;refine xA (QO h.ht) ?_;rintro r w2 ⟨rfl,rfl⟩;simp only[Bool.not_true,cond_false];refine kM (PW h k hk) ?_;have hsz:=h.ht.sz;rintro at_ t w5 ⟨hf,⟨rfl,i,n0,rfl,hi,hM⟩|⟨rfl,hM,_⟩⟩
 ·have h':=h.PV hf;have N:L≠[]:=by rintro rfl;simp at hi
  have hlt:i<L.length:=(List.getElem?_eq_some_iff.1 hi).1;simp only[sx,h'.ht.hd.cell];refine vG (b:=s) (o:=0) (by simp[slA,N]) (by omega) (by simp only;omega) ?_;simp only[sx,toNat_natCast];refine ail h'.ht hi λw9 h9 f9=> .inl ⟨by trivial,λhx=>(by rw[hM] at hx;cases hx),s,_,⟨by rw[Pq hi];exact h9,by simp only[length_set];exact update h.t hi,by rw[Pq hi,length_set];exact h.free,λk' n'=> ?_,h.most0,h.most1,by simpa using h.sz,λhx=> ?_,λk' n' hx=>by
   rcases(U0 h.t hi k' n').1 hx with ⟨rfl,_⟩|⟨_,hx⟩
   ·exact hk
   ·exact h.keys _ _ hx⟩,by rw[Pq hi,hM];rfl,?_,.inl rfl⟩
  ·rw[U0 h.t hi,upd];by_cases O:k'=k
   ·subst O;simp[eq_comm]
   ·simp[O,h.m]
  ·have:(L.set i (some (k,n))).length=0:=by rw[hx];rfl
   simp at this;exact absurd this N
  ·exact(hf _).trans f9 λx hx e=> .inr e
 ·have h':=h.PV hf;have hd:TB w5.drew b s L most M:=h'.PV λS=>iG.drew _ S;simp only[sx,hd.ht.hd.cell];by_cases I:(cnt L:Int)>=most
  ·simp only[I,decide_true,cond_true];exact .inr ⟨by trivial,hM,by first|trivial|omega,λS=>(hf S).trans (iG.drew _ S) λ_ _ e=>e⟩
  ·simp only[I,decide_false,cond_false];refine NI (afr hd (by omega)) ?_;rintro w14 ⟨s',L',J,hc14,R,f14,hs'⟩;refine kM (PW J k hk) ?_;have N:L'≠[]:=by rintro rfl;simp at R
   have Y:=J.pos N;rintro at_ t w17 ⟨f17,⟨_,i,n0,_,_,hM'⟩|⟨_,_,aa⟩⟩
   ·rw[hM] at hM';cases hM'
   ·obtain⟨d,ab,rfl⟩:=aa N;have ac:=J.PV f17;have U:=(J.U8 k).1 hM;have hh:=Gv k Y;obtain⟨u,_⟩:=NY U hh ab;have hq:cy L'.length (tC k L'.length+d)<L'.length:=(List.getElem?_eq_some_iff.1 u).1;simp only[getElem?_cons_zero,iy,iL,ac.ht.hd.cell];refine vG (b:=s') (o:=0) (by simp[slA,N]) (by omega) (by simp only;omega) ?_;simp only[toNat_natCast,Nat.zero_add];refine Uh ac.ht hq (some (k,n)) λw23 ae f23=> ?_;simp only[ae.hd.cell,XW,d_,iy,iF,Nat.zero_add];have hm1:=h.most1;have e1:IntKind.i64.wrap ((cnt L':Int)+1)=((cnt L'+1:Nat):Int):=by rw[wrap_i64 (by omega) (by omega)];omega
    rw[e1];refine acj ae λw27 af f27=> ?_;refine .inl ⟨by trivial,λ_=>by omega,s',_,⟨by rw[KX u];exact af,by simp only[length_set];exact insert J.t U hh ab,by rw[KX u,length_set];omega,λk' n'=> ?_,h.most0,h.most1,by simpa using J.sz,λhx=> ?_,λk' n' hx=>by
     rcases(H9 u U k' n').1 hx with ⟨rfl,_⟩|⟨_,hx⟩
     ·exact hk
     ·exact J.keys _ _ hx⟩,by rw[KX u,hM,hc14];rfl,?_,?_⟩
    ·rw[H9 u U,upd];by_cases O:k'=k
     ·subst O;simp[eq_comm]
     ·simp[O,J.m]
    ·have:(L'.set (cy L'.length (tC k L'.length+d)) (some (k,n))).length=0:=by rw[hx];rfl
     simp at this;exact absurd this N
    ·have hz:=(hf λ_=>False).size;have ag:w5.drew.heap.size=w5.heap.size:=rfl;refine(((((hf _).trans (iG.drew _ _) λ_ _ e=>e).trans f14 λx hx e=> .inl e).trans (f17 _) λ_ _ e=>e).trans f23 λx hx e=> ?_).trans f27 λx hx e=> .inl e;have e':x=s':=e;rcases hs' with hs'|hs'
     ·exact .inr (by omega)
     ·omega
    ·have hz:=(hf λ_=>False).size;have ag:w5.drew.heap.size=w5.heap.size:=rfl;rcases hs' with hs'|hs'
     ·exact .inl hs'
     ·exact .inr (by omega)
theorem ajm {m a i:Nat} (ha:a<m) (hi:i<m):cy m (cy m (a+1)+i)=cy m (a+(i+1)):=by
 have c1:=cyc m (a+1);have c2:=cyc m (cy m (a+1)+i);have c3:=cyc m (a+(i+1));omega
structure Mid (w:World) (b s:Nat) (L Lc:List yT) (k:ByteArray) (most:Int) (X:Nat->Nat->Prop):Prop where
 ht:HT w b s Lc ((cnt L - 1:Nat):Int) most
 len:Lc.length=L.length
 t:T (λk=>tC k L.length) Lc X
 has:∀k' n',Has Lc k' n'↔k'≠k/\Has L k' n'
 cnt:cnt Lc=Hash.cnt L - 1
theorem Mid.fr {w w':World} {b s:Nat} {L Lc:List yT} {k:ByteArray} {most:Int} {X:Nat->Nat->Prop} {S:Nat->Prop} (h:Mid w b s L Lc k most X) (hf:iG w w' S) (h1:¬S b) (h2:¬S s):Mid w' b s L Lc k most X:=
 ⟨h.ht.fr hf h1 λ_=>h2,h.len,h.t,h.has,h.cnt⟩
theorem ahV {H:ByteArray->Nat} {L:List yT} {X Y:Nat->Nat->Prop} (t:T H L X) (h:∀i p,X i p->Y i p):T H L Y:=
 ⟨t.dist,λi k n hi=>by obtain⟨D,h1,h2,h3⟩:=t.reach i k n hi;exact⟨D,h1,h2,λd hd=>(h3 d hd).imp id (h _ _)⟩⟩
theorem U1 {w:World} {b s:Nat} {L:List yT} {most:Int} {M:ByteArray->Option Int} (h:TB w b s L most M) (k:ByteArray) (hk:k.size<=2^63 - 1):
  mZ (some ⟨b,0,none⟩) k w λr w'=>r=(M k).isSome/\(∃L',TB w' b s L' most (upd M k none)/\cnt L'+(if (M k).isSome then 1 else 0)=cnt L)/\iG w w' (λx=>x=b\/x=s):=by
 apply JV;have hsz:=h.ht.sz;refine⟨rfl,vF λa2 w1 q2 e2 z2 f1=> ?_⟩;have h1:=h.PV f1;simp only[sx,q2.cell];refine xA (QO h1.ht) ?_;rintro r w5 ⟨rfl,rfl⟩;simp only[Bool.not_true,cond_false,getElem?_cons_zero,iy,uV,q2.cell];refine kM (PW h1 k hk) ?_;rintro at_ t w9 ⟨f9,⟨rfl,i0,n0,rfl,hi0,hM⟩|⟨rfl,hM,_⟩⟩
 case inr=>
  simp only[Bool.not_false,cond_true];refine⟨by simp[hM],⟨L,?_,by simp[hM]⟩,(f1 _).trans (f9 _) λ_ _ e=>e⟩;have h9:=h1.PV f9;have:upd M k none=M:=by
   funext x;unfold upd;split
   ·rename_i hx;rw[hx,hM]
   ·rfl
  rw[this];exact h9
 have h9:=h1.PV f9;have aj:L≠[]:=by rintro rfl;simp at hi0
 have U:i0<L.length:=(List.getElem?_eq_some_iff.1 hi0).1;have q2:Row w9 a2 _:=q2.fr (f9 λ_=>False) (by simp);simp only[Bool.not_true,cond_false,qx,getElem?_cons_zero,iy,iL,uV,q2.cell,h9.ht.hd.cell];refine vG (b:=s) (o:=0) (by simp[slA,aj]) (by omega) (by simp only;omega) ?_;simp only[toNat_natCast,Nat.zero_add];have hbl:=h.ht.hd.lt;have hsl:=(h.ht.row aj).lt;refine Uh h9.ht U none λau ak f16=> ?_;have q2:Row au a2 _:=q2.fr f16 (by omega);have hcp:0<cnt L:=by have:=Pv hi0;omega
 have hfree:=h.free;have e1:IntKind.i64.wrap ((cnt L:Int) - 1)=((cnt L - 1:Nat):Int):=by rw[wrap_i64 (by omega) (by omega)];omega
 simp only[sx,q2.cell,ak.hd.cell,e1];refine acj ak λY aa f21=> ?_;have q2:Row Y a2 _:=q2.fr f21 (by omega);have aa:HT Y.drew b s (L.set i0 none) ((cnt L - 1:Nat):Int) most:=aa.PV λS=>iG.drew _ S;have q2:Row Y.drew a2 _:=q2.drew;have hb21:iG w Y.drew λx=>x=b\/x=s:=((((f1 _).trans (f9 _) λ_ _ e=>e).trans f16 λx hx e=> .inr e).trans f21 λx hx e=> .inl e).trans (iG.drew _ _) λ_ _ e=>e;have ac:0<L.length:=by omega
 have ae:(L.set i0 none).length=L.length:=length_set;have e3:Int.tmod (IntKind.i64.wrap ((i0:Int)+1)) ((L.set i0 none).length:Int)=((cy L.length (i0+1):Nat):Int):=by
  have:=ac1 (m:=L.length) (from_:=i0) (i:=1) (by omega) U (by omega);rw[ae];exact this
 simp only[qx,getElem?_cons_zero,iy,iL,uV,q2.cell,aa.hd.cell];refine⟨by rw[ae];omega,?_⟩;rw[e3];refine Ea (ac5 b _ _) ?_;rintro r u ⟨g0,g1,rfl,p0,p1,lg0,lg1,f31⟩;have av:=aa.PV f31;have q2:Row u a2 _:=q2.fr (f31 λ_=>False) (by simp);have hb31:iG w u λx=>x=b\/x=s:=hb21.trans (f31 _) λ_ _ e=>e;have hz31:=hb31.size;have l2:=q2.lt;have lp0:=p0.lt;have lp1:=p1.lt;have hz21:=hb21.size;obtain⟨e,he0,z0⟩:=ahQ (L:=L) (at_:=i0) ⟨_,hi0⟩ (by omega);have hc0:cy L.length (i0+0)=i0:=by unfold cy;simp[U]
 have hH:∀k,tC k L.length<L.length:=λk=>Gv k ac;have t0:T (λk=>tC k L.length) L (Xj L.length i0 e 0):=ahV h.t λi p hx=>hx.elim;have t1:=clear z0 he0 hH t0;have z1:=VZ z0 he0;rw[hc0] at t1 z1;have he:=z0.e1;have mid0:Mid u b s L (L.set i0 none) k most (Xj L.length i0 e (0+1)):=⟨av,ae,t1,QM h.t hi0,by have:=Pv hi0;omega⟩;refine aaO (b:=b) (m:=L.length) (from_:=cy L.length (i0+1))
  (λi W=>i+1<=e/\FI u W (·=s)/\∃Lc,Mid W b s L Lc k most (Xj L.length i0 e (i+1))/\Zone Lc i0 e (i+1))
  (λx W=>x= .exit 0/\FI u W (·=s)/\∃Lc,Mid W b s L Lc k most λ_ _=>False)
  (by omega) (Py (by omega)) ?_ ?_ ?_ ?_ ?_ ?_ ?_ ?_ ?_
 ·exact λw1' hf hm hz=>⟨by omega,⟨hf _,hm,by omega⟩,_,mid0.fr (hf λ_=>False) (by simp) (by simp),z1⟩
 ·rintro i W ⟨_,hF,Lc,hm,_⟩;refine⟨p0.fr hF.fr (by omega),p1.fr hF.fr (by omega),slA s Lc,?_⟩;rw[hm.ht.hd.cell,<- hm.len];rfl
 ·rintro i W W' ⟨hi,hF,Lc,hm,hz⟩ hf;exact⟨hi,hF.st hf,Lc,hm.fr hf (by omega) (by omega),hz⟩
 ·rintro x W W' ⟨rfl,hF,Lc,hm⟩ hf;exact⟨by trivial,hF.st hf,Lc,hm.fr hf (by omega) (by omega)⟩
 ·exact λx W hJ=> .inr ⟨0,hJ.1⟩
 ·rintro i W Kb hi ⟨hie,hF,Lc,hm,hz⟩ hn hj;have hFz:=hF.size;have zb:=(iG.iD W (u.heap.size+1)).size;have fb:iG u (iD W (u.heap.size+1)) (·=s):=hF.fr.trans (iG.iD W _) λx hx e=>by
   have e':x=u.heap.size+1:=e;omega
  have hm:Mid (iD W (u.heap.size+1)) b s L Lc k most _:=hm.fr (iG.iD W _) (by omega) (by omega);have q2:=q2.fr fb (by omega);have J:=hm.len;rw[ajm U hi];generalize hp:cy L.length (i0+(i+1))=p;have hpl:p<L.length:=by rw[<- hp];exact Py (by omega)
  have al:Lc≠[]:=by rintro rfl;simp at J;omega
  refine⟨by trivial,?_⟩;simp only[qx,getElem?_cons_zero,iy,iL,uV,q2.cell,hm.ht.hd.cell];obtain⟨x,hx⟩:∃x,Lc[p]? =some x:=⟨_,getElem?_eq_getElem (by omega)⟩;have c0:=hm.ht.ent hx 0 (by omega);simp only[Nat.add_zero] at c0;refine vG (b:=s) (o:=0) (by simp[slA,al]) (by omega) (by simp only;omega) ?_;simp only[sx,toNat_natCast,c0,hm.ht.ent hx 1 (by omega),hm.ht.ent hx 2 (by omega),PK];refine Ua rfl rfl rfl λa44 ab af l47 f47=> ?_;have fb47:iG u ab (·=s):=fb.trans (f47 _) λ_ _ e=>e;have z47:=(f47 λ_=>False).size;have hm47:=hm.fr (f47 λ_=>False) (by simp) (by simp);have q2:=q2.fr (f47 λ_=>False) (by simp);have hk47:ab.heap[u.heap.size+1]? =(iD W (u.heap.size+1)).heap[u.heap.size+1]? :=(f47 λ_=>False).same _ (by omega) (by simp);have hmk47:ab.heap[u.heap.size]? =some (.deferred (some [])):=by rw[(f47 λ_=>False).same _ (by omega) (by simp),(iG.iD W _).same _ (by omega) (by omega)];exact hF.mark
  simp only[sx,af.cell]
  cases x with
  |none=>
   simp only[eU,Bool.not_false,cond_true];have hj1:¬i+1<e:=λag=>by
    obtain⟨y,hy⟩:=hz.full (i+1) (Nat.le_refl _) ag;rw[J,hp,hx] at hy;cases hy
   have:i+1=e:=by omega
   subst this;exact hj _ _ hk47 ⟨rfl,⟨fb47,hmk47,by omega⟩,Lc,hm47.ht,hm47.len,ahV hm47.t λi' p' hX=>ajD _ _ _ _ _ hX,hm47.has,hm47.cnt⟩
  |some y=>
   obtain⟨k0,n0⟩:=y;have hj1:i+1<e:=by
    rcases Nat.lt_or_ge (i+1) e with h|h
    ·exact h
    ·have:i+1=e:=by omega
     have hf:=hz.free;rw[<- this,J,hp,hx] at hf;cases hf
   simp only[eU,Bool.not_true,PG,eN,cond_false,qx,getElem?_cons_zero,iy,iL,uV,q2.cell,hm47.ht.hd.cell] at af ⊢;refine vG (b:=s) (o:=0) (by simp[slA,al]) (by omega) (by simp only;omega) ?_;simp only[toNat_natCast,Nat.zero_add];refine Uh hm47.ht (by omega) none λw55 am f55=> ?_;have q2:=q2.fr f55 (by omega);have an:=af.fr f55 (by omega);simp only[XW,getElem?_cons_zero,iy,uV,TS,Nat.zero_add,q2.cell,an.cell];have hx':Lc[cy Lc.length (i0+(i+1))]? =some (some (k0,n0)):=by rw[J,hp];exact hx
   have ao:=hm.t;rw[<- J] at ao;obtain⟨hex,R⟩:=aer hz hj1 (by rw[J];exact hH) ao hx';rw[J,hp] at hex;have I:(Lc.set p none).length=L.length:=by rw[length_set,J]
   have hn1:Lc.set p none≠[]:=by intro hx0;rw[hx0] at I;simp at I;omega
   obtain⟨d0,hd0⟩:=hex;have ah:=h.keys k0 n0 ((hm.has k0 n0).1 ⟨p,hx⟩).2;refine kM (U2 am hn1 ah ⟨d0,hd0.lt,by rw[I];exact hd0.stop⟩) ?_;rintro at1 t1 aw ⟨⟨d,hd,rfl,_⟩,f60⟩;rw[I] at hd;have aq:HT aw.drew b s (Lc.set p none) _ most:=(am.PV f60).PV λS=>iG.drew _ S;have ax:=(an.fr (f60 λ_=>False) (by simp)).drew;have q2:=(q2.fr (f60 λ_=>False) (by simp)).drew;obtain⟨hz2,ht2,N,O⟩:=R d (by rw[J,hp];exact hd);rw[J,hp] at hz2 ht2 N O;have ai:cy L.length (tC k0 L.length+d)<L.length:=Py (by have:=hd.lt;have:=hH k0;omega);simp only[qx,d_,iy,iL,iF,qw,uV,TS,q2.cell,ax.cell,aq.hd.cell];refine vG (b:=s) (o:=0) (by simp[slA,hn1]) (by omega) (by simp only;rw[I];omega) ?_;simp only[toNat_natCast,Nat.zero_add];rw[I];refine Uh aq (by rw[I];exact ai) (some (k0,n0)) λay az f70=> ?_;have f4770:iG ab ay (·=s):=((f55.trans (f60 _) λ_ _ e=>e).trans (iG.drew _ _) λ_ _ e=>e).trans f70 λ_ _ e=>e;refine hn _ ?_ ⟨by omega,⟨fb47.trans f4770 λ_ _ e=>e,?_,by have:=f4770.size;omega⟩,_,⟨az,?_,ht2,λk' n'=> ?_,?_⟩,hz2⟩
   ·rw[f4770.same _ (by omega) (by omega)];exact hk47
   ·rw[f4770.same _ (by omega) (by omega)];exact hmk47
   ·simp[J]
   ·rw[N];exact hm.has k' n'
   ·rw[O];exact hm.cnt
 ·rintro W ⟨hi,_⟩;omega
 ·rintro W ⟨hx,_⟩
  cases hx
 ·rintro id W ⟨hx,hF,Lc,hm⟩
  cases hx
  show yH _ _ _;refine⟨hF.mark,?_⟩;have pf:=iG.putObj W u.heap.size (.deferred none);have hm:=hm.fr pf (by omega) (by omega);refine⟨by simp[hM],⟨Lc,⟨?_,?_,?_,?_,h.most0,h.most1,?_,?_,?_⟩,?_⟩,?_⟩
  ·rw[hm.cnt];exact hm.ht
  ·have:=hm.t;rw[<- hm.len] at this;exact this
  ·have:=hm.cnt;have:=hm.len;omega
  ·intro k' n';rw[hm.has,upd];by_cases ar:k'=k
   ·simp[ar]
   ·simp[ar,h.m]
  ·rw[hm.len];exact h.sz
  ·intro hx;have:=hm.len;rw[hx] at this;simp at this;omega
  ·exact λk' n' hx=>h.keys k' n' ((hm.has k' n').1 hx).2
  ·have:=hm.cnt;simp[hM];omega
  ·exact(hb31.trans hF.fr λx hx e=> .inr e).trans pf λx hx e=>by
    have e':x=u.heap.size:=e;omega
end Go.Proofs
end
section
namespace Gp.V4
def beN:Nat->Nat->List UInt8
 |0,_=>[]
 |k+1,n=>UInt8.ofNat (n / 256^k)::beN k n
def vY (l:List UInt8):Nat:=l.foldl (λn b=>n * 256+b.toNat) 0
theorem lZ (k n:Nat):(beN k n).length=k:=by
 induction k with
 |zero=>rfl
 |succ k ih=>simp[beN,ih]
def sizeOk (k:Int):Prop:=1<=k/\k<=4
instance (k:Int):Decidable (sizeOk k):=inferInstanceAs (Decidable (_/\_))
def fitsP (n k:Int):Prop:=sizeOk k/\0<=n/\n<256^k.toNat
instance (n k:Int):Decidable (fitsP n k):=inferInstanceAs (Decidable (_/\_))
def num (b:List UInt8) (at_ k:Nat):Nat:=vY ((b.drop at_).take k)
end Gp.V4
end
section
namespace Go.Proofs
open Gp Gp.V4
theorem ady {e:TypeId} {w:World} {x:iq} {m:List UInt8} (hx:qy w x m) (hl:m.length<=2^46) {K:iq->b_}
  (hK:∀r w',Buf w' r (bytesV m)->(r.a=none↔x.a=none)->Ext w w'->(∀b,iq.at r b->w.heap.size<=b)->K r w'):
  (bif (Option.isNone x.a) then K ⟨none,0,0⟩ w else Al w (.cells ⟨[]⟩ e) λa3 w2=>j_ e 1 1 [(Value.int .u8 0)] ⟨(some a3),0,0⟩ x w2 K):=by
 cases u:x.a with
 |none=>
  simp only[Option.isNone_none,cond_true];have:=hx.empty u;subst this;exact hK _ _ Buf.nil (by simp[u]) (Ext.refl _) λb ⟨o,h⟩=>by cases h
 |some a=>
  simp only[Option.isNone_some,cond_false];refine iI λb w2 r2 e2 _ f2=> ?_;have hx2:=hx.ext f2;refine nC (l:=[]) ⟨rfl,.inr ⟨b,[],rfl,rfl,by simpa [bytesV] using r2⟩⟩ hx2 (by simpa using hl) λs' w' h1 h2 h3 h4=> ?_;refine hK _ _ (by simpa using h1) (by rw[u];exact⟨λh=>by have:=(h4 h).2;simp at this,λh=>by simp at h⟩) (iG.new (Ext.fr f2 h2) ?_) (λc hc=> ?_)
  ·rintro y hy ⟨o,e⟩
   cases e;omega
  ·rcases h3 c hc with ⟨o,e⟩|h
   ·cases e;omega
   ·have:=(f2 λ_=>False).size;omega
theorem Un {w:World} {x:iq} {m:List UInt8} (hx:qy w x m) (hl:m.length<=2^46):
  lu x w λr w'=>Buf w' r (bytesV m)/\(r.a=none↔x.a=none)/\Ext w w'/\∀b,iq.at r b->w.heap.size<=b:=by
 apply EL;exact ady (K:=λr w'=>Buf w' r (bytesV m)/\(r.a=none↔x.a=none)/\Ext w w'/\∀b,iq.at r b->w.heap.size<=b) hx hl λr w' h1 h2 h3 h4=>⟨h1,h2,h3,h4⟩
theorem CP (k:Int) (w:World):Az k w λr w'=>r=decide (sizeOk k)/\w'=w:=by
 apply aal;by_cases h1:k>=1
 ·by_cases h2:k<=4
  ·have:sizeOk k:=⟨h1,h2⟩;simp[h1,h2,this]
  ·have:¬sizeOk k:=λh=>h2 h.2;simp[h1,h2,this]
 ·have:¬sizeOk k:=λh=>h1 h.1;simp[h1,this]
theorem aiS {n:Int} {i:Nat} (hi:i<=7) (hn:0<=n):mW .i64 n (IntKind.i64.wrap (8 * (i:Int)))=((n.toNat / 256^i:Nat):Int):=by
 rw[wrap_i64 (by omega) (by omega)];unfold mW;have e:(2:Int)^(min ((8:Int) * (i:Int)).toNat (IntKind.bits .i64))=((256^i:Nat):Int):=by
  have:i=0\/i=1\/i=2\/i=3\/i=4\/i=5\/i=6\/i=7:=by omega
  rcases this with rfl|rfl|rfl|rfl|rfl|rfl|rfl|rfl<;>decide
 rw[e,Int.fdiv_eq_ediv_of_nonneg _ (Int.natCast_nonneg _),Int.natCast_ediv,Int.toNat_of_nonneg hn]
theorem agb {n k:Int} (hk:sizeOk k) (hn:0<=n):(mW .i64 n (IntKind.i64.wrap (8 * k))==0)=decide (n<256^k.toNat):=by
 obtain⟨h1,h2⟩:=hk;obtain⟨m,rfl⟩:∃m:Nat,k=(m:Int):=⟨k.toNat,by omega⟩;rw[aiS (by omega) hn];have hp:0<256^m:=Nat.pow_pos (by omega);obtain⟨x,rfl⟩:∃x:Nat,n=(x:Int):=⟨n.toNat,by omega⟩;have e:((256:Int)^(m:Int).toNat)=((256^m:Nat):Int):=by simp
 rw[e];simp only[toNat_natCast];by_cases h:x<256^m
 ·have:x / 256^m=0:=Nat.div_eq_of_lt h;have h':((x:Int)<((256^m:Nat):Int)):=by omega
  rw[this];simp only[h',decide_true];rfl
 ·have:1<=x / 256^m:=(Nat.le_div_iff_mul_le hp).2 (by omega);have h':¬((x:Int)<((256^m:Nat):Int)):=by omega
  simp only[h',decide_false,beq_eq_false_iff_ne,ne_eq];omega
theorem acH (n k:Int) (w:World):DJ n k w λr w'=>r=decide (fitsP n k)/\w'=w:=by
 apply abT;refine RN (CP k w) ?_;rintro r w1 ⟨rfl,rfl⟩;by_cases hk:sizeOk k
 ·by_cases hn:n>=0
  ·simp only[hk,hn,decide_true,cond_true];refine⟨by have:=hk.1;have:=hk.2;rw[wrap_i64 (by omega) (by omega)];omega,?_,by trivial⟩;rw[agb hk hn];simp[fitsP,hk,hn]
  ·simp only[hk,hn,decide_true,decide_false,cond_true,cond_false];have:¬fitsP n k:=λh=>hn h.2.1;exact⟨by simp[this],by trivial⟩
 ·simp only[hk,decide_false,cond_false];exact⟨by simp[fitsP,hk],by trivial⟩
def yB (l:List UInt8):List (G9 [.one (.int .u8)]):=l.map λb=>((b.toNat:Int),())
theorem agC (l:List UInt8) (i:Nat):(yB l)[i]? =(l[i]?).map λb=>((b.toNat:Int),()):=by simp[yB]
theorem X6:∀(k n i:Nat),i<k->(beN k n)[i]? =some (UInt8.ofNat (n / 256^(k - 1 - i)))
 |0,_,_,h=>by omega
 |k+1,n,0,_=>by simp[beN]
 |k+1,n,i+1,h=>by
  simp only[beN,List.getElem?_cons_succ];rw[X6 k n i (by omega),show k+1 - 1 - (i+1)=k - 1 - i by omega]
theorem ZL {n:Int} {k f0 f1:Nat} (hk:k<=4) (hn:0<=n):
  tH Tryz.prog [.one (.int .u8)] (Value.func (.func WE) #[] #[(Value.pointer (some ⟨f0,0,none⟩)),(Value.pointer (some ⟨f1,0,none⟩))])
   (λW=>Row W f0 [.int .i64 (k:Int)]/\Row W f1 [.int .i64 n]) (yB (beN k n.toNat)):=by
 refine⟨by kernel_rfl,λl Q D hC hQ hD hy w h0=> ?_⟩;refine Calls.mono (Vb (a0:= .func (.yield l) #[] #[]) (f0:=⟨f0,0,none⟩) (f1:=⟨f1,0,none⟩) (K:=λw'=>Q (yB (beN k n.toNat)).length w'\/D w') ?_) (λe w' h=>h);have hlen:(yB (beN k n.toNat)).length=k:=by simp[yB,lZ]
 obtain⟨r0,_⟩:=hC _ _ h0;simp only[sx,r0.cell];rw[hlen];refine iE (λst W=>∃i:Nat,i<=k/\st.1=(k:Int) - 1 - i/\Q i W) (λst _=>(st.1+1).toNat) ⟨0,by omega,by rw[wrap_i64 (by omega) (by omega)];simp,h0⟩ ?_;rintro⟨x,⟨⟩⟩ W ⟨i,hi,hx,hq⟩ next u
 simp only at hx;by_cases I:i<k
 ·have hx0:x>=0:=by omega
  obtain⟨_,r1⟩:=hC _ _ hq;simp only[sx,hx0,decide_true,r1.cell];refine⟨by rw[wrap_i64 (by omega) (by omega)];omega,?_⟩;obtain⟨j,rfl⟩:∃j:Nat,x=(j:Int):=⟨x.toNat,by omega⟩;rw[aiS (by omega) hn];have hj:j=k - 1 - i:=by omega
  have e:IntKind.u8.wrap ((n.toNat / 256^j:Nat):Int)=(((UInt8.ofNat (n.toNat / 256^j)).toNat:Nat):Int):=by
   rw[IntKind.wrap_u8];simp
  rw[e];refine oW (hy i ((((UInt8.ofNat (n.toNat / 256^j)).toNat:Nat):Int),()) W _ ?_ hq ?_ ?_)
  ·rw[agC,X6 _ _ _ I,<- hj];rfl
  ·intro W' hq';refine⟨true,rfl,?_⟩;simp only[Bool.not_true,cond_false];rw[wrap_i64 (by omega) (by omega)];exact u _ _ ⟨i+1,by omega,by simp only;omega,hq'⟩ (by simp only;omega)
  ·intro W' hd;refine⟨false,rfl,?_⟩;simp only[Bool.not_false,cond_true];exact .inr hd
 ·have hx0:¬x>=0:=by omega
  simp only[hx0,decide_false,cond_false];have:i=k:=by omega
  subst this;exact .inl hq
def acp (w0 w:World) (v:Value) (l:List UInt8):Prop:=
 ∃C,tH Tryz.prog [.one (.int .u8)] v C (yB l)/\∀W S,iG w W S->(∀b,w0.heap.size<=b->b<w.heap.size->¬S b)->C W
theorem adF {n k:Int} (hk:sizeOk k) (hn:0<=n) (w:World):BI n k w λv w'=>Ext w w'/\acp w w' v (beN k.toNat n.toNat):=by
 apply YO;refine⟨rfl,iI λa w1 r1 e1 z1 f1=>⟨rfl,iI λb w2 r2 e2 z2 f2=> ?_⟩⟩;have r1':=r1.ext f2;obtain⟨m,rfl⟩:∃m:Nat,k=(m:Int):=⟨k.toNat,by have:=hk.1;omega⟩;refine⟨f1.trans f2,_,ZL (by have:=hk.2;omega) hn,λW S hf hs=>⟨r2.fr hf (hs _ ?_ ?_),r1'.fr hf (hs _ ?_ ?_)⟩⟩<;>omega
theorem X4 {w0 w:World} {s:iq} {v:Value} {l m:List UInt8} (hs:Buf w s (bytesV l)) (hv:acp w0 w v m) (hd:∀b,iq.at s b->¬(w0.heap.size<=b/\b<w.heap.size)) (hl:l.length+m.length<=2^46):
  ku s v w λr w'=>Buf w' r (bytesV (l++m))/\iG w w' (iq.at s)/\(∀b,iq.at r b->iq.at s b\/w.heap.size<=b)/\(r.a=none->l++m=[]/\s.a=none):=by
 obtain⟨C,hi,hC⟩:=hv;apply CB;refine⟨rfl,iI λa w1 r1 e1 z1 f1=> ?_⟩;have hlen:(yB m).length=m.length:=by simp[yB]
 have u:∀b,iq.at s b->b<w.heap.size:=λb hb=>hs.lt hb;refine CQ hi (λi W=>∃t:iq,Row W a [.slice t.a t.len t.cap]/\Buf W t (bytesV (l++m.take i))/\iG w W (iq.at s)/\(∀b,iq.at t b->iq.at s b\/(w.heap.size<=b/\b≠a/\b≠mV none w1/\b≠w1.heap.size))/\(t.a=none->l++m.take i=[]/\s.a=none)/\mV none w1<W.heap.size)
  (λ_ _=>False) (by simp) ?_ ?_ ?_ (by intro e W W' h;exact h.elim) (by intro e W h;exact h.elim) ?_ ?_ (by intro W h;exact h.elim) (by intro id W h;exact h.elim)
 ·intro w2 f2 z2;refine⟨s,r1.ext f2,by simpa using (hs.ext f1).ext f2,(f1.trans f2) _,λb hb=> .inl hb,?_,by omega⟩;simp only[List.take_zero,List.append_nil];intro ha;obtain⟨_,⟨_,h2,_⟩|⟨c,pad,h2,_⟩⟩:=hs
  ·exact⟨by simpa [bytesV] using h2,ha⟩
  ·rw[ha] at h2;cases h2
 ·rintro i W ⟨t,_,_,hf,_⟩;exact hC W _ hf λb h1 h2 h3=>hd b h3 ⟨h1,h2⟩
 ·rintro i W W' ⟨t,h1,h2,h3,h4,h5,h6⟩ hf;have J:mV none w1=w1.heap.size+1:=rfl;refine⟨t,h1.fr hf (by omega),h2.fr hf λb hb e=> ?_,h3.trans hf (λb hb e=>by omega),h4,h5,by have:=hf.size;omega⟩;rcases h4 b hb with h|h
  ·have:=u b h;omega
  ·omega
 ·intro i x W Kb hx ⟨t,h1,h2,h3,h4,h5,h6⟩ hlt I _;refine⟨rfl,?_⟩;have J:mV none w1=w1.heap.size+1:=rfl;rw[agC] at hx
  cases hb:m[i]? with
  |none=>rw[hb] at hx;simp at hx
  |some y=>
  rw[hb] at hx;simp only[Option.map_some,Option.some.injEq] at hx;subst hx;have fb:=iG.iD W (mV none w1);have h1':=h1.fr fb (by omega);have h2':Buf (iD W (mV none w1)) t (bytesV (l++m.take i)):=h2.fr fb λb hb e=>by
   rcases h4 b hb with h|h
   ·have:=u b h;omega
   ·omega
  simp only[sx,h1'.cell];have N:i<m.length:=(List.getElem?_eq_some_iff.1 hb).1;refine iI λc w3 r3 e3 z3 f3=> ?_;have hz3:w3.heap.size=W.heap.size+1:=by rw[z3,e3];simp[iD]
  have hx3:qy w3 ⟨some ⟨c,0,none⟩,1,1⟩ [y]:= .zZ (qy.row (l:=[y]) (by simpa [bytesV] using r3));have h2'':=h2'.ext f3;refine nC h2'' hx3 (by simp;omega) λs' w4 b4 f4 p4 n4=> ?_;have O:¬iq.at t a:=λh=>by
   rcases h4 a h with h|h
   ·have:=u a h;omega
   ·exact h.2.1 rfl
  have h1'':=(h1'.ext f3).fr f4 O;refine iK h1'' rfl (by simp) λw5 r5 f5 z5=> ?_;simp only[List.set_cons_zero] at r5;have hbz:(iD W (mV none w1)).heap.size=W.heap.size:=by simp[iD]
  have R:∀b,iq.at s' b->b≠a:=λb hb e=>by
   rcases p4 b hb with h|h
   ·exact O (e ▸ h)
   ·have:=h1.lt;omega
  refine I w5 (λb=>iq.at t b\/b=a) ?_ ?_ ⟨s',r5,?_,?_,?_,?_,?_⟩
  ·exact((f3 _).trans (f4.mono λb h=> .inl h) λ_ _ e=>e).trans (f5 (λb=>iq.at t b\/b=a) (.inr rfl)) λ_ _ e=>e
  ·rintro b hb1 hb2 (h|h)
   ·rcases h4 b h with h|h
    ·have:=u b h;omega
    ·rcases Nat.lt_or_ge b (mV none w1) with hx|hx<;>omega
   ·omega
  ·have e:l++m.take (i+1)=l++m.take i++[y]:=by
    rw[List.take_succ_eq_append_getElem N];have:m[i]=y:=by rw[getElem?_eq_getElem N] at hb;simpa using hb
    simp[this]
   rw[e];exact b4.fr (f5 (·=a) rfl) λb hb e=>R b hb e
  ·refine((h3.trans fb λb hb e=>by omega).ext f3).trans (S':=λb=>iq.at t b\/b=a) ((f4.mono λb h=> .inl h).trans (f5 (λb=>iq.at t b\/b=a) (.inr rfl)) λ_ _ e=>e) ?_;rintro b hb (h|h)
   ·rcases h4 b h with h|h
    ·exact h
    ·omega
   ·omega
  ·intro b hb;rcases p4 b hb with h|h
   ·exact h4 b h
   ·refine .inr ⟨by have:=h3.size;omega,R b hb,?_,?_⟩<;>omega
  ·intro ha;obtain⟨h1,h2⟩:=n4 ha;simp at h1
  ·have:=f4.size;omega
 ·rintro W ⟨t,h1,h2,h3,h4,h5,h6⟩ hm;have J:mV none w1=w1.heap.size+1:=rfl;simp only[sx,h1.cell];rw[hlen,List.take_length] at h2 h5;refine⟨hm rfl,?_,?_,?_,h5⟩
  ·exact h2.fr (iG.kU _ _ _) λb hb e=>by
    rcases h4 b hb with h|h
    ·have:=u b h;omega
    ·omega
  ·exact h3.trans (iG.kU _ _ _) λb hb e=>by omega
  ·intro b hb;rcases h4 b hb with h|h
   ·exact .inl h
   ·exact .inr h.1
def wo (l:List UInt8) (n k:Int):List UInt8:=if fitsP n k then l++beN k.toNat n.toNat else l
theorem Rw {w:World} {s:iq} {l:List UInt8} (hs:qy w s l) (hl:l.length+4<=2^46) (n k:Int):
  BH s n k w λr w'=>Buf w' r (bytesV (wo l n k))/\Ext w w'/\(∀b,iq.at r b->w.heap.size<=b):=by
 apply adX;refine ED (Un hs (by omega)) ?_;rintro r w1 ⟨b1,_,f1,n1⟩;refine Ur (acH n k w1) ?_;rintro _ _ ⟨rfl,rfl⟩;by_cases hf:fitsP n k
 ·simp only[hf,decide_true,Bool.not_true,cond_false];refine Yd (adF hf.1 hf.2.1 _) ?_;rintro v w2 ⟨f2,hv⟩;have hk:=hf.1;refine Ce (X4 (b1.ext f2) hv (λb hb h=>by have:=b1.lt hb;omega) (by rw[lZ];have:=hk.2;omega)) ?_;rintro r' w3 ⟨b3,f3,n3,_⟩;refine⟨by simpa [wo,hf] using b3,(f1.trans f2).new f3 λb hb h=>by have:=n1 b h;omega,λb hb=> ?_⟩;have:=f1.size;have:=f2.size;rcases n3 b hb with h|h
  ·exact n1 b h
  ·omega
 ·simp only[hf,decide_false,Bool.not_false,cond_true];exact⟨by simpa [wo,hf] using b1,f1,n1⟩
end Go.Proofs
end
section
namespace Gp.Bind
open Gp.V4
def keyB (l:List Int):List UInt8:=l.flatMap λn=>beN 8 (n % 18446744073709551616).toNat
def keyS (l:List Int):ByteArray:=⟨⟨keyB l⟩⟩
def In64 (n:Int):Prop:= -9223372036854775808<=n/\n<=9223372036854775807
theorem Z9 (l:List Int):(keyB l).length=l.length * 8:=by
 induction l with
 |nil=>rfl
 |cons n l ih=>
  have:keyB (n::l)=beN 8 (n % 18446744073709551616).toNat++keyB l:=rfl;rw[this,List.length_append,lZ,ih,length_cons];omega
structure Bnd where
 sw:Int
 pr:Int
 ad:Int
 po:Int
 opr:Int
 oad:Int
 opo:Int
 st:Bool
deriving DecidableEq
def Bnd.i (b:Bnd):List Int:=[b.sw,b.pr,b.ad,b.po]
def Bnd.o (b:Bnd):List Int:=[b.opr,b.oad,b.opo]
def Bnd.ok (b:Bnd):Prop:=(∀n∈b.i,In64 n)/\∀n∈b.o,In64 n
abbrev Slots:=List (Option Bnd)
def live:Nat->Slots->List (Int×Bnd)
 |_,[]=>[]
 |i,none::r=>live (i+1) r
 |i,some b::r=>((i:Int),b)::live (i+1) r
theorem lY:∀{S:Slots} {k:Nat} {v:Int} {b:Bnd},(v,b)∈live k S↔∃i:Nat,S[i]? =some (some b)/\v=((k+i:Nat):Int)
 |[],k,v,b=>by simp[live]
 |none::r,k,v,b=>by
  rw[live,lY];constructor
  ·rintro⟨i,h1,h2⟩;exact⟨i+1,by simpa using h1,by omega⟩
  ·rintro⟨i,h1,h2⟩
   cases i with
   |zero=>simp at h1
   |succ i=>exact⟨i,by simpa using h1,by omega⟩
 |some c::r,k,v,b=>by
  rw[live,List.mem_cons,lY];constructor
  ·rintro(h|⟨i,h1,h2⟩)
   ·simp only[Prod.mk.injEq] at h;exact⟨0,by simp[h.2],by omega⟩
   ·exact⟨i+1,by simpa using h1,by omega⟩
  ·rintro⟨i,h1,h2⟩
   cases i with
   |zero=>
    simp only[getElem?_cons_zero,Option.some.injEq] at h1;left;rw[h1,h2];rfl
   |succ i=>right;exact⟨i,by simpa using h1,by omega⟩
theorem lX:∀(S:Slots) (k:Nat),(live k S).length<=S.length
 |[],_=>by simp[live]
 |none::r,k=>by have:=lX r (k+1);simp[live];omega
 |some b::r,k=>by have:=lX r (k+1);simp[live];omega
def freeN:Slots->Option Nat
 |[]=>none
 |none::_=>some 0
 |some _::r=>(freeN r).map (·+1)
theorem yQ:∀{S:Slots} {i:Nat} (k:Nat),freeN S=some i->i<S.length/\S[i]? =some none/\(live k S).length<S.length/\i<=(live k S).length/\(∀j,j<i->∃b,(live k S)[j]? =some (((k+j:Nat):Int),b)/\S[j]? =some (some b))/\
  (∀v b,(live k S)[i]? =some (v,b)->v≠((k+i:Nat):Int))/\∀b,live k (S.set i (some b))=(live k S).take i++(((k+i:Nat):Int),b)::(live k S).drop i
 |[],i,_,h=>by simp[freeN] at h
 |none::r,i,k,h=>by
  simp[freeN] at h;subst h;have hl:=lX r (k+1);refine⟨by simp,rfl,by simp[live];omega,by omega,by omega,λv b hv=> ?_,λb=>by simp[live]⟩;have:=List.mem_of_getElem? hv;rw[live,lY] at this;obtain⟨j,_,hj⟩:=this;omega
 |some c::r,i,k,h=>by
  simp only[freeN,Option.map_eq_some_iff] at h;obtain⟨i',h',rfl⟩:=h;obtain⟨h1,h2,h3,h4,h5,h6,h7⟩:=yQ (k+1) h';refine⟨by simp;omega,by simpa using h2,by simp[live];omega,by simp[live];omega,λj hj=> ?_,λv b hv=> ?_,λb=> ?_⟩
  ·cases j with
   |zero=>exact⟨c,by simp[live],by simp⟩
   |succ j=>
    obtain⟨b,g1,g2⟩:=h5 j (by omega);refine⟨b,?_,by simpa using g2⟩;rw[live,List.getElem?_cons_succ,g1,show k+1+j=k+(j+1) by omega]
  ·rw[live,List.getElem?_cons_succ] at hv;have:=h6 v b hv
   rwa [show k+1+i'=k+(i'+1) by omega] at this
  ·rw[List.set_cons_succ,live,h7 b,live,List.take_succ_cons,List.drop_succ_cons,show k+1+i'=k+(i'+1) by omega];rfl
theorem CW:∀{S:Slots} {i:Nat} {b:Bnd} (k:Nat),S[i]? =some (some b)->(live k (S.set i none)).length+1=(live k S).length
 |[],_,_,_,h=>by simp at h
 |c::r,0,b,k,h=>by
  simp at h;subst h;simp[live]
 |none::r,i+1,b,k,h=>by
  rw[List.set_cons_succ,live,live];exact CW (k+1) (by simpa using h)
 |some c::r,i+1,b,k,h=>by
  rw[List.set_cons_succ,live,live,length_cons,length_cons,CW (k+1) (by simpa using h)]
structure GoodB (S:Slots) (Mi Mo:ByteArray->Option Int):Prop where
 i:∀k v,Mi k=some v↔∃(j:Nat) (b:Bnd),S[j]? =some (some b)/\keyS b.i=k/\v=(j:Int)
 o:∀k v,Mo k=some v↔∃(j:Nat) (b:Bnd),S[j]? =some (some b)/\keyS b.o=k/\v=(j:Int)
 ok:∀(j:Nat) (b:Bnd),S[j]? =some (some b)->b.ok
def upd (M:ByteArray->Option Int) (k:ByteArray) (v:Option Int):ByteArray->Option Int:=λx=>if x=k then v else M x
theorem jG {S:Slots} {i j:Nat} {v:Option Bnd} (hi:i<S.length):(S.set i v)[j]? =if i=j then some v else S[j]? :=by
 rw[List.getElem?_set];split
 ·rename_i h;subst h;simp[]
 ·rfl
theorem GoodB.add {S:Slots} {Mi Mo:ByteArray->Option Int} (h:GoodB S Mi Mo) {i:Nat} {b:Bnd} (hi:S[i]? =some none) (hb:b.ok) (h1:Mi (keyS b.i)=none) (h2:Mo (keyS b.o)=none):
  GoodB (S.set i (some b)) (upd Mi (keyS b.i) (some i)) (upd Mo (keyS b.o) (some i)):=by
 have hl:i<S.length:=(List.getElem?_eq_some_iff.1 hi).1;refine⟨λk v=> ?_,λk v=> ?_,λj c hc=> ?_⟩
 ·unfold upd;by_cases hk:k=keyS b.i
  ·rw[if_pos hk];constructor
   ·intro e;exact⟨i,b,by rw[jG hl,if_pos rfl],hk.symm,by simpa using e.symm⟩
   ·rintro⟨j,c,hc,hk2,rfl⟩;rw[jG hl] at hc;split at hc
    ·rename_i e;subst e;rfl
    ·have:=(h.i k j).2 ⟨j,c,hc,hk2,rfl⟩;rw[hk,h1] at this;cases this
  ·rw[if_neg hk,h.i];constructor
   ·rintro⟨j,c,hc,hk2,rfl⟩;refine⟨j,c,?_,hk2,rfl⟩;rw[jG hl,if_neg]
    ·exact hc
    ·rintro rfl;rw[hi] at hc;cases hc
   ·rintro⟨j,c,hc,hk2,rfl⟩;rw[jG hl] at hc;split at hc
    ·rename_i e;subst e;simp only[Option.some.injEq] at hc;subst hc;exact absurd hk2.symm hk
    ·exact⟨j,c,hc,hk2,rfl⟩
 ·unfold upd;by_cases hk:k=keyS b.o
  ·rw[if_pos hk];constructor
   ·intro e;exact⟨i,b,by rw[jG hl,if_pos rfl],hk.symm,by simpa using e.symm⟩
   ·rintro⟨j,c,hc,hk2,rfl⟩;rw[jG hl] at hc;split at hc
    ·rename_i e;subst e;rfl
    ·have:=(h.o k j).2 ⟨j,c,hc,hk2,rfl⟩;rw[hk,h2] at this;cases this
  ·rw[if_neg hk,h.o];constructor
   ·rintro⟨j,c,hc,hk2,rfl⟩;refine⟨j,c,?_,hk2,rfl⟩;rw[jG hl,if_neg]
    ·exact hc
    ·rintro rfl;rw[hi] at hc;cases hc
   ·rintro⟨j,c,hc,hk2,rfl⟩;rw[jG hl] at hc;split at hc
    ·rename_i e;subst e;simp only[Option.some.injEq] at hc;subst hc;exact absurd hk2.symm hk
    ·exact⟨j,c,hc,hk2,rfl⟩
 ·rw[jG hl] at hc;split at hc
  ·simp only[Option.some.injEq] at hc;subst hc;exact hb
  ·exact h.ok j c hc
theorem GoodB.one {S:Slots} {Mi Mo:ByteArray->Option Int} (h:GoodB S Mi Mo) {i j:Nat} {b c:Bnd} (hi:S[i]? =some (some b)) (hj:S[j]? =some (some c)) (e:keyS b.i=keyS c.i\/keyS b.o=keyS c.o):i=j:=by
 rcases e with e|e
 ·have h1:=(h.i _ i).2 ⟨i,b,hi,rfl,rfl⟩;have h2:=(h.i _ j).2 ⟨j,c,hj,rfl,rfl⟩;rw[e,h2] at h1;simp at h1;omega
 ·have h1:=(h.o _ i).2 ⟨i,b,hi,rfl,rfl⟩;have h2:=(h.o _ j).2 ⟨j,c,hj,rfl,rfl⟩;rw[e,h2] at h1;simp at h1;omega
theorem GoodB.remove {S:Slots} {Mi Mo:ByteArray->Option Int} (h:GoodB S Mi Mo) {i:Nat} {b:Bnd} (hi:S[i]? =some (some b)):
  GoodB (S.set i none) (upd Mi (keyS b.i) none) (upd Mo (keyS b.o) none):=by
 have hl:i<S.length:=(List.getElem?_eq_some_iff.1 hi).1;refine⟨λk v=> ?_,λk v=> ?_,λj c hc=> ?_⟩
 ·unfold upd;by_cases hk:k=keyS b.i
  ·rw[if_pos hk];constructor
   ·intro e;cases e
   ·rintro⟨j,c,hc,hk2,rfl⟩;rw[jG hl] at hc;split at hc
    ·cases hc
    ·rename_i e;exact absurd (h.one hi hc (.inl (by rw[hk2,hk]))) e
  ·rw[if_neg hk,h.i];constructor
   ·rintro⟨j,c,hc,hk2,rfl⟩;refine⟨j,c,?_,hk2,rfl⟩;rw[jG hl,if_neg]
    ·exact hc
    ·rintro rfl;rw[hi] at hc;simp only[Option.some.injEq] at hc;subst hc;exact hk hk2.symm
   ·rintro⟨j,c,hc,hk2,rfl⟩;rw[jG hl] at hc;split at hc
    ·cases hc
    ·exact⟨j,c,hc,hk2,rfl⟩
 ·unfold upd;by_cases hk:k=keyS b.o
  ·rw[if_pos hk];constructor
   ·intro e;cases e
   ·rintro⟨j,c,hc,hk2,rfl⟩;rw[jG hl] at hc;split at hc
    ·cases hc
    ·rename_i e;exact absurd (h.one hi hc (.inr (by rw[hk2,hk]))) e
  ·rw[if_neg hk,h.o];constructor
   ·rintro⟨j,c,hc,hk2,rfl⟩;refine⟨j,c,?_,hk2,rfl⟩;rw[jG hl,if_neg]
    ·exact hc
    ·rintro rfl;rw[hi] at hc;simp only[Option.some.injEq] at hc;subst hc;exact hk hk2.symm
   ·rintro⟨j,c,hc,hk2,rfl⟩;rw[jG hl] at hc;split at hc
    ·cases hc
    ·exact⟨j,c,hc,hk2,rfl⟩
 ·rw[jG hl] at hc;split at hc
  ·cases hc
  ·exact h.ok j c hc
def getS (S:Slots) (id:Int):Option Bnd:=if 0<=id then (S[id.toNat]?).join else none
theorem zh {S:Slots} {id:Int} {b:Bnd}:getS S id=some b↔0<=id/\S[id.toNat]? =some (some b):=by
 unfold getS;split
 ·rename_i h;rw[Option.join_eq_some_iff];simp[h]
 ·rename_i h;simp[h]
end Gp.Bind
end
