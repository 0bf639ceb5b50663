import Derived.Test.YtfndjkoiappemaaGreatG44
import Derived.Test.YtfndjkoiappemaaGreatW3
import Derived.Test.YtfndjkoiappemaaGreatW2
section
namespace Gp.Hash
abbrev uY:=Option (ByteArray×Int)
def cy (m a:Nat):Nat:=if a<m then a else a - m
def used (L:List uY) (i:Nat):Prop:=∃e:ByteArray×Int,L[i]? =some (some e)
def Has (L:List uY) (k:ByteArray) (n:Int):Prop:=∃i:Nat,L[i]? =some (some (k,n))
structure T (H:ByteArray->Nat) (L:List uY) (X:Nat->Nat->Prop):Prop where
 dist:∀(i j:Nat) (k:ByteArray) (n n':Int),L[i]? =some (some (k,n))->L[j]? =some (some (k,n'))->i=j
 reach:∀(i:Nat) (k:ByteArray) (n:Int),L[i]? =some (some (k,n))->∃D,D<L.length/\cy L.length (H k+D)=i/\∀d,d<D->used L (cy L.length (H k+d))\/X i (cy L.length (H k+d))
def Stop (L:List uY) (h:Nat) (k:ByteArray) (d:Nat):Prop:=L[cy L.length (h+d)]? =some none\/∃n,L[cy L.length (h+d)]? =some (some (k,n))
structure First (L:List uY) (h:Nat) (k:ByteArray) (d:Nat):Prop where
 lt:d<L.length
 stop:Stop L h k d
 first:∀d',d'<d->¬Stop L h k d'
section
variable {H:ByteArray->Nat} {L:List uY} {X:Nat->Nat->Prop} {k:ByteArray} {n:Int}
theorem Y7 (m a:Nat):(a<m/\cy m a=a)\/(m<=a/\cy m a=a - m):=by
 unfold cy;split<;>omega
theorem Jv {m a:Nat} (h:a<2 * m):cy m a<m:=by unfold cy;split<;>omega
theorem WJ {m h d d':Nat} (hh:h<m) (hd:d<m) (hd':d'<m) (e:cy m (h+d)=cy m (h+d')):d=d':=by
 unfold cy at e;split at e<;>split at e<;>omega
theorem QO (L:List uY) {i:Nat} (h:i<L.length):L[i]? =some none\/∃k n,L[i]? =some (some (k,n)):=by
 rw [List.getElem?_eq_getElem h]
 cases hx:L[i] with
 |none=>exact .inl rfl
 |some e=>exact .inr ⟨e.1,e.2,rfl⟩
theorem Ui (t:T H L X) (hX:∀i p,¬X i p) (hh:H k<L.length) {i:Nat} (hi:L[i]? =some (some (k,n))) {d:Nat} (f:First L (H k) k d):cy L.length (H k+d)=i:=by
 obtain⟨D,hD,hc,hu⟩:=t.reach i k n hi
 have hs:Stop L (H k) k D:= .inr ⟨n,by rw [hc];exact hi⟩
 have h1:¬D<d:=fun hlt=>f.first D hlt hs
 by_cases h2:d<D
 ·rcases hu d h2 with ⟨e,he⟩|hx
  ·rcases f.stop with h0|⟨n',h0⟩
   ·rw [he] at h0;cases h0
   ·exact t.dist _ _ _ _ _ h0 hi
  ·exact absurd hx (hX _ _)
 ·have:d=D:=by omega
  rw [this,hc]
theorem Iq (hno:∀n,¬Has L k n) {h:Nat} (hh:h<L.length) {d:Nat} (f:First L h k d):L[cy L.length (h+d)]? =some none/\∀d',d'<d->used L (cy L.length (h+d')):=by
 refine⟨?_,fun d' hd=> ?_⟩
 ·rcases f.stop with h0|⟨n',h0⟩
  ·exact h0
  ·exact absurd ⟨_,h0⟩ (hno n')
 ·have hlt:=f.lt
  rcases QO L (Jv (m:=L.length) (a:=h+d') (by omega)) with h0|⟨k',n',h0⟩
  ·exact absurd (.inl h0) (f.first d' hd)
  ·exact⟨_,h0⟩
theorem fU (L:List uY) (q i:Nat) (e:uY):(L.set q e)[i]? =if q=i/\q<L.length then some e else L[i]? :=by
 rw [List.getElem?_set]
 by_cases h1:q=i
 ·subst h1
  by_cases h2:q<L.length
  ·simp [h2]
  ·simp [h2]
 ·simp [h1]
theorem VB {q i:Nat} {e:uY} (hu:used L i) (hn:L[q]? =some none):used (L.set q e) i:=by
 obtain⟨x,hx⟩:=hu
 refine⟨x,?_⟩
 rw [fU,if_neg]
 ·exact hx
 ·rintro⟨rfl,_⟩
  rw [hn] at hx;cases hx
theorem insert (t:T H L X) (hno:∀n,¬Has L k n) (hh:H k<L.length) {d:Nat} (f:First L (H k) k d):T H (L.set (cy L.length (H k+d)) (some (k,n))) X:=by
 obtain⟨hn,hu⟩:=Iq hno hh f
 have hq:cy L.length (H k+d)<L.length:=(List.getElem?_eq_some_iff.1 hn).1
 refine⟨fun i j k' n1 n2 hi hj=> ?_,fun i k' n1 hi=> ?_⟩
 ·rw [fU] at hi hj
  split at hi<;>split at hj
  ·rename_i h1 h2;rw [<- h1.1,<- h2.1]
  ·cases hi;exact absurd ⟨_,hj⟩ (hno n2)
  ·cases hj;exact absurd ⟨_,hi⟩ (hno n1)
  ·exact t.dist _ _ _ _ _ hi hj
 ·rw [fU] at hi
  simp only [List.length_set]
  split at hi
  ·rename_i h1
   cases hi
   exact⟨d,f.lt,h1.1,fun d' hd=> .inl (VB (hu d' hd) hn)⟩
  ·obtain⟨D,hD,hc,hx⟩:=t.reach i k' n1 hi
   exact⟨D,hD,hc,fun d' hd=>(hx d' hd).imp (fun h=>VB h hn) id⟩
theorem C_ {q:Nat} (hn:L[q]? =some none) (hno:∀n,¬Has L k n) (k':ByteArray) (n':Int):Has (L.set q (some (k,n))) k' n'↔(k'=k/\n'=n)\/(k'≠k/\Has L k' n'):=by
 have hq:q<L.length:=(List.getElem?_eq_some_iff.1 hn).1
 constructor
 ·rintro⟨i,hi⟩
  rw [fU] at hi
  split at hi
  ·cases hi;exact .inl ⟨rfl,rfl⟩
  ·refine .inr ⟨?_,i,hi⟩
   rintro rfl
   exact hno _ ⟨i,hi⟩
 ·rintro(⟨rfl,rfl⟩|⟨hk,i,hi⟩)
  ·exact⟨q,by rw [fU,if_pos ⟨rfl,hq⟩]⟩
  ·refine⟨i,?_⟩
   rw [fU,if_neg]
   ·exact hi
   ·rintro⟨rfl,_⟩
    rw [hn] at hi;cases hi
theorem update (t:T H L X) {q:Nat} {n0:Int} (hq:L[q]? =some (some (k,n0))):T H (L.set q (some (k,n))) X:=by
 have hlt:q<L.length:=(List.getElem?_eq_some_iff.1 hq).1
 have old:∀(i:Nat) (k':ByteArray) (n1:Int),(L.set q (some (k,n)))[i]? =some (some (k',n1))->∃n2:Int,L[i]? =some (some (k',n2)):=by
  intro i k' n1 hi
  rw [fU] at hi
  split at hi
  ·rename_i h1;cases hi;exact⟨n0,by rw [<- h1.1];exact hq⟩
  ·exact⟨n1,hi⟩
 have us:∀i,used L i->used (L.set q (some (k,n))) i:=by
  rintro i ⟨e,he⟩
  by_cases h:q=i
  ·exact⟨_,by rw [fU,if_pos ⟨h,hlt⟩]⟩
  ·exact⟨e,by rw [fU,if_neg (fun x=>h x.1)];exact he⟩
 refine⟨fun i j k' n1 n2 hi hj=> ?_,fun i k' n1 hi=> ?_⟩
 ·obtain⟨_,h1⟩:=old _ _ _ hi
  obtain⟨_,h2⟩:=old _ _ _ hj
  exact t.dist _ _ _ _ _ h1 h2
 ·obtain⟨_,h1⟩:=old _ _ _ hi
  simp only [List.length_set]
  obtain⟨D,hD,hc,hx⟩:=t.reach i k' _ h1
  exact⟨D,hD,hc,fun d' hd=>(hx d' hd).imp (us _) id⟩
theorem OA (t:T H L X) {q:Nat} {n0:Int} (hq:L[q]? =some (some (k,n0))) (k':ByteArray) (n':Int):Has (L.set q (some (k,n))) k' n'↔(k'=k/\n'=n)\/(k'≠k/\Has L k' n'):=by
 have hlt:q<L.length:=(List.getElem?_eq_some_iff.1 hq).1
 constructor
 ·rintro⟨i,hi⟩
  rw [fU] at hi
  split at hi
  ·cases hi;exact .inl ⟨rfl,rfl⟩
  ·rename_i h1
   refine .inr ⟨?_,i,hi⟩
   rintro rfl
   exact h1 ⟨t.dist _ _ _ _ _ hq hi,hlt⟩
 ·rintro(⟨rfl,rfl⟩|⟨hk,i,hi⟩)
  ·exact⟨q,by rw [fU,if_pos ⟨rfl,hlt⟩]⟩
  ·refine⟨i,?_⟩
   rw [fU,if_neg]
   ·exact hi
   ·rintro⟨rfl,_⟩
    rw [hq] at hi;cases hi;exact hk rfl
def off (m at_ i:Nat):Nat:=if at_<=i then i - at_ else i+m - at_
theorem aa2 (m at_ i:Nat):(at_<=i/\off m at_ i=i - at_)\/(i<at_/\off m at_ i=i+m - at_):=by
 unfold off;split<;>omega
def Xj (m at_ e j i p:Nat):Prop:=j<=off m at_ i/\off m at_ i<e/\off m at_ p<j
structure Zone (L:List uY) (at_ e j:Nat):Prop where
 at_lt:at_<L.length
 e1:e<L.length
 je:j<=e
 full:∀d,j<=d->d<e->used L (cy L.length (at_+d))
 free:L[cy L.length (at_+e)]? =some none
theorem adw (m at_ e i p:Nat):¬Xj m at_ e e i p:=fun h=>by have:=h.1;have:=h.2.1;omega
theorem way {m at_ e j h d D:Nat} (hat:at_<m) (he:e<m) (hje:j<e) (hh:h<m) (hD:D<m) (hd:d<D) (hp:cy m (at_+j)=cy m (h+d))
  (hz:¬(j<=off m at_ (cy m (h+D))/\off m at_ (cy m (h+D))<e)):(cy m (at_+e)=cy m (h+(d+(e - j)))/\d+(e - j)<D)\/cy m (at_+e)=cy m (h+D):=by
 have c1:=Y7 m (at_+j)
 have c2:=Y7 m (h+d)
 have c3:=Y7 m (h+D)
 have c4:=Y7 m (at_+e)
 have c5:=Y7 m (h+(d+(e - j)))
 have o1:=aa2 m at_ (cy m (h+D))
 omega
theorem clear {at_ e j:Nat} (z:Zone L at_ e j) (hj:j<e) (hH:∀k,H k<L.length) (t:T H L (Xj L.length at_ e j)):T H (L.set (cy L.length (at_+j)) none) (Xj L.length at_ e (j+1)):=by
 have hat:=z.at_lt
 have he:=z.e1
 have hp:cy L.length (at_+j)<L.length:=Jv (by omega)
 have old:∀(i:Nat) (k':ByteArray) (n1:Int),(L.set (cy L.length (at_+j)) none)[i]? =some (some (k',n1))->L[i]? =some (some (k',n1))/\cy L.length (at_+j)≠i:=by
  intro i k' n1 hi
  rw [fU] at hi
  split at hi
  ·cases hi
  ·rename_i h1;exact⟨hi,fun h=>h1 ⟨h,hp⟩⟩
 refine⟨fun i j' k' n1 n2 hi hj'=>t.dist _ _ _ _ _ (old _ _ _ hi).1 (old _ _ _ hj').1,fun i k' n1 hi=> ?_⟩
 obtain⟨hi,hne⟩:=old _ _ _ hi
 simp only [List.length_set]
 obtain⟨D,hD,hc,hx⟩:=t.reach i k' n1 hi
 have hh:=hH k'
 have hlt:i<L.length:=(List.getElem?_eq_some_iff.1 hi).1
 have hoff:off L.length at_ i≠j:=by
  intro h;apply hne;unfold off at h;unfold cy;split at h<;>split<;>omega
 refine⟨D,hD,hc,fun d hd=> ?_⟩
 by_cases hpd:cy L.length (at_+j)=cy L.length (H k'+d)
 ·
  right
  have o1:off L.length at_ (cy L.length (H k'+d))=j:=by rw [<- hpd];unfold off cy;split<;>split<;>omega
  refine⟨?_,?_,by omega⟩
  all_goals
   by_cases hz:j<=off L.length at_ i/\off L.length at_ i<e
   ·omega
   ·exfalso
    have hfree:=z.free
    have key:=way hat he hj hh hD hd hpd (by rw [hc];exact hz)
    rcases key with ⟨k1,k2⟩|k1
    ·rcases hx _ k2 with ⟨x,hu⟩|hX
     ·rw [<- k1,hfree] at hu;cases hu
     ·exact hz ⟨hX.1,hX.2.1⟩
    ·rw [k1,hc,hi] at hfree;cases hfree
 ·rcases hx d hd with ⟨x,hu⟩|hX
  ·exact .inl ⟨x,by rw [fU,if_neg (fun h=>hpd h.1)];exact hu⟩
  ·exact .inr ⟨by have:=hX.1;omega,hX.2.1,by have:=hX.2.2;omega⟩
theorem least {p:Nat->Prop} (h:∃n,p n):∃n,p n/\∀m,m<n->¬p m:=by
 obtain⟨n,hn⟩:=h
 induction n using Nat.strongRecOn with
 |_ n ih=>
  by_cases hx:∃m,m<n/\p m
  ·obtain⟨m,hm,hp⟩:=hx
   exact ih m hm hp
  ·exact⟨n,hn,fun m hm hp=>hx ⟨m,hm,hp⟩⟩
theorem ZK {h:Nat} (hs:∃d,d<L.length/\Stop L h k d):∃d,First L h k d:=by
 obtain⟨d,⟨h1,h2⟩,h3⟩:=least hs
 exact⟨d,h1,h2,fun d' hd hx=>h3 d' hd ⟨by omega,hx⟩⟩
theorem aaI {m h i:Nat} (hh:h<m) (hi:i<m):off m h i<m/\cy m (h+off m h i)=i:=by
 have c1:=Y7 m (h+off m h i)
 have o1:=aa2 m h i
 omega
theorem CO {h i:Nat} (hh:h<L.length) (hi:L[i]? =some none):∃d,d<L.length/\Stop L h k d:=by
 have hlt:i<L.length:=(List.getElem?_eq_some_iff.1 hi).1
 obtain⟨h1,h2⟩:=aaI hh hlt
 exact⟨_,h1,.inl (by rw [h2];exact hi)⟩
def cnt:List uY->Nat
 |[]=>0
 |none::r=>cnt r
 |some _::r=>cnt r+1
theorem cnt_le:∀L:List uY,cnt L<=L.length
 |[]=>Nat.le_refl _
 |none::r=>by have:=cnt_le r;simp only [cnt,List.length_cons];omega
 |some _::r=>by have:=cnt_le r;simp only [cnt,List.length_cons];omega
theorem Nh:∀{L:List uY},cnt L<L.length->∃i:Nat,L[i]? =some none
 |[],h=>by simp [cnt] at h
 |none::_,_=>⟨0,rfl⟩
 |some _::r,h=>by
  obtain⟨i,hi⟩:=Nh (L:=r) (by simp only [cnt,List.length_cons] at h;omega)
  exact⟨i+1,by simpa using hi⟩
theorem FH:∀{L:List uY} {i:Nat} {e:ByteArray×Int},L[i]? =some none->cnt (L.set i (some e))=cnt L+1
 |[],_,_,h=>by simp at h
 |x::r,0,e,h=>by simp at h;subst h;rfl
 |x::r,i+1,e,h=>by
  have:=FH (L:=r) (i:=i) (e:=e) (by simpa using h)
  cases x<;>simp only [List.set_cons_succ,cnt,this]
theorem JL:∀{L:List uY} {i:Nat} {e:ByteArray×Int},L[i]? =some (some e)->cnt (L.set i none)+1=cnt L
 |[],_,_,h=>by simp at h
 |x::r,0,e,h=>by simp at h;subst h;rfl
 |x::r,i+1,e,h=>by
  have:=JL (L:=r) (i:=i) (e:=e) (by simpa using h)
  cases x<;>simp only [List.set_cons_succ,cnt]<;>omega
theorem Jj:∀{L:List uY} {i:Nat} {e e':ByteArray×Int},L[i]? =some (some e)->cnt (L.set i (some e'))=cnt L
 |[],_,_,_,h=>by simp at h
 |x::r,0,_,_,h=>by simp at h;subst h;rfl
 |x::r,i+1,e,e',h=>by
  have:=Jj (L:=r) (i:=i) (e:=e) (e':=e') (by simpa using h)
  cases x<;>simp only [List.set_cons_succ,cnt,this]
theorem aa1 (n:Nat):cnt (List.replicate n none)=0:=by
 induction n with
 |zero=>rfl
 |succ n ih=>rw [List.replicate_succ];exact ih
theorem Kq (t:T H L X) {q:Nat} {n0:Int} (hq:L[q]? =some (some (k,n0))) (k':ByteArray) (n':Int):Has (L.set q none) k' n'↔k'≠k/\Has L k' n':=by
 have hlt:q<L.length:=(List.getElem?_eq_some_iff.1 hq).1
 constructor
 ·rintro⟨i,hi⟩
  rw [fU] at hi
  split at hi
  ·cases hi
  ·rename_i h1
   refine⟨?_,i,hi⟩
   rintro rfl
   exact h1 ⟨t.dist _ _ _ _ _ hq hi,hlt⟩
 ·rintro⟨hk,i,hi⟩
  refine⟨i,?_⟩
  rw [fU,if_neg]
  ·exact hi
  ·rintro⟨rfl,_⟩
   rw [hq] at hi;cases hi;exact hk rfl
theorem abP {at_:Nat} (ha:used L at_) (hc:cnt L<L.length):∃e,0<e/\Zone L at_ e 0:=by
 obtain⟨x,hx⟩:=ha
 have hat:at_<L.length:=(List.getElem?_eq_some_iff.1 hx).1
 obtain⟨i,hi⟩:=Nh hc
 have hlt:i<L.length:=(List.getElem?_eq_some_iff.1 hi).1
 obtain⟨h1,h2⟩:=aaI hat hlt
 obtain⟨e,⟨h3,h4⟩,h5⟩:=least (p:=fun e=>e<L.length/\L[cy L.length (at_+e)]? =some none) ⟨_,h1,by rw [h2];exact hi⟩
 have h0:0<e:=by
  rcases Nat.eq_zero_or_pos e with h|h
  ·subst h
   have:cy L.length (at_+0)=at_:=by unfold cy;simp [hat]
   rw [this,hx] at h4;cases h4
  ·exact h
 refine⟨e,h0,hat,h3,Nat.zero_le _,fun d _ hd=> ?_,h4⟩
 rcases QO L (Jv (m:=L.length) (a:=at_+d) (by omega)) with h|⟨k',n',h⟩
 ·exact absurd ⟨by omega,h⟩ (h5 d hd)
 ·exact⟨_,h⟩
theorem NH {at_ e j:Nat} (z:Zone L at_ e j) (hj:j<e):Zone (L.set (cy L.length (at_+j)) none) at_ e (j+1):=by
 have hat:=z.at_lt
 have he:=z.e1
 refine⟨by simpa using hat,by simpa using he,hj,fun d h1 h2=> ?_,?_⟩
 ·obtain⟨x,hx⟩:=z.full d (by omega) h2
  refine⟨x,?_⟩
  rw [List.length_set,fU,if_neg]
  ·exact hx
  ·rintro⟨h,_⟩
   have:=WJ hat (by omega) (by omega) h
   omega
 ·rw [List.length_set,fU,if_neg]
  ·exact z.free
  ·rintro⟨h,_⟩
   have:=WJ hat (by omega) (by omega) h
   omega
theorem YF {at_ e j:Nat} (z:Zone L at_ e j) (hj:j<e) (hH:∀k,H k<L.length) (t:T H L (Xj L.length at_ e j)) {n0:Int} (h0:L[cy L.length (at_+j)]? =some (some (k,n0))):
  (∃d,First (L.set (cy L.length (at_+j)) none) (H k) k d)/\∀d,First (L.set (cy L.length (at_+j)) none) (H k) k d->
   Zone ((L.set (cy L.length (at_+j)) none).set (cy L.length (H k+d)) (some (k,n0))) at_ e (j+1)/\
   T H ((L.set (cy L.length (at_+j)) none).set (cy L.length (H k+d)) (some (k,n0))) (Xj L.length at_ e (j+1))/\
   (∀k' n',Has ((L.set (cy L.length (at_+j)) none).set (cy L.length (H k+d)) (some (k,n0))) k' n'↔Has L k' n')/\
   cnt ((L.set (cy L.length (at_+j)) none).set (cy L.length (H k+d)) (some (k,n0)))=cnt L:=by
 have hat:=z.at_lt
 have he:=z.e1
 have hp0:cy L.length (at_+j)<L.length:=Jv (by omega)
 have hln:(L.set (cy L.length (at_+j)) none).length=L.length:=List.length_set
 have hfree:(L.set (cy L.length (at_+j)) none)[cy L.length (at_+j)]? =some none:=by rw [fU,if_pos ⟨rfl,hp0⟩]
 refine⟨ZK (CO (by rw [hln];exact hH k) hfree),fun d f=> ?_⟩
 have t1:=clear z hj hH t
 have z1:=NH z hj
 have hno:∀n,¬Has (L.set (cy L.length (at_+j)) none) k n:=fun n h=>((Kq t h0 k n).1 h).1 rfl
 have hfr:=Iq hno (by rw [hln];exact hH k) f
 have ins:=insert (n:=n0) t1 hno (by rw [hln];exact hH k) f
 rw [hln] at hfr ins
 have hd:d<L.length:=by have:=f.lt;rwa [hln] at this
 have hq:=Jv (m:=L.length) (a:=H k+d) (by have:=hH k;omega)
 have hoff:off L.length at_ (cy L.length (H k+d))<=j:=by
  obtain⟨D,hD,hc,hx⟩:=t.reach _ _ _ h0
  have hle:¬D<d:=fun hlt=>by
   obtain⟨x,hx⟩:=hfr.2 D hlt
   rw [hc,hfree] at hx;cases hx
  by_cases hDd:d=D
  ·rw [hDd,hc]
   have c1:=Y7 L.length (at_+j)
   have o1:=aa2 L.length at_ (cy L.length (at_+j))
   omega
  ·rcases hx d (by omega) with ⟨x,hu⟩|hX
   ·have:=hfr.1
    rw [fU,if_neg] at this
    ·rw [hu] at this;cases this
    ·rintro⟨h,_⟩
     rw [<- hc] at h
     have:=WJ (hH k) hD hd h
     omega
   ·have:=hX.2.2;omega
 have keep:∀c,j<c->c<=e->¬(cy L.length (H k+d)=cy L.length (at_+c)/\cy L.length (H k+d)<(L.set (cy L.length (at_+j)) none).length):=by
  rintro c h1 h2 ⟨h,_⟩
  rw [h] at hoff
  have c1:=Y7 L.length (at_+c)
  have o1:=aa2 L.length at_ (cy L.length (at_+c))
  omega
 refine⟨⟨by simpa using hat,by simpa using he,hj,fun c h1 h2=> ?_,?_⟩,ins,fun k' n'=> ?_,?_⟩
 ·obtain⟨x,hx⟩:=z1.full c h1 h2
  rw [hln] at hx
  refine⟨x,?_⟩
  simp only [List.length_set]
  rw [fU,if_neg (keep c (by omega) (by omega))]
  exact hx
 ·have:=z1.free
  rw [hln] at this
  simp only [List.length_set]
  rw [fU,if_neg (keep e hj (Nat.le_refl _))]
  exact this
 ·rw [C_ hfr.1 hno,Kq t h0]
  constructor
  ·rintro(⟨rfl,rfl⟩|⟨_,_,h⟩)
   ·exact⟨_,h0⟩
   ·exact h
  ·rintro⟨i,hi⟩
   by_cases hk:k'=k
   ·subst hk
    have:=t.dist _ _ _ _ _ h0 hi
    rw [<- this,h0] at hi
    cases hi
    exact .inl ⟨rfl,rfl⟩
   ·exact .inr ⟨hk,hk,i,hi⟩
 ·rw [FH hfr.1]
  exact JL h0
end
end Gp.Hash
end
section
namespace Go.Proofs
open Gp Gp.Hash
theorem Xw {m from_ i:Nat} (hm:m<=2^48) (hf:from_<m) (hi:i<m):Int.tmod (IntKind.i64.wrap ((from_:Int)+(i:Int))) (m:Int)=((cy m (from_+i):Nat):Int):=by
 rw [wrap_i64 (by omega) (by omega),Int.tmod_eq_emod_of_nonneg (by omega)]
 have c:=Y7 m (from_+i)
 rcases c with ⟨h1,h2⟩|⟨h1,h2⟩
 ·rw [h2,Int.emod_eq_of_lt (by omega) (by omega)];omega
 ·rw [h2]
  have:((from_:Int)+(i:Int))=((from_+i - m:Nat):Int)+(m:Int):=by omega
  rw [this,Int.add_emod_right,Int.emod_eq_of_lt (by omega) (by omega)]
theorem Um {w:World} {f0 f1 b from_ m:Nat} {body:Nat->DC [.one (.int .i64)]->World->(Exit->World->Prop)->Prop} {Kn Kr:World->Prop} {Kx:List (Nat×(World->Prop))}
  (I:Nat->World->Prop) (J:Exit->World->Prop) (hm:m<=2^48) (hf:from_<m)
  (h0:∀w1,(∀S,fD w w1 S)->w1.heap[w.heap.size]? =some (.deferred (some []))->w1.heap.size=w.heap.size+2->I 0 w1)
  (hI:∀i W,I i W->Row W f0 [.pointer (some ⟨b,0,none⟩)]/\Row W f1 [.int .i64 from_]/\∃s,W.cell? ⟨b,0,none⟩=some (.slice s m m))
  (stI:∀i W W',I i W->fD W W' (·=w.heap.size+1)->I i W')
  (stJ:∀e W W',J e W->fD W W' (·=w.heap.size+1)->J e W')
  (jmp:∀e W,J e W->e= .ret\/∃id,e= .exit id)
  (step:∀i W Kb,i<m->I i W->(∀W',W'.heap[w.heap.size+1]? =(fB W (w.heap.size+1)).heap[w.heap.size+1]? ->I (i+1) W'->Kb .normal W')->
   (∀e W',W'.heap[w.heap.size+1]? =(fB W (w.heap.size+1)).heap[w.heap.size+1]? ->J e W'->Kb e W')->body (w.heap.size+1) (((cy m (from_+i):Nat):Int),()) W Kb)
  (fn:∀W,I m W->Kn W) (fr:∀W,J .ret W->Kr W) (fx:∀id W,J (.exit id) W->Oc id Kx W):
  EC Tryz.prog none [.one (.int .i64)] (Value.func (.func yF) #[] #[(Value.pointer (some ⟨f0,0,none⟩)),(Value.pointer (some ⟨f1,0,none⟩))]) w body Kn Kr Kx:=by
 refine⟨fun l₀ h=>(by cases h),by kernel_rfl,fun l L w1 ctx=> ?_⟩
 have hl:l=w.heap.size+1:=ctx.at_
 subst hl
 refine Calls.mono (Ee (a0:= .func (.yield (w.heap.size+1)) #[] #[]) (f0:=⟨f0,0,none⟩) (f1:=⟨f1,0,none⟩)
  (K:=fun w2=>∃st p,L st p w2/\st≠.busy/\ZO Kn Kr Kx p (iD w2 (w.heap.size+1) .exhausted p)) ?_) (fun e w' h=>h)
 have i0:=h0 w1 (fun S=>⟨by have:=ctx.size;omega,fun b hb _=>ctx.old b hb,ctx.io⟩) (ctx.marks rfl) ctx.size
 obtain⟨r0,r1,s,hs⟩:=hI _ _ i0
 simp only [sx,r0.cell,hs]
 refine fE (fun st W=>(∃i:Nat,i<=m/\st.1=i/\I i W)/\L .ready none W) (fun st _=>m - st.1.toNat) ⟨⟨0,by omega,rfl,i0⟩,ctx.ready⟩ ?_
 rintro⟨x,⟨⟩⟩ W ⟨⟨i,hi,rfl,hIi⟩,hL⟩ next hnext
 by_cases hlt:i<m
 ·have hlt':((i:Int)<(m:Int)):=by omega
  simp only [hlt',decide_true,cond_true]
  have hId:=stI _ _ _ hIi (fD.drew W _)
  have hLd:L .ready none W.drew:=ctx.frame _ _ _ _ hL rfl
  obtain⟨r0,r1,s,hs⟩:=hI _ _ hId
  simp only [vU,List.getElem?_cons_zero,fA,fG,fC,ru,r0.cell,r1.cell,hs]
  refine⟨by omega,?_⟩
  rw [Xw hm hf hlt]
  refine ctx.yield (((cy m (from_+i):Nat):Int),()) W.drew none _ hLd (step i W.drew _ hlt hId ?_ ?_)
  ·intro W' hh hI'
   refine⟨ctx.frame _ _ _ _ (ctx.busy _ _ hLd) hh,none,rfl,true,rfl,?_⟩
   simp only [Bool.not_true,cond_false]
   refine hnext _ _ ⟨⟨i+1,by omega,?_,stI _ _ _ hI' (fD.iD _ _ _ _)⟩,ctx.set _ _ _ _ _ (ctx.frame _ _ _ _ (ctx.busy _ _ hLd) hh)⟩ ?_
   ·simp only;rw [wrap_i64 (by omega) (by omega)];omega
   ·simp only;rw [wrap_i64 (by omega) (by omega)];omega
  ·intro e W' hh hJ
   have hb:=ctx.frame _ _ _ _ (ctx.busy _ _ hLd) hh
   rcases jmp _ _ hJ with rfl|⟨id,rfl⟩
   ·refine⟨hb,_,rfl,false,rfl,?_⟩
    simp only [Bool.not_false,cond_true]
    refine⟨.done,some .ret,ctx.set _ _ _ _ _ hb,by simp,?_⟩
    exact fr _ (stJ _ _ _ (stJ _ _ _ hJ (fD.iD _ _ _ _)) (fD.iD _ _ _ _))
   ·refine⟨hb,_,rfl,false,rfl,?_⟩
    simp only [Bool.not_false,cond_true]
    refine⟨.done,some (.exit id),ctx.set _ _ _ _ _ hb,by simp,?_⟩
    exact fx _ _ (stJ _ _ _ (stJ _ _ _ hJ (fD.iD _ _ _ _)) (fD.iD _ _ _ _))
 ·have hlt':¬((i:Int)<(m:Int)):=by omega
  simp only [hlt',decide_false,cond_false]
  have:i=m:=by omega
  subst this
  exact⟨.ready,none,hL,by simp,fn _ (stI _ _ _ hIi (fD.iD _ _ _ _))⟩
def Jc:uY->ByteArray
 |none=>bs []
 |some x=>x.1
def eN:uY->Int
 |none=>0
 |some x=>x.2
def eU:uY->Bool
 |none=>false
 |some _=>true
def Js (e:uY):List Value:=[.string (Jc e),.int .i64 (eN e),.bool (eU e)]
theorem EP (e:uY):(Js e).length=3:=rfl
def VD (s:Nat) (L:List uY):Option Addr:=if L=[] then none else some ⟨s,0,none⟩
structure HT (w:World) (b s:Nat) (L:List uY) (many most:Int):Prop where
 hd:Row w b [.slice (VD s L) L.length L.length,.int .i64 many,.int .i64 most,.bool true]
 row:L≠[]->Row w s (L.flatMap Js)
 ne:L≠[]->b≠s
 sz:L.length<=2^20
theorem HT.fr {w w':World} {b s:Nat} {L:List uY} {many most:Int} {S:Nat->Prop} (h:HT w b s L many most) (hf:fD w w' S) (h1:¬S b) (h2:L≠[]->¬S s):HT w' b s L many most:=
 ⟨h.hd.fr hf h1,fun hn=>(h.row hn).fr hf (h2 hn),h.ne,h.sz⟩
theorem HT.JE {w w':World} {b s:Nat} {L:List uY} {many most:Int} (h:HT w b s L many most) (hf:∀S,fD w w' S):HT w' b s L many most:=
 h.fr (hf fun _=>False) (by simp) (by simp)
theorem HT.ent {w:World} {b s:Nat} {L:List uY} {many most:Int} (h:HT w b s L many most) {i:Nat} {e:uY} (hi:L[i]? =some e) (j:Nat) (hj:j<3):w.cell? ⟨s,i * 3+j,none⟩=(Js e)[j]? :=by
 have hn:L≠[]:=by rintro rfl;simp at hi
 rw [(h.row hn).cell,flat_get _ 3 EP _ _ j hj,hi];rfl
def hTo (k:ByteArray):Nat->Int
 |0=>2166136261
 |i+1=>match k[i]? with
  |some c=>IntKind.u32.wrap (WA .u32 (hTo k i) (IntKind.u32.wrap (c.toNat:Int)) * 16777619)
  |none=>0
def oL (k:ByteArray) (m:Nat):Nat:=(Int.tmod (hTo k k.size) (m:Int)).toNat
theorem Ue (n:Int):0<=IntKind.u32.wrap n/\IntKind.u32.wrap n<4294967296:=by
 rw [IntKind.wrap_u32];omega
theorem aat (k:ByteArray) (i:Nat):0<=hTo k i/\hTo k i<4294967296:=by
 cases i with
 |zero=>simp [hTo]
 |succ i=>
  simp only [hTo]
  split
  ·exact Ue _
  ·omega
theorem BM (k:ByteArray) {m:Nat} (hm:0<m):oL k m<m:=by
 unfold oL
 have h:=(aat k k.size).1
 rw [Int.tmod_eq_emod_of_nonneg h]
 have:=Int.emod_lt_of_pos (hTo k k.size) (b:=(m:Int)) (by omega)
 have:=Int.emod_nonneg (hTo k k.size) (b:=(m:Int)) (by omega)
 omega
theorem abD (k:ByteArray) (m:Nat) (hm:0<m) (hm2:m<=2^20) (w:World) (hk:k.size<=2^63 - 1):xQ k (m:Int) w fun r w'=>r=(oL k m:Int)/\w'=w:=by
 apply TF
 refine fE (fun st W=>(∃i:Nat,i<=k.size/\st.2.1=i/\st.1=hTo k i)/\W=w) (fun st _=>k.size - st.2.1.toNat) ⟨⟨0,by omega,rfl,rfl⟩,rfl⟩ ?_
 rintro⟨x,y,⟨⟩⟩ W ⟨⟨i,hi,rfl,rfl⟩,rfl⟩ next hnext
 by_cases hlt:i<k.size
 ·have hlt':((i:Int)<(k.size:Int)):=by omega
  simp only [hlt',decide_true,cond_true]
  have hg:k[i]? =some k[i]:=by simp [hlt]
  refine⟨k[i],by omega,by simp,?_⟩
  have e:IntKind.i64.wrap ((i:Int)+1)=((i+1:Nat):Int):=by rw [wrap_i64 (by omega) (by omega)];omega
  rw [e]
  refine hnext _ _ ⟨⟨i+1,by omega,rfl,?_⟩,rfl⟩ (by simp only;omega)
  simp only [hTo,hg]
 ·have hlt':¬((i:Int)<(k.size:Int)):=by omega
  simp only [hlt',decide_false,cond_false]
  have e1:IntKind.u32.wrap (m:Int)=m:=by rw [IntKind.wrap_u32];omega
  have:i=k.size:=by omega
  subst this
  rw [e1]
  refine⟨by omega,?_,by trivial⟩
  have h1:=BM k hm
  have h2:Int.tmod (hTo k k.size) (m:Int)=(oL k m:Int):=by
   unfold oL
   have:=Int.tmod_nonneg (m:Int) (aat k k.size).1
   omega
  rw [h2,wrap_i64 (by omega) (by omega)]
theorem Xr (tb:Nat) (x:Int) (w:World):kM (some ⟨tb,0,none⟩) x w fun r w'=>∃f0 f1,r= .func (.func yF) #[] #[(Value.pointer (some ⟨f0,0,none⟩)),(Value.pointer (some ⟨f1,0,none⟩))]/\
  Row w' f0 [.pointer (some ⟨tb,0,none⟩)]/\Row w' f1 [.int .i64 x]/\w.heap.size<=f0/\w.heap.size<=f1/\∀S,fD w w' S:=by
 apply H7
 refine⟨rfl,tH fun a2 w1 r1 e1 _ f1=>⟨rfl,tH fun a4 w3 r3 e3 _ f3=>⟨a2,a4,rfl,r1.fr (f3 fun _=>False) (by simp),r3,by omega,by have:=(f1 fun _=>False).size;omega,fun S=>(f1 S).trans (f3 S) fun _ _ e=>e⟩⟩⟩
theorem Ko {w:World} {b s:Nat} {L:List uY} {many most:Int} (h:HT w b s L many most):jD (some ⟨b,0,none⟩) w fun r w'=>r=true/\w'=w:=by
 apply FZ
 simp only [sx,h.hd.cell,Bool.not_false]
 exact⟨trivial,trivial⟩
theorem fD.putObj (w:World) (b:Nat) (o:Obj):fD w (w.putObj b o) (·=b):=
 ⟨by simp [World.putObj],fun c _ hn=>by simp [World.putObj,Array.getElem?_setIfInBounds];omega,rfl,rfl,rfl⟩
theorem toList_inj {a b:ByteArray} (h:a.toList=b.toList):a=b:=by
 rw [ByteArray.toList_eq,ByteArray.toList_eq] at h
 cases a;cases b
 simp at h
 rw [h]
theorem QA {a b:ByteArray}:strEq a b=true↔a=b:=by
 unfold strEq
 constructor
 ·intro h;exact toList_inj (by simpa using h)
 ·rintro rfl;simp
theorem NJ {w:World} {T:TypeId} {x y z x' y' z':Value} {K:Addr->World->Prop} (h1:gY x'=true) (h2:gY y'=true) (h3:gY z'=true)
  (h:∀a w',Row w' a [x',y',z']->w.heap.size<=a->(∀S,fD w w' S)->K ⟨a,0,none⟩ w'):
  Al w (.cells ⟨[x,y,z]⟩ T) fun a w1=>St w1 (a.add 0) x' fun w2=>St w2 (a.add 1) y' fun w3=>St w3 (a.add 2) z' fun w4=>K a w4:=by
 refine tH fun a w1 r1 e1 _ f1=> ?_
 simp only [sx]
 refine gu r1 h1 (by simp) fun w2 r2 f2 _=> ?_
 refine gu r2 h2 (by simp) fun w3 r3 f3 _=> ?_
 refine gu r3 h3 (by simp) fun w4 r4 f4 _=> ?_
 refine h a w4 r4 (by omega) fun S=> ?_
 exact(((f1 S).trans (f2 (·=a) rfl) fun x hx e=>by omega).trans (f3 (·=a) rfl) fun x hx e=>by omega).trans (f4 (·=a) rfl) fun x hx e=>by omega
def aaL (L:List uY) (k:ByteArray) (at_:Int) (t:Bool):Prop:=
 ∃d,First L (oL k L.length) k d/\at_=((cy L.length (oL k L.length+d):Nat):Int)/\
  ((t=true/\∃n,L[cy L.length (oL k L.length+d)]? =some (some (k,n)))\/(t=false/\L[cy L.length (oL k L.length+d)]? =some none))
structure FI (w W:World) (S:Nat->Prop):Prop where
 fr:fD w W S
 mark:W.heap[w.heap.size]? =some (.deferred (some []))
 size:w.heap.size+2<=W.heap.size
theorem FI.st {w W W':World} {S:Nat->Prop} (h:FI w W S) (hf:fD W W' (·=w.heap.size+1)):FI w W' S:=
 ⟨h.fr.trans hf fun b hb e=>by omega,by rw [hf.same _ (by have:=h.size;omega) (by omega)];exact h.mark,by have:=h.size;have:=hf.size;omega⟩
theorem OY {w:World} {b s:Nat} {L:List uY} {many most:Int} {k:ByteArray} (h:HT w b s L many most) (hne:L≠[]) (hk:k.size<=2^63 - 1) (hs:∃d,d<L.length/\Stop L (oL k L.length) k d):
  ig (some ⟨b,0,none⟩) k w fun at_ t w'=>aaL L k at_ t/\∀S,fD w w' S:=by
 apply zM
 have hpos:0<L.length:=by cases L with
  |nil=>exact absurd rfl hne
  |cons _ _=>simp
 have hsz:=h.sz
 have hh:=BM k hpos
 refine⟨rfl,tH fun a2 w1 r2 e2 _ f1=>⟨rfl,tH fun a4 w3 r4 e4 _ f3=>tH fun a6 w5 r6 e6 _ f5=>tH fun a8 w7 r8 e8 _ f7=> ?_⟩⟩
 have s1:=(f1 fun _=>False).size
 have s3:=(f3 fun _=>False).size
 have s5:=(f5 fun _=>False).size
 have s7:=(f7 fun _=>False).size
 have l2:=r2.lt
 have l4:=r4.lt
 have l6:=r6.lt
 have f07:∀S,fD w w7 S:=fun S=>(((f1 S).trans (f3 S) fun _ _ e=>e).trans (f5 S) fun _ _ e=>e).trans (f7 S) fun _ _ e=>e
 have h7:=h.JE f07
 have r2:Row w7 a2 _:=((r2.fr (f3 fun _=>False) (by simp)).fr (f5 fun _=>False) (by simp)).fr (f7 fun _=>False) (by simp)
 have r4:Row w7 a4 _:=(r4.fr (f5 fun _=>False) (by simp)).fr (f7 fun _=>False) (by simp)
 have r6:Row w7 a6 _:=r6.fr (f7 fun _=>False) (by simp)
 have hl0:((L.length:Int)==0)=false:=by simp;omega
 have h7d:HT w7.drew b s L many most:=h7.JE fun S=>fD.drew _ S
 have r2d:=r2.drew
 have r4d:=r4.drew
 simp only [sx,r2.cell,r2d.cell,r4d.cell,h7.hd.cell,h7d.hd.cell,hl0]
 refine Rk (abD k L.length hpos hsz w7.drew hk) ?_
 rintro r w22 ⟨rfl,rfl⟩
 refine⟨by simp [r2d.cell],?_⟩
 refine zo (Xr b _ _) ?_
 rintro r w24 ⟨g0,g1,rfl,q0,q1,lg0,lg1,f24⟩
 have r2:Row w24 a2 _:=r2d.fr (f24 fun _=>False) (by simp)
 have r4:Row w24 a4 _:=r4d.fr (f24 fun _=>False) (by simp)
 have r6:Row w24 a6 _:=r6.drew.fr (f24 fun _=>False) (by simp)
 have r8:Row w24 a8 _:=r8.drew.fr (f24 fun _=>False) (by simp)
 have h24:=h7d.JE f24
 have f024:∀S,fD w w24 S:=fun S=>((f07 S).trans (fD.drew _ S) fun _ _ e=>e).trans (f24 S) fun _ _ e=>e
 have l8:=r8.lt
 have hb:=h.hd.lt
 have hs7:w7.heap.size<=w24.heap.size:=by have:=(f24 fun _=>False).size;exact this
 have hsl:s<w.heap.size:=(h.row hne).lt
 have lg0':=q0.lt
 have lg1':=q1.lt
 have hg0:w7.heap.size<=g0:=lg0
 have hg1:w7.heap.size<=g1:=lg1
 refine Um (b:=b) (m:=L.length) (from_:=oL k L.length)
  (fun i W=>(∀d,d<i->¬Stop L (oL k L.length) k d)/\FI w24 W fun _=>False)
  (fun e W=>e= .ret/\(FI w24 W fun x=>x=a6\/x=a8)/\∃at_ t,Row W a6 [.int .i64 at_]/\Row W a8 [.bool t]/\aaL L k at_ t)
  (by omega) hh ?_ ?_ ?_ ?_ ?_ ?_ ?_ ?_ ?_
 ·exact fun w1 hf hm hz=>⟨fun d hd=>by omega,hf _,hm,by omega⟩
 ·exact fun i W hI=>⟨q0.fr hI.2.fr (by simp),q1.fr hI.2.fr (by simp),_,by rw [(h24.hd.fr hI.2.fr (by simp)).cell];rfl⟩
 ·exact fun i W W' hI hf=>⟨hI.1,hI.2.st hf⟩
 ·rintro e W W' ⟨rfl,hF,at_,t,ra,rt,hr⟩ hf
  exact⟨by trivial,hF.st hf,at_,t,ra.fr hf (by omega),rt.fr hf (by omega),hr⟩
 ·exact fun e W hJ=> .inl hJ.1
 ·rintro i W Kb hi ⟨hno,hF⟩ hn hj
  have hFz:=hF.size
  have zb:=(fD.fB W (w24.heap.size+1)).size
  have fb:fD w24 (fB W (w24.heap.size+1)) fun _=>False:=hF.fr.trans (fD.fB W _) fun x hx e=>by omega
  have hW:HT (fB W (w24.heap.size+1)) b s L many most:=h24.fr fb (by simp) (by simp)
  have q2:=r2.fr fb (by simp)
  have q4:=r4.fr fb (by simp)
  have q6:=r6.fr fb (by simp)
  have q8:=r8.fr fb (by simp)
  refine⟨by trivial,?_⟩
  simp only [vU,List.getElem?_cons_zero,fA,fG,ru,q2.cell,hW.hd.cell]
  have hx:cy L.length (oL k L.length+i)<L.length:=Jv (by omega)
  have he:∃e,L[cy L.length (oL k L.length+i)]? =some e:=⟨_,List.getElem?_eq_getElem hx⟩
  obtain⟨e,he⟩:=he
  have c0:=hW.ent he 0 (by omega)
  have c1:=hW.ent he 1 (by omega)
  have c2:=hW.ent he 2 (by omega)
  refine uz (b:=s) (o:=0) (by simp [VD,hne]) (by omega) (by simp only;omega) ?_
  simp only [Int.toNat_natCast,Nat.zero_add]
  simp only [Nat.add_zero] at c0
  simp only [sx,c0,c1,c2,Js]
  refine NJ rfl rfl rfl fun a37 w40 q40 e37 f40=> ?_
  have fb40:fD w24 w40 fun _=>False:=fb.trans (f40 _) fun _ _ e=>e
  have l40:=(f40 fun _=>False).size
  have q6:=q6.fr (f40 fun _=>False) (by simp)
  have q8:=q8.fr (f40 fun _=>False) (by simp)
  have q4:=q4.fr (f40 fun _=>False) (by simp)
  have hm40:w40.heap[w24.heap.size]? =some (.deferred (some [])):=by rw [(f40 fun _=>False).same _ (by omega) (by simp),(fD.fB W _).same _ (by omega) (by omega)];exact hF.mark
  have hk40:w40.heap[w24.heap.size+1]? =(fB W (w24.heap.size+1)).heap[w24.heap.size+1]? :=(f40 fun _=>False).same _ (by omega) (by simp)
  have out:∀(v:Int) (t:Bool),aaL L k v t->St w40 ⟨a6,0,none⟩ (Value.int .i64 v) fun w42=>St w42 ⟨a8,0,none⟩ (Value.bool t) fun w43=>Kb .ret w43:=by
   intro v t hr
   refine gu q6 rfl (by simp) fun w42 q42 f42 z42=> ?_
   refine gu (q8.fr (f42 (·=a6) rfl) (by omega)) rfl (by simp) fun w43 q43 f43 z43=> ?_
   have f0:fD w40 w43 fun x=>x=a6\/x=a8:=(f42 _ (.inl rfl)).trans (f43 _ (.inr rfl)) fun _ _ e=>e
   refine hj _ _ ?_ ⟨rfl,⟨(fb40.mono fun _ e=>e.elim).trans f0 fun _ _ e=>e,?_,by have:=f0.size;omega⟩,v,t,(q42.fr (f43 (·=a8) rfl) (by omega)),q43,hr⟩
   ·rw [f0.same _ (by omega) (by omega)];exact hk40
   ·rw [f0.same _ (by omega) (by omega)];exact hm40
  simp only [sx,q40.cell,q4.cell]
  cases e with
  |none=>
   simp only [eU,Bool.not_false,cond_true]
   exact out _ _ ⟨i,⟨hi,.inl he,hno⟩,rfl,.inr ⟨rfl,he⟩⟩
  |some x=>
   obtain⟨k',n'⟩:=x
   simp only [eU,Bool.not_true,cond_false,cond_false,Jc]
   cases hse:strEq k' k with
   |true=>
    have:=QA.1 hse
    subst this
    simp only [cond_true]
    exact out _ _ ⟨i,⟨hi,.inr ⟨_,he⟩,hno⟩,rfl,.inl ⟨rfl,_,he⟩⟩
   |false=>
    simp only [cond_false]
    refine hn _ hk40 ⟨fun d hd=> ?_,fb40,hm40,by omega⟩
    by_cases hdi:d=i
    ·subst hdi
     rintro(h1|⟨n,h1⟩)
     ·rw [he] at h1;cases h1
     ·rw [he] at h1;cases h1;rw [QA.2 rfl] at hse;cases hse
    ·exact hno d (by omega)
 ·rintro W ⟨hno,_⟩
  obtain⟨d,hd,hst⟩:=hs
  exact absurd hst (hno d hd)
 ·rintro W ⟨_,hF,at_,t,ra,rt,hr⟩
  refine⟨hF.mark,?_⟩
  have pf:=fD.putObj W w24.heap.size (.deferred none)
  simp only [List.getElem?_cons_zero,fA,fC,uf,(ra.fr pf (by omega)).cell,(rt.fr pf (by omega)).cell]
  refine⟨hr,fun S=> ?_⟩
  exact((f024 S).trans hF.fr fun x hx e=>by omega).trans pf fun x hx e=>by omega
 ·rintro id W ⟨h,_⟩
  cases h
theorem YW {w:World} {b s:Nat} {many most:Int} {k:ByteArray} (h:HT w b s [] many most):
  ig (some ⟨b,0,none⟩) k w fun at_ t w'=>t=false/\∀S,fD w w' S:=by
 apply zM
 refine⟨rfl,tH fun a2 w1 r2 e2 _ f1=>⟨rfl,tH fun a4 w3 r4 e4 _ f3=>tH fun a6 w5 r6 e6 _ f5=>tH fun a8 w7 r8 e8 _ f7=> ?_⟩⟩
 have s1:=(f1 fun _=>False).size
 have s3:=(f3 fun _=>False).size
 have s5:=(f5 fun _=>False).size
 have s7:=(f7 fun _=>False).size
 have l6:=r6.lt
 have f07:∀S,fD w w7 S:=fun S=>(((f1 S).trans (f3 S) fun _ _ e=>e).trans (f5 S) fun _ _ e=>e).trans (f7 S) fun _ _ e=>e
 have h7:=h.JE f07
 have r2:Row w7 a2 _:=((r2.fr (f3 fun _=>False) (by simp)).fr (f5 fun _=>False) (by simp)).fr (f7 fun _=>False) (by simp)
 have r6:Row w7 a6 _:=r6.fr (f7 fun _=>False) (by simp)
 simp only [sx,r2.cell,h7.hd.cell,List.length_nil,Int.natCast_zero,beq_self_eq_true]
 refine gu r6 rfl (by simp) fun w12 r12 f12 _=> ?_
 refine gu (r8.fr (f12 (·=a6) rfl) (by omega)) rfl (by simp) fun w13 r13 f13 _=> ?_
 simp only [(r12.fr (f13 (·=a8) rfl) (by omega)).cell,r13.cell]
 exact⟨by trivial,fun S=>((f07 S).trans (f12 (·=a6) rfl) fun x hx e=>by omega).trans (f13 (·=a8) rfl) fun x hx e=>by omega⟩
structure TB (w:World) (b s:Nat) (L:List uY) (most:Int) (M:ByteArray->Option Int):Prop where
 ht:HT w b s L (cnt L:Int) most
 t:T (fun k=>oL k L.length) L fun _ _=>False
 free:2 * cnt L<=L.length
 m:∀k n,M k=some n↔Has L k n
 most0:0<=most
 most1:most<=65536
 sz:L.length<=262144
 nils:L=[]->s=b
 keys:∀k n,Has L k n->k.size<=2^63 - 1
theorem TB.fr {w w':World} {b s:Nat} {L:List uY} {most:Int} {M:ByteArray->Option Int} {S:Nat->Prop} (h:TB w b s L most M) (hf:fD w w' S) (h1:¬S b) (h2:¬S s):TB w' b s L most M:=
 ⟨h.ht.fr hf h1 fun _=>h2,h.t,h.free,h.m,h.most0,h.most1,h.sz,h.nils,h.keys⟩
theorem TB.JE {w w':World} {b s:Nat} {L:List uY} {most:Int} {M:ByteArray->Option Int} (h:TB w b s L most M) (hf:∀S,fD w w' S):TB w' b s L most M:=
 h.fr (hf fun _=>False) (by simp) (by simp)
theorem TB.OE {w:World} {b s:Nat} {L:List uY} {most:Int} {M:ByteArray->Option Int} (h:TB w b s L most M) (k:ByteArray):M k=none↔∀n,¬Has L k n:=by
 constructor
 ·intro hn n hx
  rw [(h.m k n).2 hx] at hn;cases hn
 ·intro hn
  cases hx:M k with
  |none=>rfl
  |some n=>exact absurd ((h.m k n).1 hx) (hn n)
theorem TB.pos {w:World} {b s:Nat} {L:List uY} {most:Int} {M:ByteArray->Option Int} (_:TB w b s L most M) (hne:L≠[]):0<L.length:=by
 cases L with
 |nil=>exact absurd rfl hne
 |cons _ _=>simp
theorem JA {w:World} {b s:Nat} {L:List uY} {most:Int} {M:ByteArray->Option Int} (h:TB w b s L most M) (k:ByteArray) (hk:k.size<=2^63 - 1):
  ig (some ⟨b,0,none⟩) k w fun at_ t w'=>(∀S,fD w w' S)/\
   ((t=true/\∃(i:Nat) (n:Int),at_=(i:Int)/\L[i]? =some (some (k,n))/\M k=some n)\/
    (t=false/\M k=none/\(L≠[]->∃d,First L (oL k L.length) k d/\at_=((cy L.length (oL k L.length+d):Nat):Int)))):=by
 by_cases hne:L=[]
 ·subst hne
  refine jc (YW h.ht) ?_
  rintro at_ t w' ⟨rfl,hf⟩
  refine⟨hf,.inr ⟨rfl,(h.OE k).2 ?_,fun hx=>absurd rfl hx⟩⟩
  rintro n ⟨i,hi⟩
  simp at hi
 ·have hpos:=h.pos hne
  have hh:=BM k hpos
  have hfr:=h.free
  obtain⟨i,hi⟩:=Nh (L:=L) (by omega)
  refine jc (OY h.ht hne hk (CO hh hi)) ?_
  rintro at_ t w' ⟨⟨d,hd,rfl,⟨rfl,n,hn⟩|⟨rfl,hn⟩⟩,hf⟩
  ·exact⟨hf,.inl ⟨rfl,_,n,rfl,hn,(h.m k n).2 ⟨_,hn⟩⟩⟩
  ·refine⟨hf,.inr ⟨rfl,(h.OE k).2 ?_,fun _=>⟨d,hd,rfl⟩⟩⟩
   rintro n ⟨i,hi⟩
   have:=Ui h.t (fun _ _ x=>x) hh hi hd
   rw [this,hi] at hn;cases hn
theorem XG {w:World} {b s:Nat} {L:List uY} {most:Int} {M:ByteArray->Option Int} (h:TB w b s L most M) (k:ByteArray) (hk:k.size<=2^63 - 1):
  lG (some ⟨b,0,none⟩) k w fun n t w'=>(∀S,fD w w' S)/\t=(M k).isSome/\n=(M k).getD 0:=by
 apply IX
 refine sK (Ko h.ht) ?_
 rintro r w2 ⟨rfl,rfl⟩
 simp only [Bool.not_true,cond_false]
 refine jc (JA h k hk) ?_
 rintro at_ t w' ⟨hf,⟨rfl,i,n,rfl,hi,hM⟩|⟨rfl,hM,_⟩⟩
 ·have h':=h.JE hf
  have hne:L≠[]:=by rintro rfl;simp at hi
  have hlt:i<L.length:=(List.getElem?_eq_some_iff.1 hi).1
  simp only [sx,Bool.not_true,h'.ht.hd.cell]
  refine uz (b:=s) (o:=0) (by simp [VD,hne]) (by omega) (by simp only;omega) ?_
  simp only [sx,Int.toNat_natCast,h'.ht.ent hi 1 (by omega),Js,eN]
  exact⟨hf,by simp [hM],by simp [hM]⟩
 ·simp only [Bool.not_false,cond_true]
  exact⟨hf,by simp [hM],by simp [hM]⟩
theorem Ro (n:Int) (w:World):uI n w fun p e w'=>
  (∀S,fD w w' S)/\((0<=n/\n<=65536/\e=0/\∃b,p=some ⟨b,0,none⟩/\w.heap.size<=b/\TB w' b b [] n fun _=>none)\/((n<0\/65536<n)/\e=1/\p=none)):=by
 apply Vm
 by_cases c1:n<0
 ·simp only [c1,decide_true,cond_true];exact⟨fun S=>fD.refl _ _,.inr ⟨.inl (by first|trivial|omega),by trivial,by trivial⟩⟩
 ·by_cases c2:n>65536
  ·simp only [c1,c2,decide_true,decide_false,cond_true,cond_false];exact⟨fun S=>fD.refl _ _,.inr ⟨.inr (by first|trivial|omega),by trivial,by trivial⟩⟩
  ·simp only [c1,c2,decide_false,cond_false]
   refine tH fun a w3 r3 e3 _ f3=>⟨f3,.inl ⟨by omega,by omega,by trivial,a,rfl,by omega,?_⟩⟩
   exact⟨⟨r3,fun h=>absurd rfl h,fun h=>absurd rfl h,by simp⟩,⟨fun i j k n n' h=>by simp at h,fun i k n h=>by simp at h⟩,by simp [cnt],fun k n=>⟨fun h=>by simp at h,fun⟨i,hi⟩=>by simp at hi⟩,by omega,by omega,by simp,fun _=>rfl,fun k n ⟨i,hi⟩=>by simp at hi⟩
def tr (e:uY):ByteArray×Int×Bool:=(Jc e,eN e,eU e)
def f3 (x:ByteArray×Int×Bool):List Value:=[.string x.1,.int .i64 x.2.1,.bool x.2.2]
theorem XJ (L:List uY):L.flatMap Js=(L.map tr).flatMap f3:=by rw [List.flatMap_map];rfl
theorem VT (L:List uY) (i:Nat) (e:uY):(L.map tr).set i (tr e)=(L.set i e).map tr:=by rw [List.map_set]
theorem HT.ZT {w w':World} {b s:Nat} {L L':List uY} {many most:Int} (h:HT w b s L many most) (hn:L≠[]) (hl:L'.length=L.length) (hf:fD w w' (·=s)) (hr:Row w' s (L'.flatMap Js)):HT w' b s L' many most:=by
 have hn':L'≠[]:=by rintro rfl;simp at hl;exact hn (List.length_eq_zero_iff.1 hl.symm)
 refine⟨?_,fun _=>hr,fun _=>h.ne hn,by rw [hl];exact h.sz⟩
 have:=h.hd.fr hf (h.ne hn)
 rw [show VD s L=VD s L' by simp [VD,hn,hn'],<- hl] at this
 exact this
theorem NV {w:World} {b s i:Nat} {L:List uY} {many most:Int} (h:HT w b s L many most) (hi:i<L.length) (e:uY) {K:World->Prop} (hK:∀w',HT w' b s (L.set i e) many most->fD w w' (·=s)->K w'):
  St w ⟨s,i * 3,none⟩ (.string (Jc e)) fun w1=>St w1 ⟨s,i * 3+1,none⟩ (.int .i64 (eN e)) fun w2=>St w2 ⟨s,i * 3+2,none⟩ (.bool (eU e)) K:=by
 have hn:L≠[]:=by rintro rfl;simp at hi
 have hr:=h.row hn
 have hlen:(L.flatMap Js).length=L.length * 3:=iH _ 3 EP L
 refine gu hr rfl (by omega) fun w1 r1 f1 _=> ?_
 refine gu r1 rfl (by simp only [List.length_set];omega) fun w2 r2 f2 _=> ?_
 refine gu r2 rfl (by simp only [List.length_set];omega) fun w3 r3 f3' _=> ?_
 have hf:fD w w3 (·=s):=((f1 (·=s) rfl).trans (f2 (·=s) rfl) fun _ _ e=>e).trans (f3' (·=s) rfl) fun _ _ e=>e
 refine hK w3 (h.ZT hn (by simp) hf ?_) hf
 rw [XJ] at r3
 have g0:(L.map tr)[i]? =some (tr L[i]):=by simp [hi]
 have hl:i<(L.map tr).length:=by simpa using hi
 have e0:=Bq f3 3 (fun _=>rfl) (L.map tr) i 0 (tr L[i]) (Jc e,(tr L[i]).2) (.string (Jc e)) (by omega) g0 rfl
 have e1:=Bq f3 3 (fun _=>rfl) ((L.map tr).set i (Jc e,(tr L[i]).2)) i 1 (Jc e,(tr L[i]).2) (Jc e,eN e,(tr L[i]).2.2) (.int .i64 (eN e)) (by omega) (by simp [hi]) rfl
 have e2:=Bq f3 3 (fun _=>rfl) (((L.map tr).set i (Jc e,(tr L[i]).2)).set i (Jc e,eN e,(tr L[i]).2.2)) i 2 (Jc e,eN e,(tr L[i]).2.2) (tr e) (.bool (eU e)) (by omega) (by simp [hi]) rfl
 rw [Nat.add_zero] at e0
 rw [e0,e1,e2] at r3
 rw [List.set_set,List.set_set,VT,<- XJ] at r3
 exact r3
theorem acV {w:World} {b s i:Nat} {L:List uY} {many most n n':Int} {k:ByteArray} (h:HT w b s L many most) (hi:L[i]? =some (some (k,n))) {K:World->Prop} (hK:∀w',HT w' b s (L.set i (some (k,n'))) many most->fD w w' (·=s)->K w'):
  St w ⟨s,i * 3+1,none⟩ (.int .i64 n') K:=by
 have hn:L≠[]:=by rintro rfl;simp at hi
 have hlt:i<L.length:=(List.getElem?_eq_some_iff.1 hi).1
 have hlen:(L.flatMap Js).length=L.length * 3:=iH _ 3 EP L
 refine gu (h.row hn) rfl (by omega) fun w1 r1 f1 _=>hK w1 (h.ZT hn (by simp) (f1 (·=s) rfl) ?_) (f1 (·=s) rfl)
 rw [Bq Js 3 EP L i 1 (some (k,n)) (some (k,n')) (.int .i64 n') (by omega) hi rfl] at r1
 exact r1
theorem XB {w:World} {b s:Nat} {L:List uY} {many many' most:Int} (h:HT w b s L many most) {K:World->Prop} (hK:∀w',HT w' b s L many' most->fD w w' (·=b)->K w'):St w ⟨b,1,none⟩ (.int .i64 many') K:=by
 refine gu h.hd rfl (by simp) fun w1 r1 f1 _=>hK w1 ⟨r1,fun hn=>(h.row hn).fr (f1 (·=b) rfl) (fun e=>h.ne hn e.symm),h.ne,h.sz⟩ (f1 (·=b) rfl)
theorem NW (a b:List uY):cnt (a++b)=cnt a+cnt b:=by
 induction a with
 |nil=>simp [cnt]
 |cons x a ih=>cases x<;>simp only [List.cons_append,cnt,ih]<;>omega
theorem OD (a:List uY) (e:uY) (k:ByteArray) (n:Int):Has (a++[e]) k n↔Has a k n\/e=some (k,n):=by
 constructor
 ·rintro⟨i,hi⟩
  by_cases h:i<a.length
  ·rw [List.getElem?_append_left h] at hi;exact .inl ⟨i,hi⟩
  ·rw [List.getElem?_append_right (by omega)] at hi
   have:=(List.getElem?_eq_some_iff.1 hi).1
   simp at this
   simp [show i - a.length=0 by omega] at hi
   exact .inr hi
 ·rintro(⟨i,hi⟩|h)
  ·exact⟨i,by rw [List.getElem?_append_left (List.getElem?_eq_some_iff.1 hi).1];exact hi⟩
  ·exact⟨a.length,by simp [h]⟩
theorem ZG (n:Nat):fH [Value.string (bs []),Value.int .i64 0,Value.bool false] n=(List.replicate n (none:uY)).flatMap Js:=by
 induction n with
 |zero=>rfl
 |succ n ih=>rw [List.replicate_succ,List.flatMap_cons,<- ih];rfl
theorem aas {L:List uY} {i:Nat} {k:ByteArray} {n:Int} (h:Has (L.take i) k n):∃j:Nat,j<i/\L[j]? =some (some (k,n)):=by
 obtain⟨j,hj⟩:=h
 have hlt:=(List.getElem?_eq_some_iff.1 hj).1
 simp only [List.length_take] at hlt
 refine⟨j,by omega,?_⟩
 rw [List.getElem?_take] at hj
 split at hj
 ·exact hj
 ·cases hj
theorem aaV {w:World} {b s:Nat} {L:List uY} {most:Int} {M:ByteArray->Option Int} (h:TB w b s L most M) (hc:(cnt L:Int)<most):
  nC (some ⟨b,0,none⟩) w fun w'=>∃s' L',TB w' b s' L' most M/\cnt L'=cnt L/\2 * (cnt L+1)<=L'.length/\fD w w' (·=b)/\(s'=s\/w.heap.size<=s'):=by
 apply II
 have hd:TB w.drew b s L most M:=h.JE fun S=>fD.drew _ S
 have hm1:=h.most1
 have e1:IntKind.i64.wrap ((cnt L:Int)+1)=((cnt L+1:Nat):Int):=by rw [wrap_i64 (by omega) (by omega)];omega
 have e2:IntKind.i64.wrap (2 * ((cnt L+1:Nat):Int))=((2 * (cnt L+1):Nat):Int):=by rw [wrap_i64 (by omega) (by omega)];omega
 simp only [sx,hd.ht.hd.cell]
 rw [e1,e2]
 by_cases hle:2 * (cnt L+1)<=L.length
 ·have hle':(((2 * (cnt L+1):Nat):Int)<=(L.length:Int)):=by omega
  simp only [hle',decide_true,cond_true]
  exact⟨s,L,hd,rfl,hle,fD.drew _ _,.inl rfl⟩
 ·have hle':¬(((2 * (cnt L+1):Nat):Int)<=(L.length:Int)):=by omega
  simp only [hle',decide_false,cond_false]
  have hlen:L.length<131072:=by omega
  have e3:IntKind.i64.wrap (2 * (L.length:Int))=((2 * L.length:Nat):Int):=by rw [wrap_i64 (by omega) (by omega)];omega
  rw [e3]
  obtain⟨m,hm,hmv⟩:∃m:Nat,(if ((2 * L.length:Nat):Int)>8 then ((2 * L.length:Nat):Int) else 8)=(m:Int)/\(8<=m/\2 * L.length<=m/\m<=262144):=by
   split
   ·exact⟨2 * L.length,rfl,by omega,by omega,by omega⟩
   ·exact⟨8,rfl,by omega,by omega,by omega⟩
  obtain⟨m8,m2,mm⟩:=hmv
  rw [hm]
  refine E5 (by omega) (by omega) (by omega) (by omega) fun s' w8 r8 hs' z8 f8=> ?_
  rw [Int.toNat_natCast,ZG] at r8
  simp only [Int.toNat_natCast]
  have h8:=hd.JE f8
  have l8:=r8.lt
  have hbl:=h.ht.hd.lt
  have hdw:w.drew.heap.size=w.heap.size:=rfl
  refine gu h8.ht.hd rfl (by simp) fun w10 r10 f10 z10=> ?_
  simp only [List.set_cons_zero] at r10
  have hb10:fD w w10 (·=b):=((fD.drew w _).trans (f8 (·=b)) fun _ _ e=>e).trans (f10 (·=b) rfl) fun _ _ e=>e
  have nl:∀A:List uY,A.length=m->VD s' A=some ⟨s',0,none⟩:=fun A hA=>by
   have:A≠[]:=by rintro rfl;simp at hA;omega
   simp [VD,this]
  have old:L≠[]->s≠b/\s<w.heap.size:=fun hn=>⟨fun e=>h.ht.ne hn e.symm,(h.ht.row hn).lt⟩
  refine fE (fun st W=>(∃i:Nat,i<=L.length/\st.1=i/\∃L2:List uY,L2.length=m/\HT W b s' L2 (cnt L:Int) most/\T (fun k=>oL k m) L2 (fun _ _=>False)/\cnt L2=cnt (L.take i)/\∀k n,Has L2 k n↔Has (L.take i) k n)/\fD w W (·=b)) (fun st _=>L.length - st.1.toNat)
   ⟨⟨0,by omega,rfl,List.replicate m none,by simp,⟨?_,fun _=>r8.fr (f10 (·=b) rfl) (by omega),fun _=>by omega,by simp;omega⟩,⟨fun i j k n n' hi=> ?_,fun i k n hi=> ?_⟩,by simp [aa1,cnt],fun k n=>⟨fun⟨i,hi⟩=> ?_,fun⟨i,hi⟩=>by simp at hi⟩⟩,hb10⟩ ?_
  ·rw [nl _ (by simp)];simpa using r10
  ·rw [List.getElem?_replicate] at hi;split at hi<;>cases hi
  ·rw [List.getElem?_replicate] at hi;split at hi<;>cases hi
  ·rw [List.getElem?_replicate] at hi;split at hi<;>cases hi
  rintro⟨x,⟨⟩⟩ W ⟨⟨i,hi,rfl,L2,hl2,hT,tt,hcnt,hhas⟩,hF⟩ next hnext
  have hFz:=hF.size
  by_cases hlt:i<L.length
  ·have hlt':((i:Int)<(L.length:Int)):=by omega
   simp only [hlt',decide_true,cond_true]
   have hn:L≠[]:=by rintro rfl;simp at hlt
   obtain⟨hsb,hsl⟩:=old hn
   have hLi:L[i]? =some L[i]:=List.getElem?_eq_getElem hlt
   generalize hE:L[i]=e at hLi
   have hOld:=(h.ht.row hn).fr hF hsb
   have cell:∀j,j<3->W.cell? ⟨s,i * 3+j,none⟩=(Js e)[j]? :=fun j hj=>by rw [hOld.cell,flat_get _ 3 EP _ _ j hj,hLi];rfl
   refine uz (b:=s) (o:=0) (by simp [VD,hn]) (by omega) (by simp only;omega) ?_
   have c0:=cell 0 (by omega)
   rw [Nat.add_zero] at c0
   simp only [sx,Int.toNat_natCast,c0,cell 1 (by omega),cell 2 (by omega),Js]
   refine NJ rfl rfl rfl fun a21 w24 q24 l24 f24=> ?_
   have e4:IntKind.i64.wrap ((i:Int)+1)=((i+1:Nat):Int):=by rw [wrap_i64 (by omega) (by omega)];omega
   have htk:L.take (i+1)=L.take i++[e]:=by rw [List.take_succ_eq_append_getElem hlt,hE]
   have hF24:fD w w24 (·=b):=hF.trans (f24 _) fun _ _ e=>e
   have hT24:=hT.JE f24
   simp only [sx,q24.cell,e4]
   cases e with
   |none=>
    simp only [eU,cond_false]
    refine hnext _ _ ⟨⟨i+1,by omega,rfl,L2,hl2,hT24,tt,?_,fun k n=> ?_⟩,hF24⟩ (by simp only;omega)
    ·rw [htk,NW,hcnt];simp [cnt]
    ·rw [hhas,htk,OD];simp
   |some x=>
    obtain⟨k,n⟩:=x
    simp only [eU,Jc,cond_true,cond_true]
    have hHas:Has L k n:=⟨i,hLi⟩
    have hno:∀n,¬Has L2 k n:=fun n' hx=>by
     obtain⟨j,hj,hjj⟩:=aas ((hhas k n').1 hx)
     have:=h.t.dist _ _ _ _ _ hjj hLi
     omega
    have hpos:0<L2.length:=by omega
    have hh:=BM k hpos
    have hcle:cnt L2<L2.length:=by
     have h1:=cnt_le (L.take i)
     have h2:(L.take i).length<=L.length:=by simp;omega
     omega
    obtain⟨j0,hj0⟩:=Nh hcle
    have hne2:L2≠[]:=by rintro rfl;simp at hpos
    refine jc (OY hT24 hne2 (h.keys k n hHas) (CO hh hj0)) ?_
    rintro at_ t w29 ⟨⟨d,hd,rfl,⟨rfl,n',hn'⟩|⟨rfl,hn'⟩⟩,f29⟩
    ·exact absurd ⟨_,hn'⟩ (hno n')
    ·have hT29:HT w29.drew b s' L2 (cnt L:Int) most:=(hT24.JE f29).JE fun S=>fD.drew _ S
     have q29:Row w29.drew a21 _:=(q24.fr (f29 fun _=>False) (by simp)).drew
     simp only [List.getElem?_cons_zero,List.getElem?_cons_succ,fA,fG,fC,uf,Na,hT29.hd.cell,q29.cell]
     have hq:cy L2.length (oL k L2.length+d)<L2.length:=(List.getElem?_eq_some_iff.1 hn').1
     refine uz (b:=s') (o:=0) (nl L2 hl2) (by omega) (by simp only;omega) ?_
     simp only [Int.toNat_natCast,Nat.zero_add]
     refine NV hT29 hq (some (k,n)) fun w38 h38 f38=> ?_
     have hins:=insert (n:=n) (H:=fun k=>oL k m) tt hno (by rw [<- hl2];exact hh) (by rw [<- hl2];exact hd)
     rw [hl2] at hins
     refine hnext _ _ ⟨⟨i+1,by omega,rfl,_,by simp [hl2],h38,by rw [hl2];exact hins,?_,fun k' n''=> ?_⟩,?_⟩ (by simp only;omega)
     ·rw [FH hn',htk,NW,hcnt];simp [cnt]
     ·rw [C_ hn' hno,htk,OD,hhas]
      constructor
      ·rintro(⟨rfl,rfl⟩|⟨_,hx⟩)
       ·exact .inr rfl
       ·exact .inl hx
      ·rintro(hx|hx)
       ·refine .inr ⟨?_,hx⟩
        rintro rfl
        exact hno _ ((hhas _ _).2 hx)
       ·cases hx;exact .inl ⟨rfl,rfl⟩
     ·exact((hF24.trans (f29 _) fun _ _ e=>e).trans (fD.drew _ _) fun _ _ e=>e).trans f38 fun x hx e=>by
       have e':x=s':=e
       omega
  ·have hlt':¬((i:Int)<(L.length:Int)):=by omega
   simp only [hlt',decide_false,cond_false]
   have:i=L.length:=by omega
   subst this
   rw [List.take_length] at hcnt hhas
   refine⟨s',L2,⟨by rw [hcnt];exact hT,by rw [hl2];exact tt,by have:=h.free;omega,fun k n=>by rw [hhas];exact h.m k n,h.most0,h.most1,by omega,fun hx=> ?_,fun k n hx=>h.keys k n ((hhas k n).1 hx)⟩,hcnt,by have:=h.free;omega,hF,.inr (by omega)⟩
   rw [hx] at hl2;simp at hl2;omega
def upd (M:ByteArray->Option Int) (k:ByteArray) (v:Option Int):ByteArray->Option Int:=fun x=>if x=k then v else M x
theorem XI {w:World} {b s:Nat} {L:List uY} {most:Int} {M:ByteArray->Option Int} (h:TB w b s L most M) (k:ByteArray) (n:Int) (hk:k.size<=2^63 - 1):
  lD (some ⟨b,0,none⟩) k n w fun e w'=>
   (e=0/\(M k=none->(cnt L:Int)<most)/\∃s' L',TB w' b s' L' most (upd M k (some n))/\cnt L'=(if (M k).isSome then cnt L else cnt L+1)/\fD w w' (fun x=>x=b\/x=s)/\(s'=s\/w.heap.size<=s'))\/
   (e=7/\M k=none/\most<=(cnt L:Int)/\∀S,fD w w' S):=by
 apply JB
 refine sK (Ko h.ht) ?_
 rintro r w2 ⟨rfl,rfl⟩
 simp only [Bool.not_true,cond_false]
 refine jc (JA h k hk) ?_
 have hsz:=h.ht.sz
 rintro at_ t w5 ⟨hf,⟨rfl,i,n0,rfl,hi,hM⟩|⟨rfl,hM,_⟩⟩
 ·have h':=h.JE hf
  have hne:L≠[]:=by rintro rfl;simp at hi
  have hlt:i<L.length:=(List.getElem?_eq_some_iff.1 hi).1
  simp only [sx,h'.ht.hd.cell]
  refine uz (b:=s) (o:=0) (by simp [VD,hne]) (by omega) (by simp only;omega) ?_
  simp only [sx,Int.toNat_natCast]
  refine acV h'.ht hi fun w9 h9 f9=> .inl ⟨by trivial,fun hx=>(by rw [hM] at hx;cases hx),s,_,⟨by rw [Jj hi];exact h9,by simp only [List.length_set];exact update h.t hi,by rw [Jj hi,List.length_set];exact h.free,fun k' n'=> ?_,h.most0,h.most1,by simpa using h.sz,fun hx=> ?_,fun k' n' hx=>by
   rcases(OA h.t hi k' n').1 hx with ⟨rfl,_⟩|⟨_,hx⟩
   ·exact hk
   ·exact h.keys _ _ hx⟩,by rw [Jj hi,hM];rfl,?_,.inl rfl⟩
  ·rw [OA h.t hi,upd]
   by_cases hkk:k'=k
   ·subst hkk;simp [eq_comm]
   ·simp [hkk,h.m]
  ·have:(L.set i (some (k,n))).length=0:=by rw [hx];rfl
   simp at this;exact absurd this hne
  ·exact(hf _).trans f9 fun x hx e=> .inr e
 ·have h':=h.JE hf
  have hd:TB w5.drew b s L most M:=h'.JE fun S=>fD.drew _ S
  simp only [sx,hd.ht.hd.cell]
  by_cases hfull:(cnt L:Int)>=most
  ·simp only [hfull,decide_true,cond_true]
   exact .inr ⟨by trivial,hM,by first|trivial|omega,fun S=>(hf S).trans (fD.drew _ S) fun _ _ e=>e⟩
  ·simp only [hfull,decide_false,cond_false]
   refine Ht (aaV hd (by omega)) ?_
   rintro w14 ⟨s',L',h14,hc14,hroom,f14,hs'⟩
   refine jc (JA h14 k hk) ?_
   have hne:L'≠[]:=by rintro rfl;simp at hroom
   have hpos:=h14.pos hne
   rintro at_ t w17 ⟨f17,⟨_,i,n0,_,_,hM'⟩|⟨_,_,hfst⟩⟩
   ·rw [hM] at hM';cases hM'
   ·obtain⟨d,hfd,rfl⟩:=hfst hne
    have h17:=h14.JE f17
    have hno:=(h14.OE k).1 hM
    have hh:=BM k hpos
    obtain⟨hfree,_⟩:=Iq hno hh hfd
    have hq:cy L'.length (oL k L'.length+d)<L'.length:=(List.getElem?_eq_some_iff.1 hfree).1
    simp only [List.getElem?_cons_zero,fA,fG,h17.ht.hd.cell]
    refine uz (b:=s') (o:=0) (by simp [VD,hne]) (by omega) (by simp only;omega) ?_
    simp only [Int.toNat_natCast,Nat.zero_add]
    refine NV h17.ht hq (some (k,n)) fun w23 h23 f23=> ?_
    simp only [h23.hd.cell,Q9,List.getElem?_cons_zero,List.getElem?_cons_succ,fA,fC,Nat.zero_add]
    have hm1:=h.most1
    have e1:IntKind.i64.wrap ((cnt L':Int)+1)=((cnt L'+1:Nat):Int):=by rw [wrap_i64 (by omega) (by omega)];omega
    rw [e1]
    refine XB h23 fun w27 h27 f27=> ?_
    refine .inl ⟨by trivial,fun _=>by omega,s',_,⟨by rw [FH hfree];exact h27,by simp only [List.length_set];exact insert h14.t hno hh hfd,by rw [FH hfree,List.length_set];omega,fun k' n'=> ?_,h.most0,h.most1,by simpa using h14.sz,fun hx=> ?_,fun k' n' hx=>by
     rcases(C_ hfree hno k' n').1 hx with ⟨rfl,_⟩|⟨_,hx⟩
     ·exact hk
     ·exact h14.keys _ _ hx⟩,by rw [FH hfree,hM,hc14];rfl,?_,?_⟩
    ·rw [C_ hfree hno,upd]
     by_cases hkk:k'=k
     ·subst hkk;simp [eq_comm]
     ·simp [hkk,h14.m]
    ·have:(L'.set (cy L'.length (oL k L'.length+d)) (some (k,n))).length=0:=by rw [hx];rfl
     simp at this;exact absurd this hne
    ·have hz:=(hf fun _=>False).size
     have hdz:w5.drew.heap.size=w5.heap.size:=rfl
     refine(((((hf _).trans (fD.drew _ _) fun _ _ e=>e).trans f14 fun x hx e=> .inl e).trans (f17 _) fun _ _ e=>e).trans f23 fun x hx e=> ?_).trans f27 fun x hx e=> .inl e
     have e':x=s':=e
     rcases hs' with hs'|hs'
     ·exact .inr (by omega)
     ·omega
    ·have hz:=(hf fun _=>False).size
     have hdz:w5.drew.heap.size=w5.heap.size:=rfl
     rcases hs' with hs'|hs'
     ·exact .inl hs'
     ·exact .inr (by omega)
theorem adJ {m a i:Nat} (ha:a<m) (hi:i<m):cy m (cy m (a+1)+i)=cy m (a+(i+1)):=by
 have c1:=Y7 m (a+1)
 have c2:=Y7 m (cy m (a+1)+i)
 have c3:=Y7 m (a+(i+1))
 omega
structure Mid (w:World) (b s:Nat) (L Lc:List uY) (k:ByteArray) (most:Int) (X:Nat->Nat->Prop):Prop where
 ht:HT w b s Lc ((cnt L - 1:Nat):Int) most
 len:Lc.length=L.length
 t:T (fun k=>oL k L.length) Lc X
 has:∀k' n',Has Lc k' n'↔k'≠k/\Has L k' n'
 cnt:cnt Lc=Hash.cnt L - 1
theorem Mid.fr {w w':World} {b s:Nat} {L Lc:List uY} {k:ByteArray} {most:Int} {X:Nat->Nat->Prop} {S:Nat->Prop} (h:Mid w b s L Lc k most X) (hf:fD w w' S) (h1:¬S b) (h2:¬S s):Mid w' b s L Lc k most X:=
 ⟨h.ht.fr hf h1 fun _=>h2,h.len,h.t,h.has,h.cnt⟩
theorem acp {H:ByteArray->Nat} {L:List uY} {X Y:Nat->Nat->Prop} (t:T H L X) (h:∀i p,X i p->Y i p):T H L Y:=
 ⟨t.dist,fun i k n hi=>by obtain⟨D,h1,h2,h3⟩:=t.reach i k n hi;exact⟨D,h1,h2,fun d hd=>(h3 d hd).imp id (h _ _)⟩⟩
theorem Oh {w:World} {b s:Nat} {L:List uY} {most:Int} {M:ByteArray->Option Int} (h:TB w b s L most M) (k:ByteArray) (hk:k.size<=2^63 - 1):
  jS (some ⟨b,0,none⟩) k w fun r w'=>r=(M k).isSome/\(∃L',TB w' b s L' most (upd M k none)/\cnt L'+(if (M k).isSome then 1 else 0)=cnt L)/\fD w w' (fun x=>x=b\/x=s):=by
 apply Fq
 have hsz:=h.ht.sz
 refine⟨rfl,tH fun a2 w1 q2 e2 z2 f1=> ?_⟩
 have h1:=h.JE f1
 simp only [sx,q2.cell]
 refine sK (Ko h1.ht) ?_
 rintro r w5 ⟨rfl,rfl⟩
 simp only [Bool.not_true,cond_false,List.getElem?_cons_zero,fA,ru,q2.cell]
 refine jc (JA h1 k hk) ?_
 rintro at_ t w9 ⟨f9,⟨rfl,i0,n0,rfl,hi0,hM⟩|⟨rfl,hM,_⟩⟩
 case inr=>
  simp only [Bool.not_false,cond_true]
  refine⟨by simp [hM],⟨L,?_,by simp [hM]⟩,(f1 _).trans (f9 _) fun _ _ e=>e⟩
  have h9:=h1.JE f9
  have:upd M k none=M:=by
   funext x
   unfold upd
   split
   ·rename_i hx;rw [hx,hM]
   ·rfl
  rw [this];exact h9
 have h9:=h1.JE f9
 have hne:L≠[]:=by rintro rfl;simp at hi0
 have hlt:i0<L.length:=(List.getElem?_eq_some_iff.1 hi0).1
 have q2:Row w9 a2 _:=q2.fr (f9 fun _=>False) (by simp)
 simp only [Bool.not_true,cond_false,vU,List.getElem?_cons_zero,fA,fG,ru,q2.cell,h9.ht.hd.cell]
 refine uz (b:=s) (o:=0) (by simp [VD,hne]) (by omega) (by simp only;omega) ?_
 simp only [Int.toNat_natCast,Nat.zero_add]
 have hbl:=h.ht.hd.lt
 have hsl:=(h.ht.row hne).lt
 refine NV h9.ht hlt none fun w16 h16 f16=> ?_
 have q2:Row w16 a2 _:=q2.fr f16 (by omega)
 have hcp:0<cnt L:=by have:=JL hi0;omega
 have hfree:=h.free
 have e1:IntKind.i64.wrap ((cnt L:Int) - 1)=((cnt L - 1:Nat):Int):=by rw [wrap_i64 (by omega) (by omega)];omega
 simp only [sx,q2.cell,h16.hd.cell,e1]
 refine XB h16 fun w21 h21 f21=> ?_
 have q2:Row w21 a2 _:=q2.fr f21 (by omega)
 have h21:HT w21.drew b s (L.set i0 none) ((cnt L - 1:Nat):Int) most:=h21.JE fun S=>fD.drew _ S
 have q2:Row w21.drew a2 _:=q2.drew
 have hb21:fD w w21.drew fun x=>x=b\/x=s:=((((f1 _).trans (f9 _) fun _ _ e=>e).trans f16 fun x hx e=> .inr e).trans f21 fun x hx e=> .inl e).trans (fD.drew _ _) fun _ _ e=>e
 have hpos:0<L.length:=by omega
 have hln:(L.set i0 none).length=L.length:=List.length_set
 have e3:Int.tmod (IntKind.i64.wrap ((i0:Int)+1)) ((L.set i0 none).length:Int)=((cy L.length (i0+1):Nat):Int):=by
  have:=Xw (m:=L.length) (from_:=i0) (i:=1) (by omega) hlt (by omega)
  rw [hln];exact this
 simp only [vU,List.getElem?_cons_zero,fA,fG,ru,q2.cell,h21.hd.cell]
 refine⟨by rw [hln];omega,?_⟩
 rw [e3]
 refine zo (Xr b _ _) ?_
 rintro r w31 ⟨g0,g1,rfl,p0,p1,lg0,lg1,f31⟩
 have h31:=h21.JE f31
 have q2:Row w31 a2 _:=q2.fr (f31 fun _=>False) (by simp)
 have hb31:fD w w31 fun x=>x=b\/x=s:=hb21.trans (f31 _) fun _ _ e=>e
 have hz31:=hb31.size
 have l2:=q2.lt
 have lp0:=p0.lt
 have lp1:=p1.lt
 have hz21:=hb21.size
 obtain⟨e,he0,z0⟩:=abP (L:=L) (at_:=i0) ⟨_,hi0⟩ (by omega)
 have hc0:cy L.length (i0+0)=i0:=by unfold cy;simp [hlt]
 have hH:∀k,oL k L.length<L.length:=fun k=>BM k hpos
 have t0:T (fun k=>oL k L.length) L (Xj L.length i0 e 0):=acp h.t fun i p hx=>hx.elim
 have t1:=clear z0 he0 hH t0
 have z1:=NH z0 he0
 rw [hc0] at t1 z1
 have he:=z0.e1
 have mid0:Mid w31 b s L (L.set i0 none) k most (Xj L.length i0 e (0+1)):=⟨h31,hln,t1,Kq h.t hi0,by have:=JL hi0;omega⟩
 refine Um (b:=b) (m:=L.length) (from_:=cy L.length (i0+1))
  (fun i W=>i+1<=e/\FI w31 W (·=s)/\∃Lc,Mid W b s L Lc k most (Xj L.length i0 e (i+1))/\Zone Lc i0 e (i+1))
  (fun x W=>x= .exit 0/\FI w31 W (·=s)/\∃Lc,Mid W b s L Lc k most fun _ _=>False)
  (by omega) (Jv (by omega)) ?_ ?_ ?_ ?_ ?_ ?_ ?_ ?_ ?_
 ·exact fun w1' hf hm hz=>⟨by omega,⟨hf _,hm,by omega⟩,_,mid0.fr (hf fun _=>False) (by simp) (by simp),z1⟩
 ·rintro i W ⟨_,hF,Lc,hm,_⟩
  refine⟨p0.fr hF.fr (by omega),p1.fr hF.fr (by omega),VD s Lc,?_⟩
  rw [hm.ht.hd.cell,<- hm.len];rfl
 ·rintro i W W' ⟨hi,hF,Lc,hm,hz⟩ hf
  exact⟨hi,hF.st hf,Lc,hm.fr hf (by omega) (by omega),hz⟩
 ·rintro x W W' ⟨rfl,hF,Lc,hm⟩ hf
  exact⟨by trivial,hF.st hf,Lc,hm.fr hf (by omega) (by omega)⟩
 ·exact fun x W hJ=> .inr ⟨0,hJ.1⟩
 ·rintro i W Kb hi ⟨hie,hF,Lc,hm,hz⟩ hn hj
  have hFz:=hF.size
  have zb:=(fD.fB W (w31.heap.size+1)).size
  have fb:fD w31 (fB W (w31.heap.size+1)) (·=s):=hF.fr.trans (fD.fB W _) fun x hx e=>by
   have e':x=w31.heap.size+1:=e
   omega
  have hm:Mid (fB W (w31.heap.size+1)) b s L Lc k most _:=hm.fr (fD.fB W _) (by omega) (by omega)
  have q2:=q2.fr fb (by omega)
  have hll:=hm.len
  rw [adJ hlt hi]
  generalize hp:cy L.length (i0+(i+1))=p
  have hpl:p<L.length:=by rw [<- hp];exact Jv (by omega)
  have hnc:Lc≠[]:=by rintro rfl;simp at hll;omega
  refine⟨by trivial,?_⟩
  simp only [vU,List.getElem?_cons_zero,fA,fG,ru,q2.cell,hm.ht.hd.cell]
  obtain⟨x,hx⟩:∃x,Lc[p]? =some x:=⟨_,List.getElem?_eq_getElem (by omega)⟩
  have c0:=hm.ht.ent hx 0 (by omega)
  simp only [Nat.add_zero] at c0
  refine uz (b:=s) (o:=0) (by simp [VD,hnc]) (by omega) (by simp only;omega) ?_
  simp only [sx,Int.toNat_natCast,c0,hm.ht.ent hx 1 (by omega),hm.ht.ent hx 2 (by omega),Js]
  refine NJ rfl rfl rfl fun a44 w47 q47 l47 f47=> ?_
  have fb47:fD w31 w47 (·=s):=fb.trans (f47 _) fun _ _ e=>e
  have z47:=(f47 fun _=>False).size
  have hm47:=hm.fr (f47 fun _=>False) (by simp) (by simp)
  have q2:=q2.fr (f47 fun _=>False) (by simp)
  have hk47:w47.heap[w31.heap.size+1]? =(fB W (w31.heap.size+1)).heap[w31.heap.size+1]? :=(f47 fun _=>False).same _ (by omega) (by simp)
  have hmk47:w47.heap[w31.heap.size]? =some (.deferred (some [])):=by rw [(f47 fun _=>False).same _ (by omega) (by simp),(fD.fB W _).same _ (by omega) (by omega)];exact hF.mark
  simp only [sx,q47.cell]
  cases x with
  |none=>
   simp only [eU,Bool.not_false,cond_true]
   have hj1:¬i+1<e:=fun hlt'=>by
    obtain⟨y,hy⟩:=hz.full (i+1) (Nat.le_refl _) hlt'
    rw [hll,hp,hx] at hy;cases hy
   have:i+1=e:=by omega
   subst this
   exact hj _ _ hk47 ⟨rfl,⟨fb47,hmk47,by omega⟩,Lc,hm47.ht,hm47.len,acp hm47.t fun i' p' hX=>adw _ _ _ _ _ hX,hm47.has,hm47.cnt⟩
  |some y=>
   obtain⟨k0,n0⟩:=y
   have hj1:i+1<e:=by
    rcases Nat.lt_or_ge (i+1) e with h|h
    ·exact h
    ·have:i+1=e:=by omega
     have hf:=hz.free
     rw [<- this,hll,hp,hx] at hf;cases hf
   simp only [eU,Bool.not_true,Jc,eN,cond_false,vU,List.getElem?_cons_zero,fA,fG,ru,q2.cell,hm47.ht.hd.cell] at q47 ⊢
   refine uz (b:=s) (o:=0) (by simp [VD,hnc]) (by omega) (by simp only;omega) ?_
   simp only [Int.toNat_natCast,Nat.zero_add]
   refine NV hm47.ht (by omega) none fun w55 h55 f55=> ?_
   have q2:=q2.fr f55 (by omega)
   have q55:=q47.fr f55 (by omega)
   simp only [Q9,List.getElem?_cons_zero,fA,ru,Na,Nat.zero_add,q2.cell,q55.cell]
   have hx':Lc[cy Lc.length (i0+(i+1))]? =some (some (k0,n0)):=by rw [hll,hp];exact hx
   have hmt:=hm.t
   rw [<- hll] at hmt
   obtain⟨hex,hstep⟩:=YF hz hj1 (by rw [hll];exact hH) hmt hx'
   rw [hll,hp] at hex
   have hln1:(Lc.set p none).length=L.length:=by rw [List.length_set,hll]
   have hn1:Lc.set p none≠[]:=by intro hx0;rw [hx0] at hln1;simp at hln1;omega
   obtain⟨d0,hd0⟩:=hex
   have hsz0:=h.keys k0 n0 ((hm.has k0 n0).1 ⟨p,hx⟩).2
   refine jc (OY h55 hn1 hsz0 ⟨d0,hd0.lt,by rw [hln1];exact hd0.stop⟩) ?_
   rintro at1 t1 w60 ⟨⟨d,hd,rfl,_⟩,f60⟩
   rw [hln1] at hd
   have h60:HT w60.drew b s (Lc.set p none) _ most:=(h55.JE f60).JE fun S=>fD.drew _ S
   have q60:=(q55.fr (f60 fun _=>False) (by simp)).drew
   have q2:=(q2.fr (f60 fun _=>False) (by simp)).drew
   obtain⟨hz2,ht2,hhas2,hcnt2⟩:=hstep d (by rw [hll,hp];exact hd)
   rw [hll,hp] at hz2 ht2 hhas2 hcnt2
   have hqlt:cy L.length (oL k0 L.length+d)<L.length:=Jv (by have:=hd.lt;have:=hH k0;omega)
   simp only [vU,List.getElem?_cons_zero,List.getElem?_cons_succ,fA,fG,fC,uf,ru,Na,q2.cell,q60.cell,h60.hd.cell]
   refine uz (b:=s) (o:=0) (by simp [VD,hn1]) (by omega) (by simp only;rw [hln1];omega) ?_
   simp only [Int.toNat_natCast,Nat.zero_add]
   rw [hln1]
   refine NV h60 (by rw [hln1];exact hqlt) (some (k0,n0)) fun w70 h70 f70=> ?_
   have f4770:fD w47 w70 (·=s):=((f55.trans (f60 _) fun _ _ e=>e).trans (fD.drew _ _) fun _ _ e=>e).trans f70 fun _ _ e=>e
   refine hn _ ?_ ⟨by omega,⟨fb47.trans f4770 fun _ _ e=>e,?_,by have:=f4770.size;omega⟩,_,⟨h70,?_,ht2,fun k' n'=> ?_,?_⟩,hz2⟩
   ·rw [f4770.same _ (by omega) (by omega)];exact hk47
   ·rw [f4770.same _ (by omega) (by omega)];exact hmk47
   ·simp [hll]
   ·rw [hhas2];exact hm.has k' n'
   ·rw [hcnt2];exact hm.cnt
 ·rintro W ⟨hi,_⟩
  omega
 ·rintro W ⟨hx,_⟩
  cases hx
 ·rintro id W ⟨hx,hF,Lc,hm⟩
  cases hx
  show Ir _ _ _
  refine⟨hF.mark,?_⟩
  have pf:=fD.putObj W w31.heap.size (.deferred none)
  have hm:=hm.fr pf (by omega) (by omega)
  refine⟨by simp [hM],⟨Lc,⟨?_,?_,?_,?_,h.most0,h.most1,?_,?_,?_⟩,?_⟩,?_⟩
  ·rw [hm.cnt];exact hm.ht
  ·have:=hm.t;rw [<- hm.len] at this;exact this
  ·have:=hm.cnt;have:=hm.len;omega
  ·intro k' n'
   rw [hm.has,upd]
   by_cases hkk:k'=k
   ·simp [hkk]
   ·simp [hkk,h.m]
  ·rw [hm.len];exact h.sz
  ·intro hx
   have:=hm.len
   rw [hx] at this;simp at this;omega
  ·exact fun k' n' hx=>h.keys k' n' ((hm.has k' n').1 hx).2
  ·have:=hm.cnt;simp [hM];omega
  ·exact(hb31.trans hF.fr fun x hx e=> .inr e).trans pf fun x hx e=>by
    have e':x=w31.heap.size:=e
    omega
end Go.Proofs
end
section
namespace Gp.V4
def tJ:Nat->Nat->List UInt8
 |0,_=>[]
 |k+1,n=>UInt8.ofNat (n / 256^k)::tJ k n
def wu (l:List UInt8):Nat:=l.foldl (fun n b=>n * 256+b.toNat) 0
theorem kD (k n:Nat):(tJ k n).length=k:=by
 induction k with
 |zero=>rfl
 |succ k ih=>simp [tJ,ih]
def tot:List UInt8->Nat
 |[]=>0
 |[a]=>a.toNat * 256
 |a::b::r=>a.toNat * 256+b.toNat+tot r
def fold (n:Nat):Nat:=if n=0 then 0 else (n - 1) % 65535+1
structure UU where
 tos:Int
 id:Int
 off:Int
 ttl:Int
 proto:Int
 src:Int
 dst:Int
 df:Bool
 mf:Bool
 opts:List UInt8
 data:List UInt8
deriving DecidableEq
def UU.zero:UU:=⟨0,0,0,0,0,0,0,false,false,[],[]⟩
def sizeOk (k:Int):Prop:=1<=k/\k<=4
instance (k:Int):Decidable (sizeOk k):=inferInstanceAs (Decidable (_/\_))
def fitsP (n k:Int):Prop:=sizeOk k/\0<=n/\n<256^k.toNat
instance (n k:Int):Decidable (fitsP n k):=inferInstanceAs (Decidable (_/\_))
def Xm (n:Int):Prop:=0<=n/\n<4294967296
instance (n:Int):Decidable (Xm n):=inferInstanceAs (Decidable (_/\_))
def UU.fine (p:UU):Prop:=(fitsP p.tos 1/\fitsP p.ttl 1/\fitsP p.proto 1/\fitsP p.id 2)/\(Xm p.src/\Xm p.dst)/\
 (0<=p.off/\p.off<=65528/\Int.tmod p.off 8=0/\(p.mf=true->p.data.length % 8=0))/\p.opts.length<=40/\p.opts.length % 4=0
instance (p:UU):Decidable p.fine:=inferInstanceAs (Decidable (_/\_))
def UU.short (p:UU):Prop:=20+p.opts.length+p.data.length<=65535/\p.off<=65535 - (p.data.length:Int)
instance (p:UU):Decidable p.short:=inferInstanceAs (Decidable (_/\_))
def UU.bits (p:UU):Nat:=p.off.toNat / 8+(if p.df then 16384 else 0)+(if p.mf then 8192 else 0)
def UU.head (p:UU) (s:Nat):List UInt8:=
 tJ 1 (64+(20+p.opts.length) / 4)++tJ 1 p.tos.toNat++tJ 2 (20+p.opts.length+p.data.length)++tJ 2 p.id.toNat++tJ 2 p.bits++tJ 1 p.ttl.toNat++tJ 1 p.proto.toNat++tJ 2 s++tJ 4 p.src.toNat++tJ 4 p.dst.toNat++p.opts
def UU.sum (p:UU):Nat:=65535 - fold (tot (p.head 0))
def UU.bytes (p:UU):List UInt8:=p.head p.sum++p.data
def num (b:List UInt8) (at_ k:Nat):Nat:=wu ((b.drop at_).take k)
def hlen (b:List UInt8):Nat:=((b[0]?).getD 0).toNat % 16 * 4
def field (b:List UInt8):UU:=
 let f:=num b 6 2
 ⟨num b 1 1,num b 4 2,(f % 8192 * 8:Nat),num b 8 1,num b 9 1,num b 12 4,num b 16 4,f / 16384 % 2==1,f / 8192 % 2==1,(b.take (hlen b)).drop 20,(b.take (num b 2 2)).drop (hlen b)⟩
end Gp.V4
end
section
namespace Go.Proofs
open Gp Gp.V4
set_option maxRecDepth 100000
theorem Yw {e:TypeId} {w:World} {x:b_} {m:List UInt8} (hx:rO w x m) (hl:m.length<=2^46) {K:b_->World->Prop}
  (hK:∀r w',Buf w' r (bytesV m)->(r.a=none↔x.a=none)->Ext w w'->(∀b,b_.at r b->w.heap.size<=b)->K r w'):
  (bif (Option.isNone x.a) then K ⟨none,0,0⟩ w else Al w (.cells ⟨[]⟩ e) fun a3 w2=>rY e 1 1 [(Value.int .u8 0)] ⟨(some a3),0,0⟩ x w2 K):=by
 cases hxa:x.a with
 |none=>
  simp only [Option.isNone_none,cond_true]
  have:=hx.empty hxa
  subst this
  exact hK _ _ Buf.nil (by simp [hxa]) (Ext.refl _) fun b ⟨o,h⟩=>by cases h
 |some a=>
  simp only [Option.isNone_some,cond_false]
  refine fK fun b w2 r2 e2 _ f2=> ?_
  have hx2:=hx.ext f2
  refine uX (l:=[]) ⟨rfl,.inr ⟨b,[],rfl,rfl,by simpa [bytesV] using r2⟩⟩ hx2 (by simpa using hl) fun s' w' h1 h2 h3 h4=> ?_
  refine hK _ _ (by simpa using h1) (by rw [hxa];exact⟨fun h=>by have:=(h4 h).2;simp at this,fun h=>by simp at h⟩) (fD.new (Ext.fr f2 h2) ?_) (fun c hc=> ?_)
  ·rintro y hy ⟨o,e⟩
   cases e;omega
  ·rcases h3 c hc with ⟨o,e⟩|h
   ·cases e;omega
   ·have:=(f2 fun _=>False).size;omega
theorem Ph {w:World} {x:b_} {m:List UInt8} (hx:rO w x m) (hl:m.length<=2^46):
  jv x w fun r w'=>Buf w' r (bytesV m)/\(r.a=none↔x.a=none)/\Ext w w'/\∀b,b_.at r b->w.heap.size<=b:=by
 apply zZ
 exact Yw (K:=fun r w'=>Buf w' r (bytesV m)/\(r.a=none↔x.a=none)/\Ext w w'/\∀b,b_.at r b->w.heap.size<=b) hx hl fun r w' h1 h2 h3 h4=>⟨h1,h2,h3,h4⟩
theorem xP (k:Int) (w:World):wP k w fun r w'=>r=decide (sizeOk k)/\w'=w:=by
 apply Ua
 by_cases h1:k>=1
 ·by_cases h2:k<=4
  ·have:sizeOk k:=⟨h1,h2⟩
   simp [h1,h2,this]
  ·have:¬sizeOk k:=fun h=>h2 h.2
   simp [h1,h2,this]
 ·have:¬sizeOk k:=fun h=>h1 h.1
  simp [h1,this]
theorem adt {n:Int} {i:Nat} (hi:i<=7) (hn:0<=n):jU .i64 n (IntKind.i64.wrap (8 * (i:Int)))=((n.toNat / 256^i:Nat):Int):=by
 rw [wrap_i64 (by omega) (by omega)]
 unfold jU
 have e:(2:Int)^(min ((8:Int) * (i:Int)).toNat (IntKind.bits .i64))=((256^i:Nat):Int):=by
  have:i=0\/i=1\/i=2\/i=3\/i=4\/i=5\/i=6\/i=7:=by omega
  rcases this with rfl|rfl|rfl|rfl|rfl|rfl|rfl|rfl<;>decide
 rw [e,Int.fdiv_eq_ediv_of_nonneg _ (Int.natCast_nonneg _),Int.natCast_ediv,Int.toNat_of_nonneg hn]
theorem Zj {n k:Int} (hk:sizeOk k) (hn:0<=n):(jU .i64 n (IntKind.i64.wrap (8 * k))==0)=decide (n<256^k.toNat):=by
 obtain⟨h1,h2⟩:=hk
 obtain⟨m,rfl⟩:∃m:Nat,k=(m:Int):=⟨k.toNat,by omega⟩
 rw [adt (by omega) hn]
 have hp:0<256^m:=Nat.pow_pos (by omega)
 obtain⟨x,rfl⟩:∃x:Nat,n=(x:Int):=⟨n.toNat,by omega⟩
 have e:((256:Int)^(m:Int).toNat)=((256^m:Nat):Int):=by simp
 rw [e]
 simp only [Int.toNat_natCast]
 by_cases h:x<256^m
 ·have:x / 256^m=0:=Nat.div_eq_of_lt h
  have h':((x:Int)<((256^m:Nat):Int)):=by omega
  rw [this];simp only [h',decide_true];rfl
 ·have:1<=x / 256^m:=(Nat.le_div_iff_mul_le hp).2 (by omega)
  have h':¬((x:Int)<((256^m:Nat):Int)):=by omega
  simp only [h',decide_false,beq_eq_false_iff_ne,ne_eq]
  omega
theorem XE (n k:Int) (w:World):yT n k w fun r w'=>r=decide (fitsP n k)/\w'=w:=by
 apply Wq
 refine Lp (xP k w) ?_
 rintro r w1 ⟨rfl,rfl⟩
 by_cases hk:sizeOk k
 ·by_cases hn:n>=0
  ·simp only [hk,hn,decide_true,cond_true]
   refine⟨by have:=hk.1;have:=hk.2;rw [wrap_i64 (by omega) (by omega)];omega,?_,by trivial⟩
   rw [Zj hk hn]
   simp [fitsP,hk,hn]
  ·simp only [hk,hn,decide_true,decide_false,cond_true,cond_false]
   have:¬fitsP n k:=fun h=>hn h.2.1
   exact⟨by simp [this],by trivial⟩
 ·simp only [hk,decide_false,cond_false]
  exact⟨by simp [fitsP,hk],by trivial⟩
def yB (l:List UInt8):List (DC [.one (.int .u8)]):=l.map fun b=>((b.toNat:Int),())
theorem aay (l:List UInt8) (i:Nat):(yB l)[i]? =(l[i]?).map fun b=>((b.toNat:Int),()):=by simp [yB]
theorem X3:∀(k n i:Nat),i<k->(tJ k n)[i]? =some (UInt8.ofNat (n / 256^(k - 1 - i)))
 |0,_,_,h=>by omega
 |k+1,n,0,_=>by simp [tJ]
 |k+1,n,i+1,h=>by
  simp only [tJ,List.getElem?_cons_succ]
  rw [X3 k n i (by omega),show k+1 - 1 - (i+1)=k - 1 - i by omega]
theorem UL {n:Int} {k f0 f1:Nat} (hk:k<=4) (hn:0<=n):
  n_ Tryz.prog [.one (.int .u8)] (Value.func (.func P8) #[] #[(Value.pointer (some ⟨f0,0,none⟩)),(Value.pointer (some ⟨f1,0,none⟩))])
   (fun W=>Row W f0 [.int .i64 (k:Int)]/\Row W f1 [.int .i64 n]) (yB (tJ k n.toNat)):=by
 refine⟨by kernel_rfl,fun l Q D hC hQ hD hy w h0=> ?_⟩
 refine Calls.mono (NR (a0:= .func (.yield l) #[] #[]) (f0:=⟨f0,0,none⟩) (f1:=⟨f1,0,none⟩) (K:=fun w'=>Q (yB (tJ k n.toNat)).length w'\/D w') ?_) (fun e w' h=>h)
 have hlen:(yB (tJ k n.toNat)).length=k:=by simp [yB,kD]
 obtain⟨r0,_⟩:=hC _ _ h0
 simp only [sx,r0.cell]
 rw [hlen]
 refine fE (fun st W=>∃i:Nat,i<=k/\st.1=(k:Int) - 1 - i/\Q i W) (fun st _=>(st.1+1).toNat) ⟨0,by omega,by rw [wrap_i64 (by omega) (by omega)];simp,h0⟩ ?_
 rintro⟨x,⟨⟩⟩ W ⟨i,hi,hx,hq⟩ next hnext
 simp only at hx
 by_cases hlt:i<k
 ·have hx0:x>=0:=by omega
  obtain⟨_,r1⟩:=hC _ _ hq
  simp only [sx,hx0,decide_true,r1.cell]
  refine⟨by rw [wrap_i64 (by omega) (by omega)];omega,?_⟩
  obtain⟨j,rfl⟩:∃j:Nat,x=(j:Int):=⟨x.toNat,by omega⟩
  rw [adt (by omega) hn]
  have hj:j=k - 1 - i:=by omega
  have e:IntKind.u8.wrap ((n.toNat / 256^j:Nat):Int)=(((UInt8.ofNat (n.toNat / 256^j)).toNat:Nat):Int):=by
   rw [IntKind.wrap_u8];simp
  rw [e]
  refine oK (hy i ((((UInt8.ofNat (n.toNat / 256^j)).toNat:Nat):Int),()) W _ ?_ hq ?_ ?_)
  ·rw [aay,X3 _ _ _ hlt,<- hj];rfl
  ·intro W' hq'
   refine⟨true,rfl,?_⟩
   simp only [Bool.not_true,cond_false]
   rw [wrap_i64 (by omega) (by omega)]
   exact hnext _ _ ⟨i+1,by omega,by simp only;omega,hq'⟩ (by simp only;omega)
  ·intro W' hd
   refine⟨false,rfl,?_⟩
   simp only [Bool.not_false,cond_true]
   exact .inr hd
 ·have hx0:¬x>=0:=by omega
  simp only [hx0,decide_false,cond_false]
  have:i=k:=by omega
  subst this
  exact .inl hq
def Xz (w0 w:World) (v:Value) (l:List UInt8):Prop:=
 ∃C,n_ Tryz.prog [.one (.int .u8)] v C (yB l)/\∀W S,fD w W S->(∀b,w0.heap.size<=b->b<w.heap.size->¬S b)->C W
theorem Yb {n k:Int} (hk:sizeOk k) (hn:0<=n) (w:World):xX n k w fun v w'=>Ext w w'/\Xz w w' v (tJ k.toNat n.toNat):=by
 apply Rj
 refine⟨rfl,fK fun a w1 r1 e1 z1 f1=>⟨rfl,fK fun b w2 r2 e2 z2 f2=> ?_⟩⟩
 have r1':=r1.ext f2
 obtain⟨m,rfl⟩:∃m:Nat,k=(m:Int):=⟨k.toNat,by have:=hk.1;omega⟩
 refine⟨f1.trans f2,_,UL (by have:=hk.2;omega) hn,fun W S hf hs=>⟨r2.fr hf (hs _ ?_ ?_),r1'.fr hf (hs _ ?_ ?_)⟩⟩<;>omega
theorem RN {w0 w:World} {s:b_} {v:Value} {l m:List UInt8} (hs:Buf w s (bytesV l)) (hv:Xz w0 w v m) (hd:∀b,b_.at s b->¬(w0.heap.size<=b/\b<w.heap.size)) (hl:l.length+m.length<=2^46):
  iQ s v w fun r w'=>Buf w' r (bytesV (l++m))/\fD w w' (b_.at s)/\(∀b,b_.at r b->b_.at s b\/w.heap.size<=b)/\(r.a=none->l++m=[]/\s.a=none):=by
 obtain⟨C,hi,hC⟩:=hv
 apply xZ
 refine⟨rfl,fK fun a w1 r1 e1 z1 f1=> ?_⟩
 have hlen:(yB m).length=m.length:=by simp [yB]
 have hat:∀b,b_.at s b->b<w.heap.size:=fun b hb=>hs.lt hb
 refine xA hi (fun i W=>∃t:b_,Row W a [.slice t.a t.len t.cap]/\Buf W t (bytesV (l++m.take i))/\fD w W (b_.at s)/\(∀b,b_.at t b->b_.at s b\/(w.heap.size<=b/\b≠a/\b≠lg none w1/\b≠w1.heap.size))/\(t.a=none->l++m.take i=[]/\s.a=none)/\lg none w1<W.heap.size)
  (fun _ _=>False) (by simp) ?_ ?_ ?_ (by intro e W W' h;exact h.elim) (by intro e W h;exact h.elim) ?_ ?_ (by intro W h;exact h.elim) (by intro id W h;exact h.elim)
 ·intro w2 f2 z2
  refine⟨s,r1.ext f2,by simpa using (hs.ext f1).ext f2,(f1.trans f2) _,fun b hb=> .inl hb,?_,by omega⟩
  simp only [List.take_zero,List.append_nil]
  intro ha
  obtain⟨_,⟨_,h2,_⟩|⟨c,pad,h2,_⟩⟩:=hs
  ·exact⟨by simpa [bytesV] using h2,ha⟩
  ·rw [ha] at h2;cases h2
 ·rintro i W ⟨t,_,_,hf,_⟩
  exact hC W _ hf fun b h1 h2 h3=>hd b h3 ⟨h1,h2⟩
 ·rintro i W W' ⟨t,h1,h2,h3,h4,h5,h6⟩ hf
  have hla:lg none w1=w1.heap.size+1:=rfl
  refine⟨t,h1.fr hf (by omega),h2.fr hf fun b hb e=> ?_,h3.trans hf (fun b hb e=>by omega),h4,h5,by have:=hf.size;omega⟩
  rcases h4 b hb with h|h
  ·have:=hat b h;omega
  ·omega
 ·intro i x W Kb hx ⟨t,h1,h2,h3,h4,h5,h6⟩ hlt hnorm _
  refine⟨rfl,?_⟩
  have hla:lg none w1=w1.heap.size+1:=rfl
  rw [aay] at hx
  cases hb:m[i]? with
  |none=>rw [hb] at hx;simp at hx
  |some y=>
  rw [hb] at hx
  simp only [Option.map_some,Option.some.injEq] at hx
  subst hx
  have fb:=fD.fB W (lg none w1)
  have h1':=h1.fr fb (by omega)
  have h2':Buf (fB W (lg none w1)) t (bytesV (l++m.take i)):=h2.fr fb fun b hb e=>by
   rcases h4 b hb with h|h
   ·have:=hat b h;omega
   ·omega
  simp only [sx,h1'.cell]
  have hil:i<m.length:=(List.getElem?_eq_some_iff.1 hb).1
  refine fK fun c w3 r3 e3 z3 f3=> ?_
  have hz3:w3.heap.size=W.heap.size+1:=by rw [z3,e3];simp [fB]
  have hx3:rO w3 ⟨some ⟨c,0,none⟩,1,1⟩ [y]:= .IB (rO.row (l:=[y]) (by simpa [bytesV] using r3))
  have h2'':=h2'.ext f3
  refine uX h2'' hx3 (by simp;omega) fun s' w4 b4 f4 p4 n4=> ?_
  have hta:¬b_.at t a:=fun h=>by
   rcases h4 a h with h|h
   ·have:=hat a h;omega
   ·exact h.2.1 rfl
  have h1'':=(h1'.ext f3).fr f4 hta
  refine gu h1'' rfl (by simp) fun w5 r5 f5 z5=> ?_
  simp only [List.set_cons_zero] at r5
  have hbz:(fB W (lg none w1)).heap.size=W.heap.size:=by simp [fB]
  have hsa:∀b,b_.at s' b->b≠a:=fun b hb e=>by
   rcases p4 b hb with h|h
   ·exact hta (e ▸ h)
   ·have:=h1.lt;omega
  refine hnorm w5 (fun b=>b_.at t b\/b=a) ?_ ?_ ⟨s',r5,?_,?_,?_,?_,?_⟩
  ·exact((f3 _).trans (f4.mono fun b h=> .inl h) fun _ _ e=>e).trans (f5 (fun b=>b_.at t b\/b=a) (.inr rfl)) fun _ _ e=>e
  ·rintro b hb1 hb2 (h|h)
   ·rcases h4 b h with h|h
    ·have:=hat b h;omega
    ·rcases Nat.lt_or_ge b (lg none w1) with hx|hx<;>omega
   ·omega
  ·have e:l++m.take (i+1)=l++m.take i++[y]:=by
    rw [List.take_succ_eq_append_getElem hil]
    have:m[i]=y:=by rw [List.getElem?_eq_getElem hil] at hb;simpa using hb
    simp [this]
   rw [e]
   exact b4.fr (f5 (·=a) rfl) fun b hb e=>hsa b hb e
  ·refine((h3.trans fb fun b hb e=>by omega).ext f3).trans (S':=fun b=>b_.at t b\/b=a) ((f4.mono fun b h=> .inl h).trans (f5 (fun b=>b_.at t b\/b=a) (.inr rfl)) fun _ _ e=>e) ?_
   rintro b hb (h|h)
   ·rcases h4 b h with h|h
    ·exact h
    ·omega
   ·omega
  ·intro b hb
   rcases p4 b hb with h|h
   ·exact h4 b h
   ·refine .inr ⟨by have:=h3.size;omega,hsa b hb,?_,?_⟩<;>omega
  ·intro ha
   obtain⟨h1,h2⟩:=n4 ha
   simp at h1
  ·have:=f4.size;omega
 ·rintro W ⟨t,h1,h2,h3,h4,h5,h6⟩ hm
  have hla:lg none w1=w1.heap.size+1:=rfl
  simp only [sx,h1.cell]
  rw [hlen,List.take_length] at h2 h5
  refine⟨hm rfl,?_,?_,?_,h5⟩
  ·exact h2.fr (fD.jC _ _ _) fun b hb e=>by
    rcases h4 b hb with h|h
    ·have:=hat b h;omega
    ·omega
  ·exact h3.trans (fD.jC _ _ _) fun b hb e=>by omega
  ·intro b hb
   rcases h4 b hb with h|h
   ·exact .inl h
   ·exact .inr h.1
def Gt (l:List UInt8) (n k:Int):List UInt8:=if fitsP n k then l++tJ k.toNat n.toNat else l
theorem RU {w:World} {s:b_} {l:List UInt8} (hs:rO w s l) (hl:l.length+4<=2^46) (n k:Int):
  yc s n k w fun r w'=>Buf w' r (bytesV (Gt l n k))/\Ext w w'/\(∀b,b_.at r b->w.heap.size<=b):=by
 apply YZ
 refine Ac (Ph hs (by omega)) ?_
 rintro r w1 ⟨b1,_,f1,n1⟩
 refine PE (XE n k w1) ?_
 rintro _ _ ⟨rfl,rfl⟩
 by_cases hf:fitsP n k
 ·simp only [hf,decide_true,Bool.not_true,cond_false]
  refine Rx (Yb hf.1 hf.2.1 _) ?_
  rintro v w2 ⟨f2,hv⟩
  have hk:=hf.1
  refine xK (RN (b1.ext f2) hv (fun b hb h=>by have:=b1.lt hb;omega) (by rw [kD];have:=hk.2;omega)) ?_
  rintro r' w3 ⟨b3,f3,n3,_⟩
  refine⟨by simpa [Gt,hf] using b3,(f1.trans f2).new f3 fun b hb h=>by have:=n1 b h;omega,fun b hb=> ?_⟩
  have:=f1.size
  have:=f2.size
  rcases n3 b hb with h|h
  ·exact n1 b h
  ·omega
 ·simp only [hf,decide_false,Bool.not_false,cond_true]
  exact⟨by simpa [Gt,hf] using b1,f1,n1⟩
end Go.Proofs
end
section
namespace Gp.Bind
open Gp.V4
def keyB (l:List Int):List UInt8:=l.flatMap fun n=>tJ 8 (n % 18446744073709551616).toNat
def keyS (l:List Int):ByteArray:=⟨⟨keyB l⟩⟩
def In64 (n:Int):Prop:= -9223372036854775808<=n/\n<=9223372036854775807
theorem Oq (l:List Int):(keyB l).length=l.length * 8:=by
 induction l with
 |nil=>rfl
 |cons n l ih=>
  have:keyB (n::l)=tJ 8 (n % 18446744073709551616).toNat++keyB l:=rfl
  rw [this,List.length_append,kD,ih,List.length_cons];omega
structure Bnd where
 sw:Int
 pr:Int
 ad:Int
 po:Int
 opr:Int
 oad:Int
 opo:Int
 st:Bool
deriving DecidableEq
def Bnd.i (b:Bnd):List Int:=[b.sw,b.pr,b.ad,b.po]
def Bnd.o (b:Bnd):List Int:=[b.opr,b.oad,b.opo]
def Bnd.ok (b:Bnd):Prop:=(∀n∈b.i,In64 n)/\∀n∈b.o,In64 n
abbrev Slots:=List (Option Bnd)
def live:Nat->Slots->List (Int×Bnd)
 |_,[]=>[]
 |i,none::r=>live (i+1) r
 |i,some b::r=>((i:Int),b)::live (i+1) r
theorem nX:∀{S:Slots} {k:Nat} {v:Int} {b:Bnd},(v,b)∈live k S↔∃i:Nat,S[i]? =some (some b)/\v=((k+i:Nat):Int)
 |[],k,v,b=>by simp [live]
 |none::r,k,v,b=>by
  rw [live,nX]
  constructor
  ·rintro⟨i,h1,h2⟩
   exact⟨i+1,by simpa using h1,by omega⟩
  ·rintro⟨i,h1,h2⟩
   cases i with
   |zero=>simp at h1
   |succ i=>exact⟨i,by simpa using h1,by omega⟩
 |some c::r,k,v,b=>by
  rw [live,List.mem_cons,nX]
  constructor
  ·rintro(h|⟨i,h1,h2⟩)
   ·simp only [Prod.mk.injEq] at h
    exact⟨0,by simp [h.2],by omega⟩
   ·exact⟨i+1,by simpa using h1,by omega⟩
  ·rintro⟨i,h1,h2⟩
   cases i with
   |zero=>
    simp only [List.getElem?_cons_zero,Option.some.injEq] at h1
    left;rw [h1,h2];rfl
   |succ i=>right;exact⟨i,by simpa using h1,by omega⟩
theorem jT:∀(S:Slots) (k:Nat),(live k S).length<=S.length
 |[],_=>by simp [live]
 |none::r,k=>by have:=jT r (k+1);simp [live];omega
 |some b::r,k=>by have:=jT r (k+1);simp [live];omega
def freeN:Slots->Option Nat
 |[]=>none
 |none::_=>some 0
 |some _::r=>(freeN r).map (·+1)
theorem uO:∀{S:Slots} {i:Nat} (k:Nat),freeN S=some i->i<S.length/\S[i]? =some none/\(live k S).length<S.length/\i<=(live k S).length/\(∀j,j<i->∃b,(live k S)[j]? =some (((k+j:Nat):Int),b)/\S[j]? =some (some b))/\
  (∀v b,(live k S)[i]? =some (v,b)->v≠((k+i:Nat):Int))/\∀b,live k (S.set i (some b))=(live k S).take i++(((k+i:Nat):Int),b)::(live k S).drop i
 |[],i,_,h=>by simp [freeN] at h
 |none::r,i,k,h=>by
  simp [freeN] at h
  subst h
  have hl:=jT r (k+1)
  refine⟨by simp,rfl,by simp [live];omega,by omega,by omega,fun v b hv=> ?_,fun b=>by simp [live]⟩
  have:=List.mem_of_getElem? hv
  rw [live,nX] at this
  obtain⟨j,_,hj⟩:=this
  omega
 |some c::r,i,k,h=>by
  simp only [freeN,Option.map_eq_some_iff] at h
  obtain⟨i',h',rfl⟩:=h
  obtain⟨h1,h2,h3,h4,h5,h6,h7⟩:=uO (k+1) h'
  refine⟨by simp;omega,by simpa using h2,by simp [live];omega,by simp [live];omega,fun j hj=> ?_,fun v b hv=> ?_,fun b=> ?_⟩
  ·cases j with
   |zero=>exact⟨c,by simp [live],by simp⟩
   |succ j=>
    obtain⟨b,g1,g2⟩:=h5 j (by omega)
    refine⟨b,?_,by simpa using g2⟩
    rw [live,List.getElem?_cons_succ,g1,show k+1+j=k+(j+1) by omega]
  ·rw [live,List.getElem?_cons_succ] at hv
   have:=h6 v b hv
   rwa [show k+1+i'=k+(i'+1) by omega] at this
  ·rw [List.set_cons_succ,live,h7 b,live,List.take_succ_cons,List.drop_succ_cons,show k+1+i'=k+(i'+1) by omega]
   rfl
theorem mP:∀{S:Slots} {i:Nat} {b:Bnd} (k:Nat),S[i]? =some (some b)->(live k (S.set i none)).length+1=(live k S).length
 |[],_,_,_,h=>by simp at h
 |c::r,0,b,k,h=>by
  simp at h;subst h;simp [live]
 |none::r,i+1,b,k,h=>by
  rw [List.set_cons_succ,live,live];exact mP (k+1) (by simpa using h)
 |some c::r,i+1,b,k,h=>by
  rw [List.set_cons_succ,live,live,List.length_cons,List.length_cons,mP (k+1) (by simpa using h)]
structure GoodB (S:Slots) (Mi Mo:ByteArray->Option Int):Prop where
 i:∀k v,Mi k=some v↔∃(j:Nat) (b:Bnd),S[j]? =some (some b)/\keyS b.i=k/\v=(j:Int)
 o:∀k v,Mo k=some v↔∃(j:Nat) (b:Bnd),S[j]? =some (some b)/\keyS b.o=k/\v=(j:Int)
 ok:∀(j:Nat) (b:Bnd),S[j]? =some (some b)->b.ok
def upd (M:ByteArray->Option Int) (k:ByteArray) (v:Option Int):ByteArray->Option Int:=fun x=>if x=k then v else M x
theorem fU {S:Slots} {i j:Nat} {v:Option Bnd} (hi:i<S.length):(S.set i v)[j]? =if i=j then some v else S[j]? :=by
 rw [List.getElem?_set]
 split
 ·rename_i h;subst h;simp []
 ·rfl
theorem GoodB.add {S:Slots} {Mi Mo:ByteArray->Option Int} (h:GoodB S Mi Mo) {i:Nat} {b:Bnd} (hi:S[i]? =some none) (hb:b.ok) (h1:Mi (keyS b.i)=none) (h2:Mo (keyS b.o)=none):
  GoodB (S.set i (some b)) (upd Mi (keyS b.i) (some i)) (upd Mo (keyS b.o) (some i)):=by
 have hl:i<S.length:=(List.getElem?_eq_some_iff.1 hi).1
 refine⟨fun k v=> ?_,fun k v=> ?_,fun j c hc=> ?_⟩
 ·unfold upd
  by_cases hk:k=keyS b.i
  ·rw [if_pos hk]
   constructor
   ·intro e;exact⟨i,b,by rw [fU hl,if_pos rfl],hk.symm,by simpa using e.symm⟩
   ·rintro⟨j,c,hc,hk2,rfl⟩
    rw [fU hl] at hc
    split at hc
    ·rename_i e;subst e;rfl
    ·have:=(h.i k j).2 ⟨j,c,hc,hk2,rfl⟩
     rw [hk,h1] at this;cases this
  ·rw [if_neg hk,h.i]
   constructor
   ·rintro⟨j,c,hc,hk2,rfl⟩
    refine⟨j,c,?_,hk2,rfl⟩
    rw [fU hl,if_neg]
    ·exact hc
    ·rintro rfl;rw [hi] at hc;cases hc
   ·rintro⟨j,c,hc,hk2,rfl⟩
    rw [fU hl] at hc
    split at hc
    ·rename_i e;subst e;simp only [Option.some.injEq] at hc;subst hc;exact absurd hk2.symm hk
    ·exact⟨j,c,hc,hk2,rfl⟩
 ·unfold upd
  by_cases hk:k=keyS b.o
  ·rw [if_pos hk]
   constructor
   ·intro e;exact⟨i,b,by rw [fU hl,if_pos rfl],hk.symm,by simpa using e.symm⟩
   ·rintro⟨j,c,hc,hk2,rfl⟩
    rw [fU hl] at hc
    split at hc
    ·rename_i e;subst e;rfl
    ·have:=(h.o k j).2 ⟨j,c,hc,hk2,rfl⟩
     rw [hk,h2] at this;cases this
  ·rw [if_neg hk,h.o]
   constructor
   ·rintro⟨j,c,hc,hk2,rfl⟩
    refine⟨j,c,?_,hk2,rfl⟩
    rw [fU hl,if_neg]
    ·exact hc
    ·rintro rfl;rw [hi] at hc;cases hc
   ·rintro⟨j,c,hc,hk2,rfl⟩
    rw [fU hl] at hc
    split at hc
    ·rename_i e;subst e;simp only [Option.some.injEq] at hc;subst hc;exact absurd hk2.symm hk
    ·exact⟨j,c,hc,hk2,rfl⟩
 ·rw [fU hl] at hc
  split at hc
  ·simp only [Option.some.injEq] at hc;subst hc;exact hb
  ·exact h.ok j c hc
theorem GoodB.one {S:Slots} {Mi Mo:ByteArray->Option Int} (h:GoodB S Mi Mo) {i j:Nat} {b c:Bnd} (hi:S[i]? =some (some b)) (hj:S[j]? =some (some c)) (e:keyS b.i=keyS c.i\/keyS b.o=keyS c.o):i=j:=by
 rcases e with e|e
 ·have h1:=(h.i _ i).2 ⟨i,b,hi,rfl,rfl⟩
  have h2:=(h.i _ j).2 ⟨j,c,hj,rfl,rfl⟩
  rw [e,h2] at h1
  simp at h1;omega
 ·have h1:=(h.o _ i).2 ⟨i,b,hi,rfl,rfl⟩
  have h2:=(h.o _ j).2 ⟨j,c,hj,rfl,rfl⟩
  rw [e,h2] at h1
  simp at h1;omega
theorem GoodB.remove {S:Slots} {Mi Mo:ByteArray->Option Int} (h:GoodB S Mi Mo) {i:Nat} {b:Bnd} (hi:S[i]? =some (some b)):
  GoodB (S.set i none) (upd Mi (keyS b.i) none) (upd Mo (keyS b.o) none):=by
 have hl:i<S.length:=(List.getElem?_eq_some_iff.1 hi).1
 refine⟨fun k v=> ?_,fun k v=> ?_,fun j c hc=> ?_⟩
 ·unfold upd
  by_cases hk:k=keyS b.i
  ·rw [if_pos hk]
   constructor
   ·intro e;cases e
   ·rintro⟨j,c,hc,hk2,rfl⟩
    rw [fU hl] at hc
    split at hc
    ·cases hc
    ·rename_i e;exact absurd (h.one hi hc (.inl (by rw [hk2,hk]))) e
  ·rw [if_neg hk,h.i]
   constructor
   ·rintro⟨j,c,hc,hk2,rfl⟩
    refine⟨j,c,?_,hk2,rfl⟩
    rw [fU hl,if_neg]
    ·exact hc
    ·rintro rfl;rw [hi] at hc;simp only [Option.some.injEq] at hc;subst hc;exact hk hk2.symm
   ·rintro⟨j,c,hc,hk2,rfl⟩
    rw [fU hl] at hc
    split at hc
    ·cases hc
    ·exact⟨j,c,hc,hk2,rfl⟩
 ·unfold upd
  by_cases hk:k=keyS b.o
  ·rw [if_pos hk]
   constructor
   ·intro e;cases e
   ·rintro⟨j,c,hc,hk2,rfl⟩
    rw [fU hl] at hc
    split at hc
    ·cases hc
    ·rename_i e;exact absurd (h.one hi hc (.inr (by rw [hk2,hk]))) e
  ·rw [if_neg hk,h.o]
   constructor
   ·rintro⟨j,c,hc,hk2,rfl⟩
    refine⟨j,c,?_,hk2,rfl⟩
    rw [fU hl,if_neg]
    ·exact hc
    ·rintro rfl;rw [hi] at hc;simp only [Option.some.injEq] at hc;subst hc;exact hk hk2.symm
   ·rintro⟨j,c,hc,hk2,rfl⟩
    rw [fU hl] at hc
    split at hc
    ·cases hc
    ·exact⟨j,c,hc,hk2,rfl⟩
 ·rw [fU hl] at hc
  split at hc
  ·cases hc
  ·exact h.ok j c hc
def getS (S:Slots) (id:Int):Option Bnd:=if 0<=id then (S[id.toNat]?).join else none
theorem Bv {S:Slots} {id:Int} {b:Bnd}:getS S id=some b↔0<=id/\S[id.toNat]? =some (some b):=by
 unfold getS
 split
 ·rename_i h
  rw [Option.join_eq_some_iff]
  simp [h]
 ·rename_i h;simp [h]
end Gp.Bind
end
