import Derived.Test.YtfndjkoiappemaaGreatW6
import Derived.Test.YtfndjkoiappemaaGreatW3
import Derived.Test.YtfndjkoiappemaaGreatW2
import Derived.Shelf.SlSortCmp.WholeK
section
namespace Gp.Wh
structure Tm where
 id:Int
 a:Nat
 tn:Int
deriving DecidableEq
def Lv (now a n:Nat):Prop:=now / 64^(n+1)=a / 64^(n+1)/\(n=0\/now / 64^n≠a / 64^n)
def dg (a n:Nat):Nat:=a / 64^n % 64
theorem vG (a n:Nat):a / 64^(n+1)=a / 64^n / 64:=by rw [Nat.pow_succ,Nat.div_div_eq_div_mul]
theorem Hz {x y n m:Nat} (h:x / 64^n=y / 64^n) (hm:n<=m):x / 64^m=y / 64^m:=by
 obtain⟨k,rfl⟩:=Nat.exists_eq_add_of_le hm
 rw [Nat.pow_add,<- Nat.div_div_eq_div_mul,<- Nat.div_div_eq_div_mul,h]
theorem Lv.uniq {now a n m:Nat} (h:Lv now a n) (g:Lv now a m):n=m:=by
 rcases Nat.lt_trichotomy n m with hl|hl|hl
 ·exact absurd (Hz h.1 hl) (by rcases g.2 with e|e;omega;exact e)
 ·exact hl
 ·exact absurd (Hz g.1 hl) (by rcases h.2 with e|e;omega;exact e)
theorem Lv.self (now:Nat):Lv now now 0:=⟨rfl,.inl rfl⟩
theorem Jd {a n:Nat} (h:a<=2^40) (hn:7<=n):a / 64^n=0:=by
 refine Nat.div_eq_of_lt (Nat.lt_of_lt_of_le ?_ (Nat.pow_le_pow_right (by omega) hn))
 omega
theorem Lv.lt {now a n:Nat} (h:Lv now a n) (h1:now<=2^40) (h2:a<=2^40):n<7:=by
 rcases h.2 with e|e
 ·omega
 ·refine Classical.byContradiction fun hn=>e ?_
  rw [Jd h1 (by omega),Jd h2 (by omega)]
theorem Lv.dig {now a n:Nat} (h:Lv now a n) (hle:now<=a):dg now n<=dg a n/\(0<n->dg now n<dg a n):=by
 have h1:=h.1
 rw [vG,vG] at h1
 have h2:now / 64^n<=a / 64^n:=Nat.div_le_div_right hle
 unfold dg
 refine⟨by omega,fun hn=> ?_⟩
 rcases h.2 with e|e
 ·omega
 ·omega
theorem QE {x y n:Nat} (h:x / 64^n<y / 64^n):x<y:=by
 refine Classical.byContradiction fun hx=> ?_
 have:=Nat.div_le_div_right (c:=64^n) (Nat.le_of_not_lt hx)
 omega
theorem Lv.first {now a b n m:Nat} (h:Lv now a n) (g:Lv now b m) (hn:n<m) (hb:now<=b):a<b:=by
 have h1:=Hz h.1 (show n+1<=m by omega)
 have h2:=(g.dig hb).2 (by omega)
 have g1:=g.1
 rw [vG,vG] at g1
 unfold dg at h2
 exact QE (n:=m) (by omega)
theorem Lv.slot {now a b n:Nat} (h:Lv now a n) (g:Lv now b n) (hd:dg a n<dg b n):a<b:=by
 have h1:=h.1
 have g1:=g.1
 rw [vG,vG] at h1 g1
 unfold dg at hd
 exact QE (n:=n) (by omega)
abbrev Fs:=Nat->Nat->List Tm
abbrev Ps:=Int->Option Tm
def uZ (F:Fs) (n k:Nat) (l:List Tm):Fs:=fun n' k'=>if n'=n/\k'=k then l else F n' k'
def Bz (P:Ps) (id:Int) (o:Option Tm):Ps:=fun id'=>if id'=id then o else P id'
structure WI (now:Nat) (P:Ps) (F:Fs):Prop where
 pl:∀id t,P id=some t->t.id=id/\now<=t.a/\t.a<=2^40
 nw:now<=2^40
 mem:∀n k t,n<7->k<64->(t∈F n k↔P t.id=some t/\Lv now t.a n/\dg t.a n=k)
 nd:∀n k,n<7->k<64->((F n k).map Tm.id).Nodup
variable {now:Nat} {P:Ps} {F:Fs}
theorem zy (a n:Nat):dg a n<64:=Nat.mod_lt _ (by omega)
theorem aaf (now a:Nat) (h1:now<=2^40) (h2:a<=2^40):∃n,n<7/\Lv now a n:=by
 have:∀m,now / 64^m=a / 64^m->∃n,n<=m/\Lv now a n:=by
  intro m
  induction m with
  |zero=>intro h;exact⟨0,Nat.le_refl _,Hz h (by omega),.inl rfl⟩
  |succ m ih=>
   intro h
   by_cases e:now / 64^m=a / 64^m
   ·obtain⟨n,hn,hl⟩:=ih e
    exact⟨n,by omega,hl⟩
   ·exact⟨m,by omega,h,.inr e⟩
 obtain⟨n,_,hl⟩:=this 7 (by rw [Jd h1 (by omega),Jd h2 (by omega)])
 exact⟨n,hl.lt h1 h2,hl⟩
theorem WI.at_ (h:WI now P F) {id:Int} {t:Tm} (ht:P id=some t):∃n,n<7/\Lv now t.a n/\t∈F n (dg t.a n):=by
 obtain⟨g1,g2,g3⟩:=h.pl id t ht
 obtain⟨n,hn,hl⟩:=aaf now t.a h.nw g3
 exact⟨n,hn,hl,(h.mem n _ t hn (zy _ _)).2 ⟨by rw [g1];exact ht,hl,rfl⟩⟩
theorem WI.take (h:WI now P F) {id:Int} {t:Tm} {n:Nat} (ht:P id=some t) (hl:Lv now t.a n):WI now (Bz P id none) (uZ F n (dg t.a n) ((F n (dg t.a n)).filter fun x=> !(x.id==id))):=by
 obtain⟨g1,g2,g3⟩:=h.pl id t ht
 refine⟨fun id' u hu=> ?_,h.nw,fun n' k' u hn hk=> ?_,fun n' k' hn hk=> ?_⟩
 ·unfold Bz at hu
  split at hu
  ·cases hu
  ·exact h.pl id' u hu
 ·unfold uZ Bz
  split
  ·rename_i e
   obtain⟨rfl,rfl⟩:=e
   rw [List.mem_filter,h.mem n' _ u hn hk]
   by_cases e:u.id=id
   ·rw [if_pos e];simp [e]
   ·rw [if_neg e];simp [e]
  ·rename_i e
   rw [h.mem n' k' u hn hk]
   by_cases eu:u.id=id
   ·rw [if_pos eu]
    constructor
    ·rintro⟨h1,h2,h3⟩
     rw [eu,ht] at h1
     cases h1
     exact absurd ⟨h2.uniq hl,by rw [<- h3,h2.uniq hl]⟩ e
    ·rintro⟨h1,_⟩;cases h1
   ·rw [if_neg eu]
 ·unfold uZ
  split
  ·rename_i e
   obtain⟨rfl,rfl⟩:=e
   exact(h.nd n' _ hn hk).sublist (List.filter_sublist.map _)
  ·exact h.nd n' k' hn hk
theorem WI.put (h:WI now P F) {t:Tm} {n:Nat} (hp:P t.id=none) (h1:now<=t.a) (h2:t.a<=2^40) (hl:Lv now t.a n):WI now (Bz P t.id (some t)) (uZ F n (dg t.a n) (F n (dg t.a n)++[t])):=by
 refine⟨fun id' u hu=> ?_,h.nw,fun n' k' u hn hk=> ?_,fun n' k' hn hk=> ?_⟩
 ·unfold Bz at hu
  split at hu
  ·rename_i e;cases hu;exact⟨e.symm,h1,h2⟩
  ·exact h.pl id' u hu
 ·unfold uZ Bz
  split
  ·rename_i e
   obtain⟨rfl,rfl⟩:=e
   rw [List.mem_append,List.mem_singleton,h.mem n' _ u hn hk]
   by_cases e:u.id=t.id
   ·rw [if_pos e]
    constructor
    ·rintro(⟨g1,_⟩|rfl)
     ·rw [e,hp] at g1;cases g1
     ·exact⟨rfl,hl,rfl⟩
    ·rintro⟨g1,_⟩;cases g1;exact .inr rfl
   ·rw [if_neg e]
    constructor
    ·rintro(g|rfl)
     ·exact g
     ·exact absurd rfl e
    ·exact .inl
  ·rename_i e
   rw [h.mem n' k' u hn hk]
   by_cases eu:u.id=t.id
   ·rw [if_pos eu]
    constructor
    ·rintro⟨g1,_⟩;rw [eu,hp] at g1;cases g1
    ·rintro⟨g1,g2,g3⟩;cases g1
     exact absurd ⟨g2.uniq hl,by rw [<- g3,g2.uniq hl]⟩ e
   ·rw [if_neg eu]
 ·unfold uZ
  split
  ·rename_i e
   obtain⟨rfl,rfl⟩:=e
   rw [List.map_append,List.nodup_append]
   refine⟨h.nd n' _ hn hk,by simp,fun x hx y hy e=> ?_⟩
   simp only [List.map_cons,List.map_nil,List.mem_singleton] at hy
   subst hy;subst e
   obtain⟨u,hu,hx⟩:=List.mem_map.1 hx
   have:=((h.mem n' _ u hn hk).1 hu).1
   rw [hx,hp] at this;cases this
  ·exact h.nd n' k' hn hk
theorem WI.next (h:WI now P F) {n k:Nat} {t:Tm} (hn:n<7) (hk:k<64) (e1:∀n' k',n'<n->k'<64->dg now n'<=k'->F n' k'=[]) (e2:∀k',k'<k->dg now n<=k'->F n k'=[])
  (ht:t∈F n k) (hm:∀u∈F n k,t.a<=u.a):P t.id=some t/\now<=t.a/\∀id u,P id=some u->t.a<=u.a:=by
 obtain⟨g1,g2,g3⟩:=(h.mem n k t hn hk).1 ht
 refine⟨g1,(h.pl _ _ g1).2.1,fun id u hu=> ?_⟩
 obtain⟨_,p2,p3⟩:=h.pl id u hu
 obtain⟨m,hm7,hl,hmem⟩:=h.at_ hu
 rcases Nat.lt_trichotomy m n with hmn|rfl|hmn
 ·have:=e1 m (dg u.a m) hmn (zy _ _) (hl.dig p2).1
  rw [this] at hmem;simp at hmem
 ·rcases Nat.lt_trichotomy (dg u.a m) k with hd|hd|hd
  ·have:=e2 (dg u.a m) hd (hl.dig p2).1
   rw [this] at hmem;simp at hmem
  ·rw [hd] at hmem;exact hm u hmem
  ·exact Nat.le_of_lt (g2.slot hl (by rw [g3];exact hd))
 ·exact Nat.le_of_lt (g2.first hl hmn p2)
theorem WI.none (h:WI now P F) (e1:∀n' k',n'<7->k'<64->dg now n'<=k'->F n' k'=[]) (id:Int):P id=none:=by
 cases hp:P id with
 |none=>rfl
 |some u=>
  obtain⟨m,hm7,hl,hmem⟩:=h.at_ hp
  have:=e1 m (dg u.a m) hm7 (zy _ _) (hl.dig (h.pl _ _ hp).2.1).1
  rw [this] at hmem;simp at hmem
theorem WI.low (h:WI now P F) {to m:Nat} (h1:now<=to) (hto:∀id u,P id=some u->to<=u.a) (hm:Lv now to m) {n k:Nat} (hn:n<m) (hn7:n<7) (hk:k<64):F n k=[]:=by
 cases hf:F n k with
 |nil=>rfl
 |cons u r=>
  obtain⟨g1,g2,_⟩:=(h.mem n k u hn7 hk).1 (by rw [hf];simp)
  have:=g2.first hm hn h1
  have:=hto _ _ g1
  omega
def rest (P:Ps) (M:List Tm):Ps:=fun id=>match P id with|some t=>if t∈M then none else some t|none=>none
theorem uP {P:Ps} {M:List Tm} {id:Int} {t:Tm}:rest P M id=some t↔P id=some t/\t∉M:=by
 unfold rest
 cases hp:P id with
 |none=>simp
 |some u=>
  by_cases hu:u∈M
  ·simp only [hu,if_true]
   constructor
   ·intro h;cases h
   ·rintro⟨h,h2⟩;cases h;exact absurd hu h2
  ·simp only [hu,if_false,Option.some.injEq]
   constructor
   ·rintro rfl;exact⟨rfl,hu⟩
   ·rintro⟨h,_⟩;exact h
theorem aah (P:Ps):rest P []=P:=by
 funext id
 unfold rest
 cases P id<;>simp
theorem WI.turn (h:WI now P F) {to m:Nat} (h1:now<=to) (h2:to<=2^40) (hto:∀id u,P id=some u->to<=u.a) (hm:Lv now to m):
  WI to (rest P (if m=0 then [] else F m (dg to m))) (if m=0 then F else uZ F m (dg to m) []):=by
 have m7:=hm.lt h.nw h2
 have low:=fun {n k:Nat}=>h.low (n:=n) (k:=k) h1 hto hm
 have lvl:∀u n,(∃id,P id=some u)->Lv now u.a n->n<7->(n<m->False)/\(m<n->Lv to u.a n)/\(n=m->(m=0\/dg u.a m≠dg to m)->Lv to u.a n):=by
  rintro u n ⟨id,hu⟩ hl hn7
  refine⟨fun hlt=> ?_,fun hlt=> ?_,fun e hd=> ?_⟩
  ·have:=(h.mem n (dg u.a n) u hn7 (zy _ _)).2 ⟨by rw [(h.pl _ _ hu).1];exact hu,hl,rfl⟩
   rw [low hlt hn7 (zy _ _)] at this
   simp at this
  ·refine⟨?_,.inr ?_⟩
   ·rw [<- hl.1];exact(Hz hm.1 (by omega)).symm
   ·rw [<- Hz hm.1 (show m+1<=n by omega)]
    rcases hl.2 with e|e
    ·omega
    ·exact e
  ·subst e
   refine⟨?_,?_⟩
   ·rw [<- hl.1];exact hm.1.symm
   ·rcases hd with e|e
    ·exact .inl e
    ·refine .inr fun he=>e ?_
     unfold dg;rw [he]
 have back:∀u n,(∃id,P id=some u)->Lv to u.a n->n<7->(m<n->Lv now u.a n)/\(n=m->m=0\/Lv now u.a m):=by
  rintro u n ⟨id,hu⟩ hl hn7
  obtain⟨k,hk7,hk⟩:=aaf now u.a h.nw (h.pl _ _ hu).2.2
  have:=lvl u k ⟨id,hu⟩ hk hk7
  refine⟨fun hlt=> ?_,fun e=> ?_⟩
  ·rcases Nat.lt_trichotomy k m with hkm|hkm|hkm
   ·exact(this.1 hkm).elim
   ·by_cases hz:m=0\/dg u.a m≠dg to m
    ·have:=(this.2.2 hkm hz).uniq hl;omega
    ·exfalso
     simp only [not_or,Classical.not_not] at hz
     have e1:=hk.1
     rw [hkm] at e1
     have e2:to / 64^m=u.a / 64^m:=by
      have e3:=hm.1
      rw [vG,vG] at e1 e3
      unfold dg at hz
      omega
     have:=Hz e2 (show m<=n by omega)
     rcases hl.2 with e|e
     ·omega
     ·exact e this
   ·have:=(this.2.1 hkm).uniq hl;rw [<- this];exact hk
  ·subst e
   rcases Nat.lt_trichotomy k n with hkm|hkm|hkm
   ·exact(this.1 hkm).elim
   ·subst hkm;exact .inr hk
   ·have:=(this.2.1 hkm).uniq hl;omega
 refine⟨fun id u hu=> ?_,h2,fun n k u hn hk=> ?_,fun n k hn hk=> ?_⟩
 ·obtain⟨g1,_⟩:=uP.1 hu
  exact⟨(h.pl id u g1).1,hto id u g1,(h.pl id u g1).2.2⟩
 ·rw [uP]
  by_cases hz:m=0
  ·rw [if_pos hz,if_pos hz,h.mem n k u hn hk]
   constructor
   ·rintro⟨g1,g2,g3⟩
    refine⟨⟨g1,by simp⟩,?_,g3⟩
    rcases Nat.lt_trichotomy n m with hnm|hnm|hnm
    ·omega
    ·exact(lvl u n ⟨_,g1⟩ g2 hn).2.2 hnm (.inl hz)
    ·exact(lvl u n ⟨_,g1⟩ g2 hn).2.1 hnm
   ·rintro⟨⟨g1,_⟩,g2,g3⟩
    refine⟨g1,?_,g3⟩
    rcases Nat.lt_trichotomy n m with hnm|hnm|hnm
    ·omega
    ·subst hnm;subst hz
     refine⟨?_,.inl rfl⟩
     rw [hm.1];exact g2.1
    ·exact(back u n ⟨_,g1⟩ g2 hn).1 hnm
  ·rw [if_neg hz,if_neg hz]
   have inM:∀u,u∈F m (dg to m)↔P u.id=some u/\Lv now u.a m/\dg u.a m=dg to m:=fun u=>h.mem m _ u m7 (zy _ _)
   unfold uZ
   split
   ·rename_i e
    obtain⟨rfl,rfl⟩:=e
    constructor
    ·intro hx;simp at hx
    ·rintro⟨⟨g1,g2⟩,g3,g4⟩
     exfalso
     rcases(back u n ⟨_,g1⟩ g3 hn).2 rfl with e|e
     ·exact hz e
     ·exact g2 ((inM u).2 ⟨g1,e,g4⟩)
   ·rename_i hne
    rw [h.mem n k u hn hk]
    constructor
    ·rintro⟨g1,g2,g3⟩
     have hnot:u∉F m (dg to m):=fun hx=>by
      obtain⟨_,q2,q3⟩:=(inM u).1 hx
      have:=g2.uniq q2
      exact hne ⟨this,by rw [<- g3,this,q3]⟩
     refine⟨⟨g1,hnot⟩,?_,g3⟩
     rcases Nat.lt_trichotomy n m with hnm|hnm|hnm
     ·exact((lvl u n ⟨_,g1⟩ g2 hn).1 hnm).elim
     ·refine(lvl u n ⟨_,g1⟩ g2 hn).2.2 hnm (.inr fun e=>hne ⟨hnm,?_⟩)
      rw [<- g3,hnm,e]
     ·exact(lvl u n ⟨_,g1⟩ g2 hn).2.1 hnm
    ·rintro⟨⟨g1,g2⟩,g3,g4⟩
     refine⟨g1,?_,g4⟩
     rcases Nat.lt_trichotomy n m with hnm|hnm|hnm
     ·exfalso
      obtain⟨j,hj7,hj⟩:=aaf now u.a h.nw (h.pl _ _ g1).2.2
      have:=lvl u j ⟨_,g1⟩ hj hj7
      rcases Nat.lt_trichotomy j m with q|q|q
      ·exact this.1 q
      ·by_cases hd:dg u.a m=dg to m
       ·exact g2 ((inM u).2 ⟨g1,q ▸ hj,hd⟩)
       ·have:=(this.2.2 q (.inr hd)).uniq g3;omega
      ·have:=(this.2.1 q).uniq g3;omega
     ·rcases(back u n ⟨_,g1⟩ g3 hn).2 hnm with e|e
      ·exact absurd e hz
      ·rw [hnm];exact e
     ·exact(back u n ⟨_,g1⟩ g3 hn).1 hnm
 ·by_cases hz:m=0
  ·rw [if_pos hz];exact h.nd n k hn hk
  ·rw [if_neg hz]
   unfold uZ
   split
   ·simp
   ·exact h.nd n k hn hk
theorem X8 {P:Ps} {t:Tm} {M:List Tm} (hp:P t.id=some t) (hid:∀id u,P id=some u->u.id=id) (ht:t∉M):Bz (rest P (t::M)) t.id (some t)=rest P M:=by
 funext id
 unfold Bz
 split
 ·rename_i e;subst e
  exact(uP.2 ⟨hp,ht⟩).symm
 ·rename_i e
  unfold rest
  cases hu:P id with
  |none=>rfl
  |some u=>
   have:u≠t:=fun h=>e (by rw [<- hid id u hu,h])
   simp [this]
theorem WI.X5 (h:WI now P F) {t:Tm}:t∈F 0 (dg now 0)↔P t.id=some t/\t.a=now:=by
 rw [h.mem 0 _ t (by omega) (zy _ _)]
 constructor
 ·rintro⟨h1,h2,h3⟩
  refine⟨h1,?_⟩
  have:=h2.1
  unfold dg at h3
  simp only [Nat.pow_zero,Nat.div_one,Nat.zero_add,Nat.pow_one] at h3 this
  omega
 ·rintro⟨h1,h2⟩
  rw [h2]
  exact⟨h1,Lv.self now,rfl⟩
theorem WI.due (h:WI now P F):WI now (rest P (F 0 (dg now 0))) (uZ F 0 (dg now 0) []):=by
 refine⟨fun id u hu=>h.pl id u (uP.1 hu).1,h.nw,fun n k u hn hk=> ?_,fun n k hn hk=> ?_⟩
 ·rw [uP]
  unfold uZ
  split
  ·rename_i e
   obtain⟨rfl,rfl⟩:=e
   constructor
   ·intro hx;simp at hx
   ·rintro⟨⟨g1,g2⟩,g3,g4⟩
    exact(g2 ((h.mem 0 _ u hn hk).2 ⟨g1,g3,g4⟩)).elim
  ·rename_i hne
   rw [h.mem n k u hn hk]
   constructor
   ·rintro⟨g1,g2,g3⟩
    refine⟨⟨g1,fun hx=> ?_⟩,g2,g3⟩
    obtain⟨_,q2,q3⟩:=(h.mem 0 _ u (by omega) (zy _ _)).1 hx
    have:=g2.uniq q2
    exact hne ⟨this,by rw [<- g3,this,q3]⟩
   ·rintro⟨⟨g1,_⟩,g2,g3⟩
    exact⟨g1,g2,g3⟩
 ·unfold uZ
  split
  ·simp
  ·exact h.nd n k hn hk
end Gp.Wh
end
section
namespace Go.Proofs.WN
open Gp Gp.Wh
set_option maxRecDepth 100000
abbrev eT (t:Tm):List Value:=[.int .i64 t.id,.int .i64 (t.a:Int),.int .i64 t.tn]
theorem kS (t:Tm):(eT t).length=3:=rfl
theorem Si (t:Tm):∀v∈eT t,gY v=true:=by
 intro v hv
 simp only [eT,List.mem_cons,List.not_mem_nil,or_false] at hv
 rcases hv with rfl|rfl|rfl<;>rfl
theorem lV {f:FuncId} {cap:Array Value} {sh:List Shape} {args:List Value} {w:World} {K:Value->World->Prop} (hb:qp Tryz.prog f=true) (h:IV Tryz.prog sh f (args++cap.toList) w K):
  jI Tryz.prog sh (.func (.func f) #[] cap) args w K:=by
 unfold jI
 simp only [hb,cond_true]
 exact h
theorem jg {α:Type} {n:Nat} {f:α->List Value} {w:World} {s:b_} {xs:List α} (hn:∀x,(f x).length=n) (hn0:0<n) (h:kH n f w s xs) {i:Int} {K:Addr->Prop} {x:α} (h0:0<=i) (hx:xs[i.toNat]? =some x)
  (hK:∀a:Addr,(∀j v,(f x)[j]? =some v->w.cell? (a.add j)=some v)->K a):g_ s n i K:=by
 obtain⟨a,ha,hc⟩:=h.at_ hn hn0 hx
 have hlt:=(List.getElem?_eq_some_iff.1 hx).1
 obtain⟨sa,sl,sc⟩:=s
 simp only at ha
 subst ha
 have hl:sl=xs.length:=h.len
 refine(BR ..).2 ⟨h0,by omega,hK _ fun j v hj=> ?_⟩
 rw [<- hc j v hj]
 congr 1
 obtain⟨b,o,t⟩:=a
 unfold Addr.add
 by_cases h1:i.toNat * n=0<;>by_cases h2:j=0<;>simp [h1,h2,Nat.add_assoc]
theorem QU {w:World} {s:b_} {l:List Tm} (h:kH 3 eT w s l) {k:Nat} {z:Tm} (hk:l[k]? =some z) {K:Addr->Prop} (hK:∀a,w.cell? (a.add 0)=some (.int .i64 z.id)->w.cell? (a.add 1)=some (.int .i64 (z.a:Int))->w.cell? (a.add 2)=some (.int .i64 z.tn)->K a):g_ s 3 (k:Int) K:=
 jg kS (by omega) h (by omega) (by rw [Int.toNat_natCast];exact hk) fun a hc=>hK a (hc 0 _ rfl) (hc 1 _ rfl) (hc 2 _ rfl)
theorem U4 (a:Int) (w:World):mM a w fun r w'=>r=false/\w'=w:=by
 apply J_
 exact⟨by simp,rfl⟩
def RI (a b:Int):Int:=if a<b then -1 else if a>b then 1 else 0
theorem OO (a b:Int) (w:World):kN a b w fun r w'=>r=RI a b/\w'=w:=by
 apply Ip
 refine BU (U4 _ _) ?_
 rintro r w1 ⟨rfl,hw⟩
 subst hw
 refine BU (U4 _ _) ?_
 rintro r w1 ⟨rfl,hw⟩
 subst hw
 unfold RI
 by_cases h1:a<b
 ·simp only [h1,decide_true,cond_true,cond_false,if_true];exact⟨by trivial,by trivial⟩
 ·by_cases h2:a>b
  ·simp only [h1,h2,decide_true,decide_false,cond_true,cond_false,if_true,if_false];exact⟨by trivial,by trivial⟩
  ·simp only [h1,h2,decide_false,cond_false,if_false];exact⟨by trivial,by trivial⟩
def FnT (v:Value) (C:World->Prop) (p:Tm->Bool):Prop:=∀x W (K:Value->World->Prop),C W->(∀W',Ext W W'->K (.bool (p x)) W')->jI Tryz.prog [.one .bool] v [.agg ⟨eT x⟩] W K
theorem Ph {w:World} {s:b_} {xs:List Tm} (hs:kH 3 eT w s xs) (hl:xs.length<=2^30):
  gV s w fun r w'=>Ext w w'/\iI 3 eT w' r xs/\∀b,b_.at r b->w.heap.size<=b:=by
 apply qx
 have hlen:=hs.len
 cases ha:s.a with
 |none=>
  have hc:=hs.cells
  rw [ha] at hc
  have h0:xs.flatMap eT=[]:=hc
  have hfl:=iH eT 3 kS xs
  rw [h0] at hfl
  have:xs=[]:=by
   cases xs with
   |nil=>rfl
   |cons _ _=>simp only [List.length_cons,List.length_nil] at hfl;omega
  subst this
  simp only [Option.isNone_none,cond_true]
  exact⟨Ext.refl _,iI.nil,fun b ⟨o,hb⟩=>by cases hb⟩
 |some a=>
  simp only [Option.isNone_some,cond_false]
  refine fK fun t w1 rt et zt f1=> ?_
  have hb:iI 3 eT w1 ⟨some ⟨t,0,none⟩,0,0⟩ ([]:List Tm):=iI.row (xs:=[]) rt
  refine mg kS hb (hs.ext f1) rfl (by omega) Si (by simp only [List.length_nil];omega) (by simp only [List.length_nil];omega) fun s' w' h1 h2 h3=> ?_
  refine⟨f1.new h2 fun b hb ⟨o,he⟩=>by cases he;omega,h1,fun b hb=> ?_⟩
  rcases h3 b hb with ⟨o,he⟩|h
  ·cases he;omega
  ·omega
theorem ac2 {w:World} {s:b_} {xs:List Tm} {v:Value} {p:Tm->Bool} {C:World->Prop} (hs:kH 3 eT w s xs) (hl:xs.length<=2^30) (hp:FnT v C p) (hC:∀W,Ext w W->C W):
  gq s v w fun r w'=>((r= -1/\xs.any p=false)\/∃j:Nat,r=(j:Int)/\j<xs.length/\(xs.take j).any p=false/\(xs.take (j+1)).filter (fun x=> !p x)=xs.take j)/\Ext w w':=by
 apply oH
 have hlen:=hs.len
 refine fE (fun st W=>∃j:Nat,j<=xs.length/\st.1=(j:Int)/\Ext w W/\(xs.take j).any p=false) (fun st _=>(s.len - st.1).toNat) ⟨0,by omega,rfl,Ext.refl _,by simp⟩ ?_
 rintro⟨i,⟨⟩⟩ W ⟨j,hj,hi,hx,hm⟩ next hnext
 simp only at hi
 subst hi
 by_cases hlt:(j:Int)<(s.len:Int)
 ·simp only [hlt,decide_true,cond_true]
  have hxj:=List.getElem?_eq_getElem (show j<xs.length by omega)
  generalize xs[j]=x at hxj
  have htk:xs.take (j+1)=xs.take j++[x]:=by rw [List.take_add_one,hxj];rfl
  refine QU (hs.ext hx) hxj fun a c0 c1 c2=> ?_
  simp only [sx,c0,c1,c2]
  refine hp x W _ (hC W hx) fun W' hf=>⟨p x,rfl,?_⟩
  cases he:p x
  ·simp only [cond_false]
   rw [wrap_i64 (by omega) (by omega)]
   refine hnext _ _ ⟨j+1,by omega,by simp,hx.trans hf,?_⟩ (by simp only;omega)
   rw [htk,List.any_append,hm,List.any_cons,he,List.any_nil];rfl
  ·simp only [cond_true]
   refine⟨.inr ⟨j,rfl,by omega,hm,?_⟩,hx.trans hf⟩
   rw [htk,List.filter_append,List.filter_eq_self.2 (fun y hy=>by have:=List.any_eq_false.1 hm y hy;simpa using this)]
   simp [he]
 ·simp only [hlt,decide_false,cond_false]
  rw [List.take_of_length_le (by omega)] at hm
  exact⟨.inl ⟨by trivial,hm⟩,hx⟩
theorem X6 {w:World} {b o n c:Nat} {L:List Value} {K:World->Prop} (hr:Row w b L) (ho:o+n * 3<=L.length) (hK:∀w',Row w' b (spl L o (fH [.int .i64 0,.int .i64 0,.int .i64 0] n))->fD w w' (·=b)->K w'):Nk [.int .i64 0,.int .i64 0,.int .i64 0] ⟨some ⟨b,o,none⟩,n,c⟩ w K:=by
 have hrl:(fH [Value.int .i64 0,Value.int .i64 0,Value.int .i64 0] n).length=n * 3:=by rw [yI];rfl
 refine⟨?_,by intro v hv;simp only [List.mem_cons,List.not_mem_nil,or_false] at hv;rcases hv with rfl|rfl|rfl<;>rfl,?_⟩
 ·rintro a ha
  cases ha
  intro j hj
  simp only [List.length_cons,List.length_nil] at hj
  rw [kC,hr.cell]
  exact⟨by simp;omega,hr.frozen _⟩
 ·obtain⟨r,f⟩:=yH (fH [Value.int .i64 0,Value.int .i64 0,Value.int .i64 0] n) w L o 0 hr (by omega)
  refine hK _ ?_ (f (·=b) rfl)
  simpa [spl] using r
theorem Rn {w:World} {s:b_} {xs:List Tm} {v:Value} {p:Tm->Bool} {C:World->Prop} (hs:iI 3 eT w s xs) (hl:xs.length<=2^30) (hp:FnT v C p) (hC:∀W,fD w W (b_.at s)->C W):
  fJ s v w fun r w'=>iI 3 eT w' r (xs.filter fun x=> !p x)/\fD w w' (b_.at s)/\∀b,b_.at r b->b_.at s b:=by
 apply nR
 have hlen:=hs.len
 have hsl:=hs.sl kS (by omega)
 have hcap:=hsl.cap
 refine oJ (ac2 hsl hl hp fun W hx=>hC W (hx _)) ?_
 rintro r w1 ⟨h,x1⟩
 have hs1:=hs.ext x1
 rcases h with ⟨rfl,hno⟩|⟨i0,rfl,hi0,hany,hfil⟩
 ·rw [show ((-1:Int)== -1)=true from rfl,cond_true]
  refine⟨?_,x1 _,fun b hb=>hb⟩
  rw [List.filter_eq_self.2 (fun y hy=>by have:=List.any_eq_false.1 hno y hy;simpa using this)]
  exact hs1
 rw [show ((i0:Int)== -1)=false from beq_eq_false_iff_ne.2 (by omega),cond_false]
 obtain⟨b,pad,ha,hc,hr⟩:∃b pad,s.a=some ⟨b,0,none⟩/\s.cap * 3=xs.length * 3+pad.length/\Row w1 b (xs.flatMap eT++pad):=by
  rcases hs1.mem with ⟨_,h,_⟩|h
  ·rw [h] at hi0;simp at hi0
  ·exact h
 obtain⟨sa,sl,sc⟩:=s
 simp only at ha hc hlen hcap
 subst ha
 subst hlen
 rw [wrap_i64 (n:=(i0:Int)+1) (by omega) (by omega)]
 have hat:∀{W},fD w1 W (·=b)->fD w W (b_.at ⟨some ⟨b,0,none⟩,xs.length,sc⟩):=fun hf=>(x1 _).trans (hf.mono fun c hc=>⟨0,by rw [hc]⟩) fun _ _ h=>h
 have fl3:∀ys:List Tm,(ys.flatMap eT).length=ys.length * 3:=fun ys=>iH eT 3 kS ys
 refine fE (fun st W=>∃j:Nat,j<=xs.length/\st.2.1=(j:Int)/\st.1=(((xs.take j).filter fun x=> !p x).length:Int)/\((xs.take j).filter fun x=> !p x).length<j/\fD w1 W (·=b)/\∃mid,mid.length=(j - ((xs.take j).filter fun x=> !p x).length) * 3/\Row W b (((xs.take j).filter fun x=> !p x).flatMap eT++(mid++((xs.drop j).flatMap eT++pad))))
  (fun st _=>(xs.length - st.2.1).toNat) ⟨i0+1,by omega,by simp,by rw [hfil,List.length_take,Nat.min_eq_left (by omega)],by rw [hfil,List.length_take];omega,fD.refl _ _,?_⟩ ?_
 ·rw [hfil,List.length_take,Nat.min_eq_left (by omega)]
  refine⟨eT xs[i0],by rw [kS];omega,?_⟩
  have:xs.flatMap eT=(xs.take i0).flatMap eT++(eT xs[i0]++(xs.drop (i0+1)).flatMap eT):=by
   conv=>lhs;rw [<- List.take_append_drop i0 xs,List.drop_eq_getElem_cons hi0,List.flatMap_append,List.flatMap_cons]
  rw [this] at hr
  simpa only [List.append_assoc] using hr
 rintro⟨i',j',⟨⟩⟩ W ⟨j,hj,hj1,hi1,hij,hf,mid,hmid,hrW⟩ next hnext
 simp only at hj1 hi1
 subst hj1 hi1
 generalize hkp:(xs.take j).filter (fun x=> !p x)=kp at *
 by_cases hlt:(j:Int)<(xs.length:Int)
 ·rw [decide_eq_true hlt,cond_true]
  intro J
  have hx:=List.getElem?_eq_getElem (show j<xs.length by omega)
  have hdr:=List.drop_eq_getElem_cons (show j<xs.length by omega)
  generalize xs[j]=x at hx hdr
  have htk:xs.take (j+1)=xs.take j++[x]:=by rw [List.take_add_one,hx];rfl
  rw [hdr,List.flatMap_cons] at hrW
  have hcell:∀m,m<3->W.cell? ⟨b,j * 3+m,none⟩=(eT x)[m]? :=by
   intro m hm
   rw [hrW.cell,List.getElem?_append_right (by rw [fl3];omega),List.getElem?_append_right (by rw [fl3];omega),fl3,hmid,show j * 3+m - kp.length * 3 - (j - kp.length) * 3=m by omega,List.append_assoc,List.getElem?_append_left (by rw [kS];omega)]
  have q0:=hcell 0 (by omega)
  have q1:=hcell 1 (by omega)
  have q2:=hcell 2 (by omega)
  simp only [Nat.add_zero,eT,List.getElem?_cons_zero,List.getElem?_cons_succ] at q0 q1 q2
  refine(BR _ xs.length sc _ (j:Int) _).2 ⟨by omega,by omega,?_⟩
  rw [kC,Nat.zero_add,Int.toNat_natCast]
  simp -zeta only [sx,q0,q1,q2]
  refine Cc rfl rfl fun z w2 r2 e2 z2 f2=> ?_
  simp -zeta only [sx,r2.cell]
  have hf2:=hf.ext f2
  refine hp x w2 _ (hC w2 (hat hf2)) fun w3 f3=>⟨p x,rfl,?_⟩
  have hf3:=hf2.ext f3
  have r3:=r2.ext f3
  have hrW3:=(hrW.ext f2).ext f3
  cases he:p x
  ·rw [Bool.not_false,cond_true]
   simp -zeta only [List.getElem?_cons_zero,List.getElem?_cons_succ,fA,fC,r3.cell]
   have hfl:(xs.take (j+1)).filter (fun x=> !p x)=kp++[x]:=by rw [htk,List.filter_append,hkp];simp [he]
   refine⟨by omega,by omega,?_⟩
   rw [Int.toNat_natCast]
   refine Ja (eT x) w3 _ (kp.length * 3) 0 hrW3 (Si x) (by simp only [List.length_append,fl3,kS];omega) fun W2 rr2 g2 zz2=> ?_
   obtain⟨m0,m1,hms,hm0⟩:∃m0 m1,mid=m0++m1/\m0.length=3:=⟨mid.take 3,mid.drop 3,(List.take_append_drop ..).symm,by rw [List.length_take];omega⟩
   subst hms
   have hsp:∀(A B C D:List Value),B.length=3->A.length=kp.length * 3->(A++(B++C++D)).take (kp.length * 3+0)++eT x++(A++(B++C++D)).drop (kp.length * 3+0+(eT x).length)=A++(eT x++(C++D)):=by
    intro A B C D hB hA
    rw [Nat.add_zero,<- hA,List.take_left' rfl,kS,<- hB,<- List.drop_drop,List.drop_left' rfl,List.append_assoc B,List.drop_left' rfl,List.append_assoc]
   rw [hsp _ _ _ _ hm0 (fl3 kp)] at rr2
   simp only [J]
   rw [wrap_i64 (by omega) (by omega),wrap_i64 (by omega) (by omega)]
   rw [List.length_append,hm0] at hmid
   refine hnext _ _ ⟨j+1,by omega,by simp,by rw [hfl];simp,by rw [hfl];simp;omega,hf3.trans (g2 (·=b) rfl) fun _ _ e=>e,m1++eT x,by rw [hfl,List.length_append,kS,List.length_append,List.length_singleton];omega,?_⟩ (by simp only;omega)
   rw [hfl,List.flatMap_append]
   simpa [List.append_assoc] using rr2
  ·rw [Bool.not_true,cond_false]
   have hfl:(xs.take (j+1)).filter (fun x=> !p x)=kp:=by rw [htk,List.filter_append,hkp];simp [he]
   simp only [J]
   rw [wrap_i64 (by omega) (by omega)]
   refine hnext _ _ ⟨j+1,by omega,by simp,by rw [hfl],by rw [hfl];omega,hf3,mid++eT x,by rw [hfl,List.length_append,kS];omega,?_⟩ (by simp only;omega)
   rw [hfl]
   simpa only [List.append_assoc] using hrW3
 ·rw [decide_eq_false hlt,cond_false]
  have hje:j=xs.length:=by omega
  subst hje
  rw [List.take_length] at hkp
  rw [List.drop_length,List.flatMap_nil,List.nil_append] at hrW
  refine⟨by(try simp only);omega,by(try simp only);omega,by(try simp only);omega,?_⟩
  simp only [Int.toNat_natCast]
  have hne:sc≠kp.length:=by omega
  have hsub:Dh (some (⟨b,0,none⟩:Addr)) sc kp.length 3=some ⟨b,kp.length * 3,none⟩:=by
   unfold Dh
   rw [if_neg hne,Option.map_some,kC,Nat.zero_add]
  rw [hsub]
  refine X6 hrW (by simp only [List.length_append,fl3];omega) fun W2 r2 g2=> ?_
  have hrl:(fH [Value.int .i64 0,Value.int .i64 0,Value.int .i64 0] (xs.length - kp.length)).length=(xs.length - kp.length) * 3:=by rw [yI];rfl
  have hspl:spl (kp.flatMap eT++(mid++pad)) (kp.length * 3) (fH [Value.int .i64 0,Value.int .i64 0,Value.int .i64 0] (xs.length - kp.length))=kp.flatMap eT++(fH [Value.int .i64 0,Value.int .i64 0,Value.int .i64 0] (xs.length - kp.length)++pad):=by
   have:=abX (A:=kp.flatMap eT) (B:=mid) (C:=pad) (vs:=fH [Value.int .i64 0,Value.int .i64 0,Value.int .i64 0] (xs.length - kp.length)) (by omega)
   rw [fl3] at this
   exact this
  rw [hspl] at r2
  refine⟨by(try simp only);omega,by(try simp only);omega,by(try simp only);omega,?_⟩
  have hsub0:Dh (some (⟨b,0,none⟩:Addr)) sc 0 3=some ⟨b,0,none⟩:=by
   unfold Dh
   split<;>simp [Addr.add]
  simp only [Int.toNat_natCast,Int.toNat_zero,Nat.sub_zero,hsub0]
  refine⟨⟨by rw [hkp],.inr ⟨b,fH [Value.int .i64 0,Value.int .i64 0,Value.int .i64 0] (xs.length - kp.length)++pad,rfl,?_,?_⟩⟩,hat (hf.trans g2 fun _ _ e=>e),fun c hc=> ?_⟩
  ·rw [hkp,List.length_append,hrl];simp only;omega
  ·rw [hkp];exact r2
  ·obtain⟨o,e⟩:=hc
   exact⟨o,e⟩
theorem acR {w:World} {s:b_} {xs:List Tm} (hs:kH 3 eT w s xs) (hl:xs.length<=2^30) (hne:xs≠[]):
  gK s (Value.func (.func Ew) #[] #[]) w fun r0 r1 r2 w'=>Ext w w'/\∃t∈xs,r1=(t.a:Int)/\∀u∈xs,t.a<=u.a:=by
 apply pz
 have hlen:=hs.len
 have hpos:0<xs.length:=List.length_pos_iff.2 hne
 refine fK fun p4 w1 r1 e1 z1 f1=> ?_
 rw [decide_eq_false (by omega),cond_false]
 have hx0:=List.getElem?_eq_getElem hpos
 generalize xs[0]=x0 at hx0
 refine QU (k:=0) (hs.ext f1) hx0 fun a c0 c1 c2=> ?_
 simp -zeta only [sx,c0,c1,c2]
 refine Cc rfl rfl fun pm w2 r2 e2 z2 f2=> ?_
 have x2:=f1.trans f2
 have z1':=f1.size
 have z2':=f2.size
 refine fE (fun st W=>∃j:Nat,j<=xs.length/\st.1=(j:Int)/\fD w2 W (·=pm)/\∃t∈xs,Row W pm (eT t)/\∀u∈xs.take j,t.a<=u.a) (fun st _=>(s.len - st.1).toNat)
  ⟨1,by omega,rfl,fD.refl _ _,x0,List.mem_of_getElem? hx0,r2,fun u hu=> ?_⟩ ?_
 ·obtain⟨k,hk,he⟩:=List.mem_take_iff_getElem.1 hu
  have:k=0:=by omega
  subst this
  rw [List.getElem?_eq_getElem hpos] at hx0
  simp only [Option.some.injEq] at hx0
  rw [<- he,hx0]
  exact Nat.le_refl _
 rintro⟨i,⟨⟩⟩ W ⟨j,hj,hi,hf,t,ht,rt,hmin⟩ next hnext
 simp only at hi
 subst hi
 have xW:Ext w W:=x2.new hf fun y hy e=>by omega
 by_cases hlt:(j:Int)<(s.len:Int)
 ·rw [decide_eq_true hlt,cond_true]
  intro J
  have hx:=List.getElem?_eq_getElem (show j<xs.length by omega)
  generalize xs[j]=x at hx
  have htk:xs.take (j+1)=xs.take j++[x]:=by rw [List.take_add_one,hx];rfl
  have xWd:=xW.trans (Ext.drew W)
  refine QU (hs.ext xW) hx fun a c0 c1 c2=> ?_
  have rtd:=rt.drew
  have d0:W.drew.cell? (a.add 0)=_:=c0
  have d1:W.drew.cell? (a.add 1)=_:=c1
  have d2:W.drew.cell? (a.add 2)=_:=c2
  simp -zeta only [sx,d0,d1,d2,rtd.cell]
  refine lV (by kernel_rfl) ?_
  have call:yg x.id x.a x.tn t.id t.a t.tn W.drew fun r W'=>r=RI (x.a:Int) (t.a:Int)/\Ext W.drew W':=by
   apply DK
   refine fK fun p W1 q1 _ _ g1=>fK fun p' W2 q2 _ _ g2=> ?_
   have q1:=q1.ext g2
   simp only [sx,q1.cell,q2.cell]
   refine zq (OO _ _ _) ?_
   rintro r W3 ⟨rfl,hw⟩
   subst hw
   exact⟨rfl,g1.trans g2⟩
  refine Calls.mono call ?_
  rintro e W3 ⟨r,he,rfl,g3⟩
  refine⟨_,he,_,rfl,?_⟩
  have hf3:=(hf.ext (Ext.drew W)).ext g3
  have xW3:=xWd.trans g3
  have rt3:=rtd.ext g3
  by_cases hc:x.a<t.a
  ·have hc1:RI (x.a:Int) (t.a:Int)<0:=by unfold RI;rw [if_pos (by omega)];omega
   rw [decide_eq_true hc1,cond_true]
   refine QU (hs.ext xW3) hx fun a c0 c1 c2=> ?_
   simp -zeta only [c0,c1,c2,fA,fC]
   refine fP rt3 rfl rfl fun W4 r4 g4 z4=> ?_
   simp only [J]
   rw [wrap_i64 (by omega) (by omega)]
   refine hnext _ _ ⟨j+1,by omega,by simp,hf3.trans (g4 (·=pm) rfl) fun _ _ e=>e,x,List.mem_of_getElem? hx,r4,fun u hu=> ?_⟩ (by simp only;omega)
   rw [htk,List.mem_append,List.mem_singleton] at hu
   rcases hu with hu|rfl
   ·have:=hmin u hu;omega
   ·omega
  ·have hc1:¬RI (x.a:Int) (t.a:Int)<0:=by
    unfold RI;rw [if_neg (by omega)];split<;>omega
   rw [decide_eq_false hc1,cond_false]
   simp only [J]
   rw [wrap_i64 (by omega) (by omega)]
   refine hnext _ _ ⟨j+1,by omega,by simp,hf3,t,ht,rt3,fun u hu=> ?_⟩ (by simp only;omega)
   rw [htk,List.mem_append,List.mem_singleton] at hu
   rcases hu with hu|rfl
   ·exact hmin u hu
   ·omega
 ·rw [decide_eq_false hlt,cond_false]
  rw [List.take_of_length_le (by omega)] at hmin
  simp only [sx,rt.cell]
  have r1W:Row W p4 _:=(r1.ext f2).fr hf (by omega)
  refine fP r1W rfl rfl fun W4 r4 g4 z4=> ?_
  simp only [List.getElem?_cons_zero,List.getElem?_cons_succ,fA,fC,r4.cell]
  exact⟨xW.new (g4 (·=p4) rfl) fun y hy e=>by omega,t,ht,by trivial,hmin⟩
end Go.Proofs.WN
end
section
namespace Go.Proofs.WN
open Gp Gp.Wh
set_option maxRecDepth 100000
theorem abl {a b:Nat} (ha:a<2^63) (hb:b<2^63):WA .i64 (a:Int) (b:Int)=((a^^^b:Nat):Int):=by
 unfold WA
 have h1:(BitVec.ofInt (IntKind.bits .i64) (a:Int)).toNat=a:=by rw [Ci,BitVec.toNat_ofInt];omega
 have h2:(BitVec.ofInt (IntKind.bits .i64) (b:Int)).toNat=b:=by rw [Ci,BitVec.toNat_ofInt];omega
 rw [BitVec.toNat_xor,h1,h2]
 have:a^^^b<2^63:=Nat.xor_lt_two_pow ha hb
 rw [wrap_i64 (by omega) (by omega)]
theorem p64 (n:Nat):2^(6 * n)=64^n:=by rw [Nat.pow_mul]
theorem XV (a b n:Nat):(a^^^b) / 64^n=(a / 64^n)^^^(b / 64^n):=by
 rw [<- p64,<- Nat.shiftRight_eq_div_pow,<- Nat.shiftRight_eq_div_pow,<- Nat.shiftRight_eq_div_pow,Nat.shiftRight_xor_distrib]
theorem xor_zero {a b:Nat}:a^^^b=0↔a=b:=by
 constructor
 ·intro h
  refine Nat.eq_of_testBit_eq fun i=> ?_
  have:=congrArg (fun x=>Nat.testBit x i) h
  simp only [Nat.testBit_xor,Nat.zero_testBit] at this
  revert this
  cases a.testBit i<;>cases b.testBit i<;>simp
 ·rintro rfl;exact Nat.xor_self a
theorem Ur {now a:Nat} (h1:now<=2^40) (h2:a<=2^40) (w:World):pW now a w fun r w'=>(∃n:Nat,r=(n:Int)/\Lv now a n)/\w'=w:=by
 apply O7
 rw [abl (by omega) (by omega)]
 have hx:now^^^a<2^41:=Nat.xor_lt_two_pow (by omega) (by omega)
 refine fE (fun st W=>W=w/\∃n:Nat,st.1=(n:Int)/\st.2.1=(((now^^^a) / 64^n:Nat):Int)/\n<=7/\(n=0\/now / 64^n≠a / 64^n)) (fun st _=>st.2.1.toNat) ⟨rfl,0,rfl,by simp,by omega,.inl rfl⟩ ?_
 rintro⟨i,d,⟨⟩⟩ W ⟨rfl,n,hi,hd,hn,hne⟩ next hnext
 simp only at hi hd
 subst hi hd
 generalize hD:(now^^^a) / 64^n=D
 have e1:(now^^^a) / 64^(n+1)=D / 64:=by rw [vG,hD]
 by_cases hge:(D:Int)>=64
 ·rw [decide_eq_true hge,cond_true]
  refine⟨by omega,?_⟩
  have hD7:n<7:=by
   refine Classical.byContradiction fun h=> ?_
   have:(now^^^a) / 64^n=0:=by
    refine Nat.div_eq_of_lt (Nat.lt_of_lt_of_le hx ?_)
    calc 2^41<=64^7:=by decide
     _<=64^n:=Nat.pow_le_pow_right (by omega) (by omega)
   omega
  rw [wrap_i64 (by omega) (by omega),show (6:Int)=((6:Nat):Int) from rfl,CG (by omega)]
  refine hnext _ _ ⟨rfl,n+1,by simp,by rw [e1],by omega,.inr fun he=> ?_⟩ (by simp only [Int.toNat_natCast];omega)
  rw [XV,he,Nat.xor_self] at e1
  omega
 ·rw [decide_eq_false hge,cond_false]
  refine⟨⟨n,rfl,?_,hne⟩,rfl⟩
  have:D / 64=0:=Nat.div_eq_of_lt (by omega)
  rw [this,XV,xor_zero] at e1
  exact e1
def MI (k:Int):Value:= .int .i64 k
def slV (s:b_):Value:= .slice s.a s.len s.cap
def evT (t:Tm):Value:= .agg ⟨eT t⟩
theorem eqW (a b:Int):A_ Tryz.prog 16 3 (MI a) (MI b)=some (decide (a=b)):=by
 have h:A_ Tryz.prog 16 3 (.int .i64 a) (.int .i64 b)=some (a==b):=by kernel_rfl
 rw [MI,MI,h]
 congr 1
theorem WV (a:Int):kZ Tryz.prog 3 (MI a)=true:=by
 have h:kZ Tryz.prog 3 (.int .i64 a)=true:=by kernel_rfl
 exact h
theorem FQ {α β:Type} [DecidableEq α] {enc:α->Value} {ev:β->Value} {w:World} {r:Nat} {l:List (α×β)} {P:Program} {kt:TypeId} (h:oz enc ev w r l) (hE:∀a b:α,A_ P 16 kt (enc a) (enc b)=some (decide (a=b))) (a:α) (hk:kZ P kt (enc a)=true) {z:Value} {K:Value->Bool->Prop}
  (h0:jl l a=none->K z false) (h1:∀b,jl l a=some b->K (ev b) true):Ar P kt (some r) (enc a) z w K:=by
 obtain⟨es,c,g1,g2,_⟩:=h
 refine⟨hk,.inr ⟨r,es,c,rfl,g1,?_⟩⟩
 cases hl:jl l a with
 |none=>
  cases l with
  |nil=>
   have:es.toList=[]:=by simpa using g2
   exact⟨none,by rw [this];rfl,h0 hl⟩
  |cons x l'=>
   rcases FD hE a x.2 es.toList _ 0 g2 with ⟨_,q2,_⟩|⟨j,v,e,q1,_⟩
   ·exact⟨_,q2,h0 hl⟩
   ·rw [hl] at q1;cases q1
 |some b=>
  rcases FD hE a b es.toList _ 0 g2 with ⟨q1,_,_⟩|⟨j,v,e,q1,q2,_⟩
  ·rw [hl] at q1;cases q1
  ·rw [hl] at q1;cases q1
   exact⟨_,q2,h1 b hl⟩
theorem Pm {α β:Type} {enc:α->Value} {ev:β->Value} {w:World} {r:Nat} {l:List (α×β)} (h:oz enc ev w r l) {K:Int->Prop} (hK:K (l.length:Int)):KX w (some r) K:=by
 obtain⟨es,c,h1,h2,_⟩:=h
 refine⟨es,c,h1,?_⟩
 have:es.size=l.length:=by
  have:=congrArg List.length h2
  simpa using this
 rw [this];exact hK
abbrev PL:=List (Int×Tm)
def atS (ss:List b_) (b:Nat):Prop:=∃(i:Nat) (s:b_),ss[i]? =some s/\b_.at s b
def mF (d m:Nat) (ss:List b_) (b:Nat):Prop:=b=d\/b=m\/atS ss b
structure WM (w:World) (d m:Nat) (ss:List b_) (l:PL) (now:Nat) (tn most:Int) (F:Fs):Prop where
 hd:Row w d (ss.map slV++[.map (some m),.int .i64 (now:Int),.int .i64 tn,.int .i64 most])
 len:ss.length=448
 mp:oz MI evT w m l
 nd:(l.map (·.1)).Nodup
 buf:∀n k,n<7->k<64->∃s,ss[n * 64+k]? =some s/\iI 3 eT w s (F n k)
 ap:∀(i j:Nat) s s' b,i≠j->ss[i]? =some s->ss[j]? =some s'->b_.at s b->¬b_.at s' b
 ne:∀b,atS ss b->b≠d/\b≠m
 dm:d≠m
 sm:∀n k,n<7->k<64->(F n k).length<=2^21
section
variable {w w':World} {d m:Nat} {ss:List b_} {l:PL} {now:Nat} {tn most:Int} {F:Fs}
theorem WM.fr {S:Nat->Prop} (h:WM w d m ss l now tn most F) (hf:fD w w' S) (hs:∀b,mF d m ss b->¬S b):WM w' d m ss l now tn most F:=
 ⟨h.hd.fr hf (hs _ (.inl rfl)),h.len,h.mp.fr hf (hs _ (.inr (.inl rfl))),h.nd,fun n k hn hk=>by
  obtain⟨s,h1,h2⟩:=h.buf n k hn hk
  exact⟨s,h1,h2.fr hf fun b hb=>hs b (.inr (.inr ⟨_,s,h1,hb⟩))⟩,h.ap,h.ne,h.dm,h.sm⟩
theorem WM.ext (h:WM w d m ss l now tn most F) (hf:Ext w w'):WM w' d m ss l now tn most F:=h.fr (hf fun _=>False) (fun _ _=>by simp)
theorem WM.ab5 (h:WM w d m ss l now tn most F) {b:Nat} (hb:atS ss b):∃n k s,n<7/\k<64/\ss[n * 64+k]? =some s/\b_.at s b/\iI 3 eT w s (F n k):=by
 obtain⟨i,s,hi,hs⟩:=hb
 have hlt:=(List.getElem?_eq_some_iff.1 hi).1
 have hl:=h.len
 obtain⟨s',h1,h2⟩:=h.buf (i / 64) (i % 64) (by omega) (by omega)
 have e:i / 64 * 64+i % 64=i:=by omega
 rw [e,hi] at h1
 cases h1
 exact⟨i / 64,i % 64,s,by omega,by omega,by rw [e];exact hi,hs,h2⟩
theorem WM.lt (h:WM w d m ss l now tn most F) {b:Nat} (hb:mF d m ss b):b<w.heap.size:=by
 rcases hb with rfl|rfl|hb
 ·exact h.hd.lt
 ·exact h.mp.lt
 ·obtain⟨n,k,s,_,_,_,h1,h2⟩:=h.ab5 hb
  exact h2.lt h1
theorem WM.cell (h:WM w d m ss l now tn most F) (j:Nat):w.cell? ⟨d,j,none⟩=(ss.map slV++[.map (some m),.int .i64 (now:Int),.int .i64 tn,.int .i64 most])[j]? :=by rw [h.hd.cell]
theorem WM.SH (h:WM w d m ss l now tn most F):w.cell? ⟨d,448,none⟩=some (.map (some m)):=by
 rw [h.hd.cell,List.getElem?_append_right (by rw [List.length_map,h.len];omega),List.length_map,h.len];rfl
theorem WM.TG (h:WM w d m ss l now tn most F):w.cell? ⟨d,449,none⟩=some (.int .i64 (now:Int)):=by
 rw [h.hd.cell,List.getElem?_append_right (by rw [List.length_map,h.len];omega),List.length_map,h.len];rfl
theorem WM.acu (h:WM w d m ss l now tn most F):w.cell? ⟨d,450,none⟩=some (.int .i64 tn):=by
 rw [h.hd.cell,List.getElem?_append_right (by rw [List.length_map,h.len];omega),List.length_map,h.len];rfl
theorem WM.aem (h:WM w d m ss l now tn most F):w.cell? ⟨d,451,none⟩=some (.int .i64 most):=by
 rw [h.hd.cell,List.getElem?_append_right (by rw [List.length_map,h.len];omega),List.length_map,h.len];rfl
theorem WM.cs (h:WM w d m ss l now tn most F) {i:Nat} {s:b_} (hi:ss[i]? =some s):w.cell? ⟨d,i,none⟩=some (.slice s.a s.len s.cap):=by
 have hlt:=(List.getElem?_eq_some_iff.1 hi).1
 rw [h.hd.cell,List.getElem?_append_left (by rw [List.length_map];exact hlt),List.getElem?_map,hi];rfl
theorem WM.abI (h:WM w d m ss l now tn most F) {n k:Nat} (hn:n<7) (hk:k<64) {s:b_} (hs:ss[n * 64+k]? =some s) {w1:World} {s':b_} {L:List Tm} {S:Nat->Prop} (hf:fD w w1 S) (hS:∀b,mF d m ss b->S b->b_.at s b)
  (hb:iI 3 eT w1 s' L) (hnw:∀b,b_.at s' b->b_.at s b\/w.heap.size<=b) (hL:L.length<=2^21) {K:World->Prop}
  (hK:∀w2,WM w2 d m (ss.set (n * 64+k) s') l now tn most (uZ F n k L)->fD w1 w2 (·=d)->w2.heap.size=w1.heap.size->K w2):St w1 ⟨d,n * 64+k,none⟩ (.slice s'.a s'.len s'.cap) K:=by
 have hl:=h.len
 have hix:n * 64+k<ss.length:=by omega
 have atd:¬b_.at s d:=fun e=>(h.ne d ⟨_,s,hs,e⟩).1 rfl
 have atm:¬b_.at s m:=fun e=>(h.ne m ⟨_,s,hs,e⟩).2 rfl
 have hd1:=h.hd.fr hf fun e=>atd (hS d (.inl rfl) e)
 have hset:∀j,(ss.set (n * 64+k) s')[j]? =if n * 64+k=j then some s' else ss[j]? :=fun j=>by
  rw [List.getElem?_set]
  split
  ·first|rfl|rw [if_pos hix]
  ·rfl
 refine gu hd1 rfl (by rw [List.length_append,List.length_map];omega) fun w2 r2 f2 z2=> ?_
 have f2d:=f2 (·=d) rfl
 rw [List.set_append_left _ _ (by rw [List.length_map];exact hix),<- (show (ss.set (n * 64+k) s').map slV=(ss.map slV).set (n * 64+k) (Value.slice s'.a s'.len s'.cap) from List.map_set)] at r2
 have s'd:∀b,b_.at s' b->b≠d/\b≠m:=fun b hb'=>by
  rcases hnw b hb' with e|e
  ·exact h.ne b ⟨_,s,hs,e⟩
  ·have q1:=h.lt (.inl rfl:mF d m ss d)
   have q2:=h.lt (.inr (.inl rfl):mF d m ss m)
   exact⟨by omega,by omega⟩
 have s'o:∀b j u,j≠n * 64+k->ss[j]? =some u->b_.at u b->¬b_.at s' b:=fun b j u hj hu hub hb'=>by
  rcases hnw b hb' with e|e
  ·exact h.ap j _ u s b hj hu hs hub e
  ·have:=h.lt (.inr (.inr ⟨j,u,hu,hub⟩):mF d m ss b);omega
 refine hK w2 ⟨r2,by rw [List.length_set];exact hl,(h.mp.fr hf fun e=>atm (hS m (.inr (.inl rfl)) e)).fr f2d (fun e=>h.dm e.symm),h.nd,fun n' k' hn' hk'=> ?_,fun i j u u' b hij hi hj hu hu'=> ?_,fun b hb'=> ?_,h.dm,fun n' k' hn' hk'=> ?_⟩ f2d z2
 ·rw [hset]
  unfold uZ
  by_cases e:n'=n/\k'=k
  ·rw [if_pos e,if_pos (by rw [e.1,e.2])]
   exact⟨s',rfl,hb.fr f2d fun b hb'=>(s'd b hb').1⟩
  ·rw [if_neg e,if_neg (by omega)]
   obtain⟨u,h1,h2⟩:=h.buf n' k' hn' hk'
   refine⟨u,h1,(h2.fr hf fun b hub hSb=> ?_).fr f2d fun b hub=>(h.ne b ⟨_,u,h1,hub⟩).1⟩
   exact h.ap _ _ u s b (by omega) h1 hs hub (hS b (.inr (.inr ⟨_,u,h1,hub⟩)) hSb)
 ·rw [hset] at hi hj
  split at hi
  ·rename_i e1
   split at hj
   ·omega
   ·rename_i e2
    cases hi
    exact s'o b j u' (by omega) hj hu' hu
  ·rename_i e1
   split at hj
   ·cases hj;exact s'o b i u (by omega) hi hu hu'
   ·exact h.ap i j u u' b hij hi hj hu hu'
 ·obtain⟨j,u,hj,hu⟩:=hb'
  rw [hset] at hj
  split at hj
  ·cases hj;exact s'd b hu
  ·exact h.ne b ⟨j,u,hj,hu⟩
 ·unfold uZ
  split
  ·exact hL
  ·exact h.sm n' k' hn' hk'
theorem WM.setH (h:WM w d m ss l now tn most F) {now':Nat} {tn':Int} {j:Nat} {v:Value} (hv:gY v=true) (hj:(ss.map slV++[Value.map (some m),Value.int .i64 (now:Int),Value.int .i64 tn,Value.int .i64 most]).set j v=ss.map slV++[Value.map (some m),Value.int .i64 (now':Int),Value.int .i64 tn',Value.int .i64 most]) (hj2:j<452) {K:World->Prop}
  (hK:∀w2,WM w2 d m ss l now' tn' most F->fD w w2 (·=d)->w2.heap.size=w.heap.size->K w2):St w ⟨d,j,none⟩ v K:=by
 refine gu h.hd hv (by rw [List.length_append,List.length_map,h.len];exact hj2) fun w2 r2 f2 z2=> ?_
 rw [hj] at r2
 have f2d:=f2 (·=d) rfl
 exact hK w2 ⟨r2,h.len,h.mp.fr f2d (fun e=>h.dm e.symm),h.nd,fun n k hn hk=>by
  obtain⟨s,h1,h2⟩:=h.buf n k hn hk
  exact⟨s,h1,h2.fr f2d fun b hb=>(h.ne b ⟨_,s,h1,hb⟩).1⟩,h.ap,h.ne,h.dm,h.sm⟩ f2d z2
theorem WM.ade (h:WM w d m ss l now tn most F) (now':Nat) {K:World->Prop}
  (hK:∀w2,WM w2 d m ss l now' tn most F->fD w w2 (·=d)->w2.heap.size=w.heap.size->K w2):St w ⟨d,449,none⟩ (.int .i64 (now':Int)) K:=
 h.setH rfl (by rw [List.set_append_right _ _ (by rw [List.length_map,h.len];omega),List.length_map,h.len];rfl) (by omega) hK
theorem WM.ado (h:WM w d m ss l now tn most F) (tn':Int) {K:World->Prop}
  (hK:∀w2,WM w2 d m ss l now tn' most F->fD w w2 (·=d)->w2.heap.size=w.heap.size->K w2):St w ⟨d,450,none⟩ (.int .i64 tn') K:=
 h.setH rfl (by rw [List.set_append_right _ _ (by rw [List.length_map,h.len];omega),List.length_map,h.len];rfl) (by omega) hK
theorem WM.aen (h:WM w d m ss l now tn most F) (t:Tm) {K:World->Prop}
  (hK:∀w2,WM w2 d m ss (Ej l t.id t) now tn most F->fD w w2 (·=m)->w2.heap.size=w.heap.size->K w2):wJ Tryz.prog 3 (some m) (.int .i64 t.id) (.agg ⟨eT t⟩) w K:=
 I9 (enc:=MI) (ev:=evT) h.mp eqW t.id t (WV _) fun w2 g2 f2 z2=>hK w2 ⟨h.hd.fr f2 h.dm,h.len,g2,EY h.nd _ _,fun n k hn hk=>by
  obtain⟨s,h1,h2⟩:=h.buf n k hn hk
  exact⟨s,h1,h2.fr f2 fun b hb=>(h.ne b ⟨_,s,h1,hb⟩).2⟩,h.ap,h.ne,h.dm,h.sm⟩ f2 z2
theorem WM.adX (h:WM w d m ss l now tn most F) (id:Int) {K:World->Prop}
  (hK:∀w2,WM w2 d m ss (uN l id) now tn most F->fD w w2 (·=m)->w2.heap.size=w.heap.size->K w2):Dl Tryz.prog 3 (some m) (.int .i64 id) w K:=
 JR (enc:=MI) (ev:=evT) h.mp eqW id (WV _) fun w2 g2 f2 z2=>hK w2 ⟨h.hd.fr f2 h.dm,h.len,g2,h.nd.sublist ((Jm l id).map _),fun n k hn hk=>by
  obtain⟨s,h1,h2⟩:=h.buf n k hn hk
  exact⟨s,h1,h2.fr f2 fun b hb=>(h.ne b ⟨_,s,h1,hb⟩).2⟩,h.ap,h.ne,h.dm,h.sm⟩ f2 z2
theorem BH (h:WM w d m ss l now tn most F):iT (some ⟨d,0,none⟩) w fun r w'=>r=true/\w'=w:=by
 apply Eu
 simp only [sx,h.SH,Bool.not_false]
 exact⟨by trivial,by trivial⟩
theorem abh (h:WM w d m ss l now tn most F):jK (some ⟨d,0,none⟩) w fun n w'=>n=(l.length:Int)/\w'=w:=by
 apply Hl
 refine kF (BH h) ?_
 rintro _ w2 ⟨rfl,hw⟩
 subst hw
 simp only [sx,Bool.not_true,h.SH]
 exact Pm h.mp ⟨by trivial,by trivial⟩
theorem aad {a n:Nat} (hn:n<7):wG .i64 (jU .i64 (a:Int) (IntKind.i64.wrap (6 * (n:Int)))) 63=((dg a n:Nat):Int)/\IntKind.i64.wrap (6 * (n:Int))=((6 * n:Nat):Int):=by
 have e:IntKind.i64.wrap (6 * (n:Int))=((6 * n:Nat):Int):=by rw [wrap_i64 (by omega) (by omega)];omega
 refine⟨?_,e⟩
 rw [e,CG (by omega),p64]
 unfold dg
 have:∀x:Nat,wG .i64 (x:Int) 63=((x % 64:Nat):Int):=by
  intro x
  unfold wG
  have h1:(BitVec.ofInt (IntKind.bits .i64) (x:Int)).toNat=x % 2^64:=by rw [Ci,BitVec.toNat_ofInt];omega
  have h2:(BitVec.ofInt (IntKind.bits .i64) 63).toNat=2^6 - 1:=by rw [Ci,BitVec.toNat_ofInt];rfl
  rw [BitVec.toNat_and,h1,h2,RF,wrap_i64 (by omega) (by omega)]
  omega
 exact this _
theorem O8 (h:WM w d m ss l now tn most F) (h1:now<=2^40) {a:Nat} (h2:a<=2^40):jE (some ⟨d,0,none⟩) (a:Int) w fun r w'=>(∃n,n<7/\Lv now a n/\r=some ⟨d,n * 64+dg a n,none⟩)/\Ext w w':=by
 apply GL
 simp only [sx,h.TG]
 refine Fh (Ur h1 h2 w) ?_
 rintro r w1 ⟨⟨n,rfl,hl⟩,hw⟩
 subst hw
 have hn:=hl.lt h1 h2
 obtain⟨e1,e2⟩:=aad (a:=a) hn
 have hd:=zy a n
 rw [e1,e2]
 simp only [Int.toNat_natCast,Nat.mul_one]
 exact⟨by omega,by omega,by omega,by omega,by omega,⟨n,hn,hl,rfl⟩,Ext.drew _⟩
theorem XW (h:WM w d m ss l now tn most F) (h1:now<=2^40) (t:Tm) (h2:t.a<=2^40) (hl:∀n k,n<7->k<64->(F n k).length<2^21):
  kJ (some ⟨d,0,none⟩) t.id (t.a:Int) t.tn w fun w'=>fD w w' (mF d m ss)/\∃n ss',n<7/\Lv now t.a n/\WM w' d m ss' l now tn most (uZ F n (dg t.a n) (F n (dg t.a n)++[t]))/\∀b,mF d m ss' b->mF d m ss b\/w.heap.size<=b:=by
 apply H_
 refine fK fun p w1 r1 e1 z1 f1=> ?_
 have hw1:=h.ext f1
 simp only [sx,r1.cell]
 refine sJ (O8 hw1 h1 h2) ?_
 rintro _ w2 ⟨⟨n,hn,hlv,rfl⟩,f2⟩
 have x2:=f1.trans (f2.trans (Ext.drew w2))
 have h2w:=h.ext x2
 have r2:=(r1.ext f2).drew
 have hk:=zy t.a n
 obtain⟨s,hs,hb⟩:=h2w.buf n (dg t.a n) hn hk
 have hll:=hl n (dg t.a n) hn hk
 simp only [vU,List.getElem?_cons_zero,List.getElem?_cons_succ,fA,fG,fC,h2w.cs hs,r2.cell]
 refine fK fun q w3 r3 e3 z3 f3=> ?_
 have h3:=h2w.ext f3
 simp only [true_and,h3.cs hs]
 have hel:kH 3 eT w3 ⟨some ⟨q,0,none⟩,1,1⟩ [t]:=(iI.row (xs:=[t]) (f:=eT) (n:=3) (by simpa using r3)).sl kS (by omega)
 refine mg kS (hb.ext f3) hel rfl (by omega) Si (by simp only [List.length_singleton];omega) (by simp only [List.length_singleton];omega) fun s4 w4 b4 f4 n4=> ?_
 have x3:=x2.trans f3
 refine h3.abI hn hk hs f4 (fun b _ hb=>hb) b4 n4 (by rw [List.length_append,List.length_singleton];omega) fun w5 h5 f5 z5=> ?_
 have hat:∀b,b_.at s b->mF d m ss b:=fun b hb=> .inr (.inr ⟨_,s,hs,hb⟩)
 refine⟨((x3 (mF d m ss)).trans (f4.mono hat) fun _ _ e=>e).trans f5 fun b _ e=> .inl e,n,_,hn,hlv,h5,fun b hb=> ?_⟩
 rcases hb with hb|hb|⟨j,u,hj,hu⟩
 ·exact .inl (.inl hb)
 ·exact .inl (.inr (.inl hb))
 ·rw [List.getElem?_set] at hj
  split at hj
  ·split at hj
   ·cases hj
    rcases n4 b hu with e|e
    ·exact .inl (hat b e)
    ·exact .inr (Nat.le_trans x3.size e)
   ·cases hj
  ·exact .inl (.inr (.inr ⟨j,u,hj,hu⟩))
theorem Vh (h:WM w d m ss l now tn most F) (h1:now<=2^40) (t:Tm) (h2:t.a<=2^40):
  j_ (some ⟨d,0,none⟩) t.id (t.a:Int) t.tn w fun w'=>fD w w' (mF d m ss)/\∃n ss',n<7/\Lv now t.a n/\WM w' d m ss' l now tn most (uZ F n (dg t.a n) ((F n (dg t.a n)).filter fun x=> !(x.id==t.id)))/\∀b,mF d m ss' b->mF d m ss b\/w.heap.size<=b:=by
 apply Gu
 refine fK fun p w1 r1 e1 z1 f1=> ?_
 have hw1:=h.ext f1
 simp only [sx,r1.cell]
 refine sJ (O8 hw1 h1 h2) ?_
 rintro _ w2 ⟨⟨n,hn,hlv,rfl⟩,f2⟩
 have x2:=f1.trans f2
 have h2w:=h.ext x2
 have r2:=r1.ext f2
 have hk:=zy t.a n
 obtain⟨s,hs,hb⟩:=h2w.buf n (dg t.a n) hn hk
 have hll:=h.sm n (dg t.a n) hn hk
 have hat:∀b,b_.at s b->mF d m ss b:=fun b hb=> .inr (.inr ⟨_,s,hs,hb⟩)
 have hp:∀b,mF d m ss b->b≠p:=fun b hb=>by have:=h.lt hb;omega
 simp only [vU,fA,fG,h2w.cs hs]
 have isId:FnT (Value.func (.func Fv) #[] #[.pointer (some ⟨p,0,none⟩)]) (fun W=>Row W p (eT t)) (fun x=>x.id==t.id):=by
  intro x W K hC hK
  refine lV (by kernel_rfl) ?_
  have:xH x.id x.a x.tn ⟨p,0,none⟩ W fun r W'=>r=(x.id==t.id)/\Ext W W':=by
   apply DI
   refine fK fun q W1 q1 _ _ g1=> ?_
   simp only [sx,q1.cell,(hC.ext g1).cell]
   exact⟨by trivial,g1⟩
  refine Calls.mono this ?_
  rintro e W' ⟨r,he,rfl,hf⟩
  exact⟨_,he,hK W' hf⟩
 refine iL (Rn hb (by omega) isId fun W hf=>r2.fr hf fun e=>hp p (hat p e) rfl) ?_
 rintro s4 w4 ⟨b4,f4,n4⟩
 refine h2w.abI hn hk hs f4 (fun b _ hb=>hb) b4 (fun b hb=> .inl (n4 b hb)) (Nat.le_trans (List.length_filter_le ..) hll) fun w5 h5 f5 z5=> ?_
 refine⟨((x2 (mF d m ss)).trans (f4.mono hat) fun _ _ e=>e).trans f5 fun b _ e=> .inl e,n,_,hn,hlv,h5,fun b hb=> ?_⟩
 rcases hb with hb|hb|⟨j,u,hj,hu⟩
 ·exact .inl (.inl hb)
 ·exact .inl (.inr (.inl hb))
 ·rw [List.getElem?_set] at hj
  split at hj
  ·split at hj
   ·cases hj
    exact .inl (hat b (n4 b hu))
   ·cases hj
  ·exact .inl (.inr (.inr ⟨j,u,hj,hu⟩))
end
end Go.Proofs.WN
end
section
namespace Go.Proofs.WN
open Gp Gp.Wh
set_option maxRecDepth 100000
theorem Xt:∀{a b:List Int},a.Nodup->(∀x∈a,x∈b)->a.length<=b.length
 |[],_,_,_=>by simp
 |x::a,b,h,hs=>by
  rw [List.nodup_cons] at h
  have hx:=hs x (by simp)
  have:=Xt (b:=b.erase x) h.2 fun y hy=>by
   have hne:y≠x:=fun e=>h.1 (e ▸ hy)
   exact(List.mem_erase_of_ne hne).2 (hs y (by simp [hy]))
  rw [List.length_erase_of_mem hx] at this
  have:=List.length_pos_of_mem hx
  simp only [List.length_cons];omega
theorem acF {l:PL} {id:Int} {t:Tm} (h:jl l id=some t):id∈l.map (·.1):=by
 refine Classical.byContradiction fun hn=> ?_
 rw [rM.2 hn] at h;cases h
theorem WI.short {now:Nat} {P:Ps} {F:Fs} {l:PL} (h:WI now P F) (hs:∀id t,P id=some t->jl l id=some t) {n k:Nat} (hn:n<7) (hk:k<64):(F n k).length<=l.length:=by
 have:=Xt (b:=l.map (·.1)) (h.nd n k hn hk) fun x hx=>by
  obtain⟨t,ht,rfl⟩:=List.mem_map.1 hx
  exact acF (hs _ _ ((h.mem n k t hn hk).1 ht).1)
 simpa using this
section
variable {w w':World} {d m:Nat} {ss:List b_} {l:PL} {now:Nat} {tn most:Int} {F:Fs}
theorem Zm (h:WM w d m ss l now tn most F) (hi:WI now (jl l) F):lI (some ⟨d,0,none⟩) w fun r t w'=>Ext w w'/\
  ((t=false/\∀id,jl l id=none)\/(t=true/\∃u,jl l u.id=some u/\r=(u.a:Int)/\now<=u.a/\∀id v,jl l id=some v->u.a<=v.a)):=by
 apply FY
 refine fE (fun st W=>W=w/\∃n:Nat,n<=7/\st.1=(n:Int)/\∀n' k',n'<n->k'<64->dg now n'<=k'->F n' k'=[]) (fun st _=>7 - st.1.toNat) ⟨rfl,0,by omega,rfl,fun n' k' hn=>by omega⟩ ?_
 rintro⟨i,⟨⟩⟩ W ⟨rfl,n,hn,hin,he⟩ next hnext
 simp only at hin
 subst hin
 by_cases hlt:(n:Int)<7
 ·rw [decide_eq_true hlt,cond_true]
  have hn7:n<7:=by omega
  obtain⟨e1,e2⟩:=aad (a:=now) hn7
  simp only [sx,h.TG]
  rw [e1,e2]
  refine⟨by omega,?_⟩
  have hd:=zy now n
  refine fE (fun st W'=>W'=W/\∃k:Nat,k<=64/\dg now n<=k/\st.1=(k:Int)/\∀k',k'<k->dg now n<=k'->F n k'=[]) (fun st _=>64 - st.1.toNat) ⟨rfl,dg now n,by omega,Nat.le_refl _,rfl,fun k' h1 h2=>by omega⟩ ?_
  rintro⟨i,⟨⟩⟩ W' ⟨rfl,k,hk,hdk,hik,hek⟩ next' hnext'
  simp only at hik
  subst hik
  by_cases hlk:(k:Int)<64
  ·rw [decide_eq_true hlk,cond_true]
   have hk6:k<64:=by omega
   obtain⟨s,hs,hb⟩:=h.buf n k hn7 hk6
   have hsm:=h.sm n k hn7 hk6
   simp only [fA,fG,Int.toNat_natCast,Nat.mul_one,h.cs hs]
   refine⟨by omega,by omega,by omega,by omega,?_⟩
   have hbl:=hb.len
   by_cases hz:F n k=[]
   ·have:¬((s.len:Int)>0):=by rw [hbl,hz];simp
    rw [decide_eq_false this,cond_false]
    rw [wrap_i64 (by omega) (by omega)]
    refine hnext' _ _ ⟨rfl,k+1,by omega,by omega,by simp,fun k' h1 h2=> ?_⟩ (by simp only;omega)
    rcases Nat.lt_or_ge k' k with g|g
    ·exact hek k' g h2
    ·have:k'=k:=by omega
     rw [this];exact hz
   ·have hpos:=List.length_pos_iff.2 hz
    have:((s.len:Int)>0):=by omega
    rw [decide_eq_true this,cond_true]
    refine o9 (acR (hb.sl kS (by omega)) (by omega) hz) ?_
    rintro r0 r1 r2 w3 ⟨f3,t,ht,rfl,hmin⟩
    obtain⟨g1,g2,g3⟩:=hi.next hn7 hk6 he hek ht hmin
    exact⟨f3,.inr ⟨by trivial,t,g1,rfl,g2,g3⟩⟩
  ·rw [decide_eq_false hlk,cond_false]
   rw [wrap_i64 (by omega) (by omega)]
   have:k=64:=by omega
   subst this
   refine hnext _ _ ⟨rfl,n+1,by omega,by simp,fun n' k' h1 h2 h3=> ?_⟩ (by simp only;omega)
   rcases Nat.lt_or_ge n' n with g|g
   ·exact he n' k' g h2 h3
   ·have:n'=n:=by omega
    subst this
    exact hek k' h2 h3
 ·rw [decide_eq_false hlt,cond_false]
  have:n=7:=by omega
  subst this
  exact⟨Ext.refl _,.inl ⟨rfl,fun id=>hi.none he id⟩⟩
theorem X9 {F:Fs} {n k:Nat} (h:F n k=[]):uZ F n k []=F:=by
 funext n' k'
 unfold uZ
 split
 ·rename_i e;rw [e.1,e.2,h]
 ·rfl
theorem U_ (h:WM w d m ss l now tn most F) (hi:WI now (jl l) F) {to:Nat} (h1:now<=to) (h2:to<=2^40) (hto:∀id u,jl l id=some u->to<=u.a) (hl:l.length<=2^20):
  jH (some ⟨d,0,none⟩) (to:Int) w fun w'=>fD w w' (mF d m ss)/\∃ss' F',WM w' d m ss' l to tn most F'/\WI to (jl l) F'/\∀b,mF d m ss' b->mF d m ss b\/w.heap.size<=b:=by
 apply Dx
 simp only [sx,h.TG]
 refine Fh (Ur hi.nw h2 w) ?_
 rintro r w1 ⟨⟨v,rfl,hlv⟩,hw⟩
 subst hw
 have hv7:=hlv.lt hi.nw h2
 have low:=fun {n k:Nat}=>hi.low (n:=n) (k:=k) h1 hto hlv
 have hdv:=zy to v
 have hmv:(F v (dg to v)).length<=2^20:=Nat.le_trans (WI.short hi (fun _ _ e=>e) hv7 hdv) hl
 refine fE (fun st W=>∃j ss',j<=v/\st.2.1=(j:Int)/\iI 3 eT W st.1 (if j<v then F v (dg to v) else [])/\(∀b,b_.at st.1 b->w1.heap.size<=b)/\(∀b,mF d m ss' b->mF d m ss b)/\fD w1 W (mF d m ss)/\
   WM W d m ss' l now tn most (if j<v then uZ F v (dg to v) [] else F)) (fun st _=>st.2.1.toNat)
  ⟨v,ss,Nat.le_refl _,rfl,by rw [if_neg (by omega)];exact iI.nil,(fun b ⟨o,hb⟩=>by cases hb),fun b hb=>hb,fD.refl _ _,by rw [if_neg (by omega)];exact h⟩ ?_
 rintro⟨mv,i,⟨⟩⟩ W ⟨j,ss',hj,hij,hbm,hnm,hsub,hf,hW⟩ next hnext
 simp only at hij hbm hnm
 subst hij
 have mvd:∀b,b_.at mv b->¬mF d m ss' b:=fun b hb hx=>by have:=h.lt (hsub b hx);have:=hnm b hb;omega
 by_cases hpos:(j:Int)>0
 ·rw [decide_eq_true hpos,cond_true]
  have hj7:j<7:=by omega
  obtain⟨e1,e2⟩:=aad (a:=to) hj7
  have hd:=zy to j
  have hWd:=hW.ext (Ext.drew W)
  obtain⟨s,hs,hb⟩:=hWd.buf j (dg to j) hj7 hd
  rw [e1,e2]
  simp only [fA,fG,Int.toNat_natCast,Nat.mul_one,hWd.cs hs]
  refine⟨by omega,by omega,by omega,by omega,by omega,?_⟩
  have hslot:(if j<v then uZ F v (dg to v) [] else F) j (dg to j)=if j<v then [] else F v (dg to v):=by
   by_cases hjv:j<v
   ·rw [if_pos hjv,if_pos hjv]
    unfold uZ
    rw [if_neg (by omega)]
    exact low hjv hj7 hd
   ·have:j=v:=by omega
    subst this
    rw [if_neg hjv,if_neg hjv]
  rw [hslot] at hb
  refine mg kS (hbm.ext (Ext.drew W)) (hb.sl kS (by omega)) rfl (by omega) Si (by split<;>simp only [List.length_nil]<;>omega) (by split<;>simp only [List.length_nil]<;>omega) fun s4 w4 b4 f4 n4=> ?_
  have hall:(if j<v then F v (dg to v) else [])++(if j<v then [] else F v (dg to v))=F v (dg to v):=by split<;>simp
  rw [hall] at b4
  have hWz:W.drew.heap.size=W.heap.size:=rfl
  have hfz:=hf.size
  have f4':∀b,mF d m ss' b->b_.at mv b->b_.at s b:=fun b hx hb=>absurd hx (mvd b hb)
  refine hWd.abI hj7 hd hs (s':=⟨none,0,0⟩) (L:=[]) f4 f4' iI.nil (fun b ⟨o,hb⟩=>by cases hb) (by simp) fun w5 h5 f5 z5=> ?_
  have hF:uZ (if j<v then uZ F v (dg to v) [] else F) j (dg to j) []=if j - 1<v then uZ F v (dg to v) [] else F:=by
   by_cases hjv:j<v
   ·rw [if_pos hjv,if_pos (by omega)]
    exact X9 (by rw [<- if_pos (c:=j<v) hjv (t:=uZ F v (dg to v) []) (e:=F),hslot,if_pos hjv])
   ·have:j=v:=by omega
    subst this
    rw [if_neg hjv,if_pos (by omega)]
  rw [hF] at h5
  have hf4:fD w1 w4 (mF d m ss):=(hf.ext (Ext.drew W)).trans f4 fun b hb1 hb2=>by have:=hnm b hb2;omega
  rw [wrap_i64 (by omega) (by omega)]
  refine hnext _ _ ⟨j - 1,_,by omega,by simp only;omega,?_,?_,?_,hf4.trans f5 fun b _ e=> .inl e,h5⟩ (by simp only;omega)
  ·simp only
   rw [if_pos (show j - 1<v by omega)]
   refine b4.fr f5 fun b hb e=> ?_
   have hdl:=h.lt (.inl rfl:mF d m ss d)
   rcases n4 b hb with g|g
   ·have:=hnm b g;omega
   ·have:W.drew.heap.size<=b:=g
    omega
  ·simp only
   intro b hb
   rcases n4 b hb with g|g
   ·exact hnm b g
   ·have:W.drew.heap.size<=b:=g
    omega
  ·rintro b (hb|hb|⟨q,u,hq,hu⟩)
   ·exact .inl hb
   ·exact .inr (.inl hb)
   ·rw [List.getElem?_set] at hq
    split at hq
    ·split at hq
     ·cases hq;obtain⟨o,ho⟩:=hu;cases ho
     ·cases hq
    ·exact hsub b (.inr (.inr ⟨q,u,hq,hu⟩))
 ·rw [decide_eq_false hpos,cond_false]
  have:j=0:=by omega
  subst this
  have hturn:=hi.turn h1 h2 hto hlv
  have eM:(if 0<v then F v (dg to v) else [])=if v=0 then [] else F v (dg to v):=by
   by_cases hz:v=0
   ·rw [if_pos hz,if_neg (by omega)]
   ·rw [if_neg hz,if_pos (by omega)]
  have eF:(if 0<v then uZ F v (dg to v) [] else F)=if v=0 then F else uZ F v (dg to v) []:=by
   by_cases hz:v=0
   ·rw [if_pos hz,if_neg (by omega)]
   ·rw [if_neg hz,if_pos (by omega)]
  rw [eM] at hbm
  rw [eF] at hW
  have hMF:∀t∈(if v=0 then [] else F v (dg to v)),t∈F v (dg to v):=fun t ht=>by
   split at ht
   ·simp at ht
   ·exact ht
  have hMn:((if v=0 then [] else F v (dg to v)).map Tm.id).Nodup:=by
   split
   ·simp
   ·exact hi.nd v _ hv7 hdv
  have hMl:(if v=0 then [] else F v (dg to v)).length<=2^20:=by
   split
   ·simp
   ·exact hmv
  generalize (if v=0 then [] else F v (dg to v))=Mv at hbm hturn hMF hMn hMl
  generalize (if v=0 then F else uZ F v (dg to v) [])=F1 at hW hturn
  simp only []
  refine hW.ade to fun w5 h5 f5 z5=> ?_
  have hdl:=h.lt (.inl rfl:mF d m ss d)
  have hbm5:=hbm.fr f5 fun b hb e=>by have:=hnm b hb;omega
  have hf5:fD w1 w5 (mF d m ss):=hf.trans f5 fun b _ e=> .inl e
  have mlt:∀b,b_.at mv b->b<w5.heap.size:=fun b hb=>hbm5.lt hb
  have mlen:=hbm.len
  refine fE (fun st W'=>∃i ss2 F2,i<=Mv.length/\st.1=(i:Int)/\WM W' d m ss2 l to tn most F2/\WI to (rest (jl l) (Mv.drop i)) F2/\iI 3 eT W' mv Mv/\fD w1 W' (mF d m ss)/\(∀b,mF d m ss2 b->mF d m ss b\/w5.heap.size<=b)/\w5.heap.size<=W'.heap.size) (fun st _=>Mv.length - st.1.toNat)
   ⟨0,ss',F1,by omega,rfl,h5,by simpa using hturn,hbm5,hf5,fun b hb=> .inl (hsub b hb),Nat.le_refl _⟩ ?_
  rintro⟨i,⟨⟩⟩ W' ⟨i,ss2,F2,hin,hii,hW',hI',hbW,hfW,hsub2,hsz⟩ next' hnext'
  simp only at hii
  subst hii
  by_cases hlt:(i:Int)<(mv.len:Int)
  ·rw [decide_eq_true hlt,cond_true]
   have hlt':i<Mv.length:=by omega
   have hx:=List.getElem?_eq_getElem hlt'
   have hdr:=List.drop_eq_getElem_cons hlt'
   generalize Mv[i]=t at hx hdr
   refine QU (hbW.sl kS (by omega)) hx fun a c0 c1 c2=> ?_
   simp only [fA,fC,c0,c1,c2]
   refine Cc rfl rfl fun p w6 r6 e6 z6 f6=> ?_
   simp only [sx,r6.cell]
   have h6:=hW'.ext f6
   have hmem:=hMF t (List.mem_of_getElem? hx)
   have hp:=((hi.mem v _ t hv7 hdv).1 hmem).1
   have hpl:=hi.pl _ _ hp
   have hrs:∀id u,rest (jl l) (Mv.drop i) id=some u->jl l id=some u:=fun id u hu=>(uP.1 hu).1
   refine zi (XW h6 h2 t hpl.2.2 fun n k hn hk=>by have:=WI.short hI' hrs hn hk;omega) ?_
   rintro w7 ⟨f7,n,ss3,hn7,hln,h7,hsub3⟩
   have mvd2:∀b,b_.at mv b->¬mF d m ss2 b:=fun b hb hx=>by
    rcases hsub2 b hx with g|g
    ·have:=h.lt g;have:=hnm b hb;omega
    ·have:=mlt b hb;omega
   have hnn:rest (jl l) (Mv.drop i) t.id=none:=by
    unfold rest
    rw [hp,hdr]
    simp
   have hput:=hI'.put hnn (hto _ _ hp) hpl.2.2 hln
   have htd:t∉Mv.drop (i+1):=by
    intro hx2
    have hn2:=hMn.sublist ((List.drop_sublist i Mv).map Tm.id)
    rw [hdr,List.map_cons,List.nodup_cons] at hn2
    exact hn2.1 (List.mem_map.2 ⟨t,hx2,rfl⟩)
   rw [hdr,X8 hp (fun id u hu=>(hi.pl id u hu).1) htd] at hput
   rw [wrap_i64 (by omega) (by omega)]
   have s6:=f6.size
   have s7:=f7.size
   refine hnext' _ _ ⟨i+1,ss3,_,by omega,by simp,h7,hput,(hbW.ext f6).fr f7 fun b hb hx=>mvd2 b hb hx,(hfW.ext f6).trans f7 fun b hb hx=> ?_,fun b hb=> ?_,by omega⟩ (by simp only;omega)
   ·rcases hsub2 b hx with g|g
    ·exact g
    ·have:=hf5.size;omega
   ·rcases hsub3 b hb with g|g
    ·exact hsub2 b g
    ·exact .inr (by omega)
  ·rw [decide_eq_false hlt,cond_false]
   have:i=Mv.length:=by omega
   subst this
   rw [List.drop_length,aah] at hI'
   exact⟨hfW,ss2,F2,hW',hI',fun b hb=>by
    rcases hsub2 b hb with g|g
    ·exact .inl g
    ·exact .inr (by have:=hf5.size;omega)⟩
structure WS (w:World) (d m:Nat) (ss:List b_) (l:PL) (now:Nat) (tn most:Int) (F:Fs):Prop where
 wm:WM w d m ss l now tn most F
 wi:WI now (jl l) F
 mo:most<=1048576/\(l.length:Int)<=most
 tb:∀id t,jl l id=some t->t.tn<=tn
 ti:∀id id' t u,jl l id=some t->jl l id'=some u->t.tn=u.tn->id=id'
 t0:0<=tn
theorem WS.ext (h:WS w d m ss l now tn most F) (hf:Ext w w'):WS w' d m ss l now tn most F:=⟨h.wm.ext hf,h.wi,h.mo,h.tb,h.ti,h.t0⟩
theorem WS.fr {S:Nat->Prop} (h:WS w d m ss l now tn most F) (hf:fD w w' S) (hs:∀b,mF d m ss b->¬S b):WS w' d m ss l now tn most F:=⟨h.wm.fr hf hs,h.wi,h.mo,h.tb,h.ti,h.t0⟩
def TQ (l:PL) (most id at_:Int):Int:=if id<0\/id>2147483648\/at_<0\/at_>1099511627776 then 1 else if jl l id=none/\most<=(l.length:Int) then 7 else 0
theorem acU (l:PL) (a:Int) (b:Tm):((Ej l a b).length:Int)=if jl l a=none then (l.length:Int)+1 else l.length:=by
 have:=congrArg List.length (SI l a b)
 rw [List.length_map] at this
 by_cases hm:a∈l.map (·.1)
 ·rw [if_pos hm,List.length_map] at this
  rw [if_neg (by rw [rM];simpa using hm),this]
 ·rw [if_neg hm,List.length_append,List.length_map,List.length_singleton] at this
  rw [if_pos (rM.2 hm),this];omega
theorem acB (l:PL) (t:Tm):jl (Ej l t.id t)=Bz (jl l) t.id (some t):=by
 funext id
 rw [Du];rfl
theorem abS (h:WS w d m ss l now tn most F) (id at_:Int) (ht:tn<2^62):
  kK (some ⟨d,0,none⟩) id at_ w fun e w'=>e=TQ l most id at_/\fD w w' (mF d m ss)/\
   ∃ss' F',(∀b,mF d m ss' b->mF d m ss b\/w.heap.size<=b)/\
    WS w' d m ss' (if TQ l most id at_=0 then Ej l id ⟨id,max at_.toNat now,tn+1⟩ else l) now (if TQ l most id at_=0 then tn+1 else tn) most F':=by
 apply Hy
 have hm:=h.mo
 have hnw:=h.wi.nw
 refine kF (BH h.wm) ?_
 rintro _ w2 ⟨rfl,hw⟩
 subst hw
 simp -zeta only [Bool.not_true,cond_false]
 intro J6
 have h6t:(id<0\/id>2147483648\/at_<0\/at_>1099511627776)->J6 true:=by
  intro hbad
  have e:TQ l most id at_=1:=by unfold TQ;rw [if_pos hbad]
  simp only [J6,cond_true]
  rw [e]
  exact⟨by trivial,fD.refl _ _,ss,F,fun b hb=> .inl hb,h⟩
 have h6f:¬(id<0\/id>2147483648\/at_<0\/at_>1099511627776)->J6 false:=by
  intro hok
  have eA:TQ l most id at_=if jl l id=none/\most<=(l.length:Int) then 7 else 0:=by unfold TQ;rw [if_neg hok]
  simp only [not_or] at hok
  simp -zeta only [sx,J6,h.wm.SH]
  have key:∀(K:Value->Bool->Prop),(∀v b,(∃t0:Tm,v= .agg ⟨eT t0⟩/\∀t,jl l id=some t->t0=t)->b=(jl l id).isSome->K v b)->Ar Tryz.prog 3 (some m) (.int .i64 id) (.agg ⟨[.int .i64 0,.int .i64 0,.int .i64 0]⟩) w2 K:=by
   intro K hh
   refine FQ (enc:=MI) h.wm.mp eqW id (WV id) (fun hl=>hh _ _ ⟨⟨0,0,0⟩,rfl,fun t ht=>by rw [hl] at ht;cases ht⟩ (by rw [hl];rfl)) (fun b hl=>hh _ _ ⟨b,rfl,fun t ht=>by rw [hl] at ht;cases ht;rfl⟩ (by rw [hl];rfl))
  refine key _ ?_
  rintro _ b11 ⟨t0,rfl,ht0⟩ hb11
  refine⟨t0.id,(t0.a:Int),t0.tn,rfl,Cc rfl rfl fun p w3 r3 e3 z3 f3=> ?_⟩
  have hw3:=h.wm.ext f3
  intro J18
  have h18t:jl l id=none/\most<=(l.length:Int)->∀W,Ext w2 W->J18 true W:=by
   intro hfull W hx
   rw [if_pos hfull] at eA
   simp only [J18,cond_true]
   rw [eA]
   exact⟨by trivial,hx _,ss,F,fun b hb=> .inl hb,h.ext hx⟩
  have h18f:¬(jl l id=none/\most<=(l.length:Int))->∀W,Ext w3 W->J18 false W:=by
   intro hroom W hx
   rw [if_neg hroom] at eA
   simp -zeta only [J18,cond_false]
   intro J21
   have h21:∀W1 ss1 F1,WM W1 d m ss1 l now tn most F1->WI now (Bz (jl l) id none) F1->fD w2 W1 (mF d m ss)->(∀b,mF d m ss1 b->mF d m ss b\/w2.heap.size<=b)->J21 W1:=by
    intro W1 ss1 F1 g1 g2 g3 g4
    have htn0:=h.t0
    simp only [J21,fA,fC,g1.acu]
    rw [wrap_i64 (n:=tn+1) (by omega) (by omega)]
    refine g1.ado (tn+1) fun w4 h4 f4 z4=> ?_
    have h4d:=h4.ext (Ext.drew w4)
    simp only [fA,fC,h4d.TG,h4d.acu]
    refine fK fun q w5 r5 e5 z5 f5=> ?_
    have h5:=h4d.ext f5
    simp only [sx,true_and,h5.TG,h5.acu]
    refine fP r5 rfl rfl fun w6 r6 f6 z6=> ?_
    have f6q:=f6 (·=q) rfl
    have hq:∀b,mF d m ss1 b->b≠q:=fun b hb=>by have:=h4d.lt hb;omega
    have h6:=(h5.fr f6q hq).ext (Ext.drew w6)
    have r6d:=r6.drew
    simp only [List.getElem?_cons_zero,List.getElem?_cons_succ,fA,fC,Ri,h6.SH,r6d.cell]
    have emax:(if (now:Int)>at_ then (now:Int) else at_)=((max at_.toNat now:Nat):Int):=by
     split<;>omega
    have hT:(Value.agg ⟨[.int .i64 id,.int .i64 (if (now:Int)>at_ then (now:Int) else at_),.int .i64 (tn+1)]⟩:Value)= .agg ⟨eT ⟨id,max at_.toNat now,tn+1⟩⟩:=by rw [emax]
    rw [hT]
    refine h6.aen ⟨id,max at_.toNat now,tn+1⟩ fun w7 h7 f7 z7=> ?_
    have hqm:m≠q:=hq m (.inr (.inl rfl))
    have r7:=r6d.fr f7 (fun e=>hqm e.symm)
    simp only [List.getElem?_cons_zero,List.getElem?_cons_succ,fA,fC,r7.cell]
    rw [emax]
    have hamax:max at_.toNat now<=2^40:=by omega
    have hsub0:∀id' t,Bz (jl l) id none id'=some t->jl l id'=some t:=fun id' t hu=>by
     unfold Bz at hu
     split at hu
     ·cases hu
     ·exact hu
    refine zi (XW h7 hnw ⟨id,max at_.toNat now,tn+1⟩ hamax fun n k hn hk=>by have:=WI.short g2 hsub0 hn hk;omega) ?_
    rintro w8 ⟨f8,n,ss8,hn,hln,h8,hs8⟩
    have hp:=g2.put (t:=⟨id,max at_.toNat now,tn+1⟩) (by unfold Bz;simp) (by simp only;omega) hamax hln
    have eP:Bz (Bz (jl l) id none) id (some ⟨id,max at_.toNat now,tn+1⟩)=jl (Ej l id ⟨id,max at_.toNat now,tn+1⟩):=by
     rw [acB l ⟨id,max at_.toNat now,tn+1⟩]
     funext id'
     unfold Bz
     split<;>rfl
    rw [eP] at hp
    have f18:fD W1 w8 (mF d m ss1):=((((((f4.mono (S':=mF d m ss1) fun b e=> .inl e).ext (Ext.drew w4)).ext f5).trans f6q fun b hb e=>by
      have h1z:=f4.size
      have h2z:w4.drew.heap.size=w4.heap.size:=rfl
      omega).ext (Ext.drew w6)).trans f7 fun b hb e=> .inr (.inl e)).trans f8 fun b _ hb=>hb
    have f28:fD w2 w8 (mF d m ss):=g3.trans f18 fun b hb hb2=>by
     rcases g4 b hb2 with e|e
     ·exact e
     ·omega
    have s7:w2.heap.size<=w7.heap.size:=by
     have a1:=g3.size
     have a2:=f4.size
     have a3:=f5.size
     have a4:=f6q.size
     have a5:=f7.size
     have a6:w4.drew.heap.size=w4.heap.size:=rfl
     have a7:w6.drew.heap.size=w6.heap.size:=rfl
     omega
    obtain⟨F8,h8,hp⟩:∃F8,WM w8 d m ss8 (Ej l id ⟨id,max at_.toNat now,tn+1⟩) now (tn+1) most F8/\WI now (jl (Ej l id ⟨id,max at_.toNat now,tn+1⟩)) F8:=⟨_,h8,hp⟩
    refine⟨eA.symm,f28,ss8,F8,fun b hb=> ?_,?_⟩
    ·rcases hs8 b hb with e|e
     ·exact g4 b e
     ·exact .inr (by omega)
    ·rw [eA,if_pos rfl,if_pos rfl]
     refine⟨h8,hp,⟨hm.1,?_⟩,fun id' u hu=> ?_,fun i1 i2 u1 u2 q1 q2 q3=> ?_,by omega⟩
     ·rw [acU]
      split
      ·rename_i hn
       have:¬most<=(l.length:Int):=fun e=>hroom ⟨hn,e⟩
       omega
      ·exact hm.2
     ·rw [Du] at hu
      split at hu
      ·cases hu;exact Int.le_refl _
      ·have:=h.tb id' u hu;omega
     ·rw [Du] at q1 q2
      split at q1
      ·rename_i e1
       split at q2
       ·rename_i e2;rw [e1,e2]
       ·cases q1
        have:=h.tb _ _ q2
        simp only at q3;omega
      ·split at q2
       ·cases q2
        have:=h.tb _ _ q1
        simp only at q3;omega
       ·exact h.ti _ _ _ _ q1 q2 q3
   clear_value J21
   have hW:=hw3.ext hx
   have rW:=r3.ext hx
   have xW:=f3.trans hx
   cases hlk:jl l id with
   |none=>
    rw [hlk] at hb11
    rw [hb11,Option.isSome_none,cond_false]
    refine h21 W ss F hW ?_ (xW _) fun b hb=> .inl hb
    have:Bz (jl l) id none=jl l:=by
     funext id'
     unfold Bz
     split
     ·rename_i e;rw [e,hlk]
     ·rfl
    rw [this];exact h.wi
   |some t=>
    rw [hlk] at hb11
    have:=ht0 t hlk
    subst this
    obtain⟨p1,p2,p3⟩:=h.wi.pl id t0 hlk
    rw [hb11,Option.isSome_some,cond_true]
    simp only [sx,rW.cell]
    refine yE (Vh hW hnw t0 p3) ?_
    rintro w4 ⟨f4,n,ss4,hn,hln,h4,hs4⟩
    have htk:=h.wi.take hlk hln
    rw [p1] at h4
    exact h21 w4 ss4 _ h4 htk ((xW _).trans f4 fun b _ e=>e) fun b hb=>by
     rcases hs4 b hb with e|e
     ·exact .inl e
     ·exact .inr (Nat.le_trans xW.size e)
  clear_value J18
  cases hlk:jl l id with
  |none=>
   rw [hlk] at hb11
   rw [hb11,Option.isSome_none,Bool.not_false,cond_true]
   have hw3d:=hw3.ext (Ext.drew w3)
   simp only [fA,fC,Ri,hw3d.SH,hw3d.aem]
   refine Pm hw3d.mp ⟨by trivial,?_⟩
   by_cases hful:(l.length:Int)>=most
   ·rw [decide_eq_true hful];exact h18t ⟨hlk,hful⟩ _ (f3.trans (Ext.drew w3))
   ·rw [decide_eq_false hful];exact h18f (fun e=>hful e.2) _ (Ext.drew w3)
  |some t=>
   rw [hlk] at hb11
   rw [hb11,Option.isSome_some,Bool.not_true,cond_false]
   exact h18f (fun e=>by rw [hlk] at e;cases e.1) _ (Ext.drew w3)
 clear_value J6
 by_cases c1:id<0
 ·rw [decide_eq_true c1,cond_true];exact h6t (.inl c1)
 ·rw [decide_eq_false c1,cond_false]
  by_cases c2:id>2147483648
  ·rw [decide_eq_true c2,cond_true];exact h6t (.inr (.inl c2))
  ·rw [decide_eq_false c2,cond_false]
   by_cases c3:at_<0
   ·rw [decide_eq_true c3,cond_true];exact h6t (.inr (.inr (.inl c3)))
   ·rw [decide_eq_false c3,cond_false]
    by_cases c4:at_>1099511627776
    ·rw [decide_eq_true c4];exact h6t (.inr (.inr (.inr c4)))
    ·rw [decide_eq_false c4];exact h6f (by omega)
end
end Go.Proofs.WN
end
section
namespace Go.Proofs.WN
open Gp Gp.Wh
set_option maxRecDepth 100000
def aaz:Go.Shelf.Ren:=⟨fun|6=>205|15=>123|14=>256|28=>229|29=>230|20=>268|21=>269|22=>270|23=>271|24=>272|25=>273|26=>274|27=>275|46=>277|47=>261|48=>262|49=>278|50=>279|57=>280|n=>n,fun|22=>211|24=>237|25=>313|3=>3|39=>250|0=>0|53=>337|55=>339|4=>4|46=>331|45=>330|50=>218|5=>5|9=>9|66=>359|70=>363|76=>371|77=>372|n=>n,fun|n=>n⟩
theorem aep:SlLaysF0.n6 Tryz.prog aaz:={
 mixed:=by kernel_rfl,
 f6:=⟨Tryz.f205.name,by decide,Tryz.func205.trans (congrArg some (by kernel_rfl))⟩,
 f14:=⟨Tryz.f256.name,by decide,Tryz.func256.trans (congrArg some (by kernel_rfl))⟩,
 f15:=Tryz.func123.trans (congrArg some (by kernel_rfl)),
 f20:=⟨Tryz.f268.name,by decide,Tryz.func268.trans (congrArg some (by kernel_rfl))⟩,
 f21:=⟨Tryz.f269.name,by decide,Tryz.func269.trans (congrArg some (by kernel_rfl))⟩,
 f22:=⟨Tryz.f270.name,by decide,Tryz.func270.trans (congrArg some (by kernel_rfl))⟩,
 f23:=⟨Tryz.f271.name,by decide,Tryz.func271.trans (congrArg some (by kernel_rfl))⟩,
 f24:=⟨Tryz.f272.name,by decide,Tryz.func272.trans (congrArg some (by kernel_rfl))⟩,
 f25:=⟨Tryz.f273.name,by decide,Tryz.func273.trans (congrArg some (by kernel_rfl))⟩,
 f26:=⟨Tryz.f274.name,by decide,Tryz.func274.trans (congrArg some (by kernel_rfl))⟩,
 f27:=⟨Tryz.f275.name,by decide,Tryz.func275.trans (congrArg some (by kernel_rfl))⟩,
 f28:=Tryz.func229.trans (congrArg some (by kernel_rfl)),
 f29:=Tryz.func230.trans (congrArg some (by kernel_rfl)),
 f46:=⟨Tryz.f277.name,by decide,Tryz.func277.trans (congrArg some (by kernel_rfl))⟩,
 f47:=Tryz.func261.trans (congrArg some (by kernel_rfl)),
 f48:=Tryz.func262.trans (congrArg some (by kernel_rfl)),
 f49:=⟨Tryz.f278.name,by decide,Tryz.func278.trans (congrArg some (by kernel_rfl))⟩,
 f50:=⟨Tryz.f279.name,by decide,Tryz.func279.trans (congrArg some (by kernel_rfl))⟩,
 f57:=⟨Tryz.f280.name,by decide,Tryz.func280.trans (congrArg some (by kernel_rfl))⟩,
 t0:=Tryz.underlying0,
 a0:=Tryz.isAgg0,
 z0:=Tryz.sizeOf0,
 v0:=Tryz.zeroValue0,
 t3:=Tryz.underlying3,
 a3:=Tryz.isAgg3,
 z3:=Tryz.sizeOf3,
 v3:=Tryz.zeroValue3,
 t4:=Tryz.underlying4,
 a4:=Tryz.isAgg4,
 z4:=Tryz.sizeOf4,
 v4:=Tryz.zeroValue4,
 t5:=Tryz.underlying5,
 a5:=Tryz.isAgg5,
 z5:=Tryz.sizeOf5,
 v5:=Tryz.zeroValue5,
 t9:=Tryz.underlying9,
 a9:=Tryz.isAgg9,
 z9:=Tryz.sizeOf9,
 v9:=Tryz.zeroValue9,
 t22:=Tryz.underlying211,
 a22:=Tryz.isAgg211,
 z22:=Tryz.sizeOf211,
 v22:=Tryz.zeroValue211,
 t25:=Tryz.underlying313,
 a25:=Tryz.isAgg313,
 z25:=Tryz.sizeOf313,
 v25:=Tryz.zeroValue313,
 t39:=Tryz.underlying250,
 a39:=Tryz.isAgg250,
 z39:=Tryz.sizeOf250,
 v39:=Tryz.zeroValue250,
 t45:=Tryz.underlying330,
 a45:=Tryz.isAgg330,
 z45:=Tryz.sizeOf330,
 v45:=Tryz.zeroValue330,
 t46:=Tryz.underlying331,
 a46:=Tryz.isAgg331,
 z46:=Tryz.sizeOf331,
 v46:=Tryz.zeroValue331,
 t50:=Tryz.underlying218,
 a50:=Tryz.isAgg218,
 z50:=Tryz.sizeOf218,
 v50:=Tryz.zeroValue218,
 t53:=Tryz.underlying337,
 a53:=Tryz.isAgg337,
 z53:=Tryz.sizeOf337,
 v53:=Tryz.zeroValue337,
 t55:=Tryz.underlying339,
 a55:=Tryz.isAgg339,
 z55:=Tryz.sizeOf339,
 v55:=Tryz.zeroValue339,
 t66:=Tryz.underlying359,
 a66:=Tryz.isAgg359,
 z66:=Tryz.sizeOf359,
 v66:=Tryz.zeroValue359,
 t70:=Tryz.underlying363,
 a70:=Tryz.isAgg363,
 z70:=Tryz.sizeOf363,
 v70:=Tryz.zeroValue363,
 t76:=Tryz.underlying371,
 a76:=Tryz.isAgg371,
 z76:=Tryz.sizeOf371,
 v76:=Tryz.zeroValue371,
 t77:=Tryz.underlying372,
 a77:=Tryz.isAgg372,
 z77:=Tryz.sizeOf372,
 v77:=Tryz.zeroValue372}
namespace Srt
open Go.Shelf Go.RowKit Go.Lib Go.Sort
instance :Inhabited Tm:=⟨⟨0,0,0⟩⟩
theorem abG (t:Tm):∀v∈eT t,v.oneCell'=true:=by
 intro v hv
 simp only [eT,List.mem_cons,List.not_mem_nil,or_false] at hv
 rcases hv with rfl|rfl|rfl<;>rfl
def cfT (x y:Tm):Int:=RI x.tn y.tn
theorem ab3 (x y:Tm):ltOf cfT x y=decide (x.tn<y.tn):=by
 unfold ltOf cfT RI
 by_cases h1:x.tn<y.tn
 ·simp [h1]
 ·by_cases h2:x.tn>y.tn<;>simp [h1,h2]
theorem swo:SWO (ltOf cfT) where
 irrefl x:=by rw [ab3];simp
 trans x y z h1 h2:=by rw [ab3] at *;simp at *;omega
 ntrans x y z h1 h2:=by rw [ab3] at *;simp at *;omega
theorem closure (x y:Tm) (W:World):r_ x.id x.a x.tn y.id y.a y.tn W fun r W'=>r=cfT x y/\∃q os',W'=grow (W.drewN q) os':=by
 apply Ey
 unfold Al
 have r1:Row (W.alloc (.cells ⟨eT x⟩ 237)) W.heap.size (eT x):=Row.new W (eT x) 237
 have x2:Ext (W.alloc (.cells ⟨eT x⟩ 237)) ((W.alloc (.cells ⟨eT x⟩ 237)).alloc (.cells ⟨eT y⟩ 237)):=fun S=>fD.alloc _ _ S
 have r2:=r1.ext x2
 have r3:Row ((W.alloc (.cells ⟨eT x⟩ 237)).alloc (.cells ⟨eT y⟩ 237)) (W.alloc (.cells ⟨eT x⟩ 237)).heap.size (eT y):=Row.new _ (eT y) 237
 have c1:((W.alloc (.cells ⟨[.int .i64 x.id,.int .i64 (x.a:Int),.int .i64 x.tn]⟩ 237)).alloc (.cells ⟨[.int .i64 y.id,.int .i64 (y.a:Int),.int .i64 y.tn]⟩ 237)).cell? ⟨W.heap.size,2,none⟩=some (.int .i64 x.tn):=by
  have:=r2.cell 2
  exact this
 have c2:((W.alloc (.cells ⟨[.int .i64 x.id,.int .i64 (x.a:Int),.int .i64 x.tn]⟩ 237)).alloc (.cells ⟨[.int .i64 y.id,.int .i64 (y.a:Int),.int .i64 y.tn]⟩ 237)).cell? ⟨(W.alloc (.cells ⟨[.int .i64 x.id,.int .i64 (x.a:Int),.int .i64 x.tn]⟩ 237)).heap.size,2,none⟩=some (.int .i64 y.tn):=by
  have:=r3.cell 2
  exact this
 simp only [sx,c1,c2]
 refine zq (OO _ _ _) ?_
 rintro r W3 ⟨rfl,hw⟩
 subst hw
 exact⟨rfl,0,_,by rw [alloc_eq_grow,alloc_eq_grow,grow_grow];rfl⟩
theorem lays (blk off size:Nat) (w:World):CmpLays Tryz.prog nK #[] eT 3 cfT blk off size w:=by
 intro m os dk _ x y
 have h:=closure x y (sortWorldK eT 3 w blk off m dk os)
 unfold r_ at h
 have e:(#[.agg (eT x).toArray,.agg (eT y).toArray]++ #[]:Array Value)=⟨[.agg ⟨eT x⟩,.agg ⟨eT y⟩]⟩:=by simp
 rw [e]
 refine Calls.mono h ?_
 rintro e W' ⟨r,he,rfl,hq⟩
 exact⟨he,hq⟩
theorem QG (d:Array Tm) {j:Nat} (hj:j<d.size * 3):(flatK eT 3 d)[j]! =(d.toList.flatMap eT)[j]?.getD default:=by
 rw [get_flatK eT 3 d j hj]
 have hlt:j / 3<d.size:=by omega
 have e:=flat_get eT 3 kS d.toList (j / 3) (j % 3) (Nat.mod_lt _ (by omega))
 rw [show j / 3 * 3+j % 3=j by omega] at e
 rw [e,Array.getElem?_toList,Array.getElem?_eq_getElem hlt,getElem!_pos d _ hlt,Option.bind_some]
 rw [List.getElem!_eq_getElem?_getD]
theorem KC {l:List Tm} {j:Nat} (hj:j<l.length * 3):(l.flatMap eT)[j]? =some ((l.flatMap eT)[j]?.getD default):=by
 have hl:=iH eT 3 kS l
 rw [List.getElem?_eq_getElem (by omega)];rfl
theorem holds {w:World} {b:Nat} {xs:List Tm} {pad:List Value} (hr:Row w b (xs.flatMap eT++pad)):HoldsK eT 3 w b 0 xs.toArray:=by
 intro j hj
 rw [size_flatK] at hj
 have hl:=iH eT 3 kS xs
 simp only [List.size_toArray] at hj
 refine⟨?_,hr.frozen _⟩
 rw [Nat.zero_add,hr.cell,List.getElem?_append_left (by omega),QG _ (by simpa using hj),List.toList_toArray]
 exact KC hj
theorem row_of {w:World} {b n:Nat} {xs:List Tm} {pad:List Value} {d':Array Tm} {os:Array Obj} (hr:Row w b (xs.flatMap eT++pad)) (hd:d'.size=xs.length):
  Row (sortWorldK eT 3 w b 0 n d' os) b (d'.toList.flatMap eT++pad)/\fD w (sortWorldK eT 3 w b 0 n d' os) (·=b):=by
 obtain⟨T,ht⟩:=hr
 have hb:b<w.heap.size:=(Array.getElem?_eq_some_iff.1 ht).1
 have hl:=iH eT 3 kS xs
 have hl':(d'.toList.flatMap eT).length=d'.size * 3:=by rw [iH eT 3 kS,Array.length_toList]
 have hh:(sortWorldK eT 3 w b 0 n d' os).heap=w.heap.modify b (onCells (putCells id 0 (flatK eT 3 d')))++os:=rfl
 constructor
 ·refine⟨T,?_⟩
  rw [hh,Array.getElem?_append_left (by simpa using hb),Array.getElem?_modify,if_pos rfl,ht]
  have:putCells id 0 (flatK eT 3 d') ⟨xs.flatMap eT++pad⟩=⟨d'.toList.flatMap eT++pad⟩:=by
   apply Array.ext_getElem?
   intro k
   unfold putCells
   rw [Array.getElem?_mapIdx]
   simp only [size_flatK,Nat.zero_le,true_and,Nat.zero_add,Nat.sub_zero,id_eq,List.getElem?_toArray]
   by_cases hk:k<d'.size * 3
   ·rw [List.getElem?_append_left (by omega),List.getElem?_append_left (by omega),KC (l:=xs) (by omega),Option.map_some,if_pos hk,QG _ hk]
    exact(KC (by rw [Array.length_toList];exact hk)).symm
   ·rw [List.getElem?_append_right (by omega),List.getElem?_append_right (by omega),hl,hl',hd]
    cases pad[k - xs.length * 3]? with
    |none=>rfl
    |some v=>rw [Option.map_some,if_neg (by rw [<- hd];exact hk)]
  simp only [Option.map_some,onCells,this]
 ·refine⟨?_,fun c hc hcb=> ?_,⟨rfl,rfl,rfl⟩⟩
  ·rw [hh];simp
  ·rw [hh,Array.getElem?_append_left (by simpa using hc),Array.getElem?_modify,if_neg (fun e=>hcb e.symm)]
end Srt
theorem abJ (w:World):kP (IntKind.u64.wrap ((0:Nat):Int)) w fun r w'=>r=0/\w'=w:=by
 apply La
 have h:ng (IntKind.u64.wrap ((0:Nat):Int)) w fun r w'=>r=0/\w'=w:=by
  apply Io
  rw [show IntKind.u64.wrap ((0:Nat):Int)=0 from rfl]
  simp only [show decide ((0:Int)>=4294967296)=false from rfl,show decide ((0:Int)>=65536)=false from rfl,show decide ((0:Int)>=256)=false from rfl,cond_false,show IntKind.u8.wrap 0=0 from rfl]
  exact⟨0,by decide,rfl,rfl,by trivial⟩
 refine Ik h ?_
 rintro r w' ⟨rfl,hw⟩
 exact⟨rfl,hw⟩
theorem acN (s:b_) (lim:Int) (v:Value) (w:World):fV s 0 ((0:Nat):Int) lim v w fun w'=>w'=w:=by
 apply tq
 refine fE (fun st W=>W=w/\st.1=0/\st.2.1=0) (fun _ _=>0) ⟨rfl,rfl,rfl⟩ ?_
 rintro⟨a,b,c,d,e,⟨⟩⟩ W ⟨rfl,ha,hb⟩ next hnext
 simp only at ha hb
 subst ha hb
 have:decide ((IntKind.i64.wrap ((0:Int) - 0))<=12)=true:=rfl
 rw [this,cond_true]
 have h:gy s 0 0 v W fun w'=>w'=W:=by
  apply oO
  refine fE (fun st W'=>W'=W/\st.1=1) (fun _ _=>0) ⟨rfl,rfl⟩ ?_
  rintro⟨a,⟨⟩⟩ W' ⟨rfl,ha⟩ next' hnext'
  simp only at ha
  subst ha
  have:decide ((1:Int)<0)=false:=rfl
  rw [this,cond_false]
 refine oU h ?_
 rintro w' hw
 exact hw
open Srt in
theorem Z9 {w:World} {s:b_} {xs:List Tm} (hs:iI 3 eT w s xs) (hl:xs.length<=2^30):
  fQ s (Value.func (.func nK) #[] #[]) w fun w'=>fD w w' (b_.at s)/\∃ys:List Tm,ys.Perm xs/\ys.Pairwise (fun x y=>¬y.tn<x.tn)/\iI 3 eT w' s ys:=by
 by_cases hne:s.a=none
 ·have hx:xs=[]:=by
   rcases hs.mem with ⟨_,h,_⟩|⟨b,pad,h,_⟩
   ·exact h
   ·rw [hne] at h;cases h
  subst hx
  have hlen:s.len=0:=hs.len
  apply oQ
  rw [hlen]
  refine BX (abJ w) ?_
  rintro r w' ⟨rfl,hw⟩
  subst hw
  refine sU (acN s _ _ _) ?_
  rintro w' hw
  subst hw
  exact⟨fD.refl _ _,[],List.Perm.refl _,List.Pairwise.nil,hs⟩
 obtain⟨b,pad,ha,hc,hr⟩:∃b pad,s.a=some ⟨b,0,none⟩/\s.cap * 3=xs.length * 3+pad.length/\Row w b (xs.flatMap eT++pad):=by
  rcases hs.mem with ⟨h,_,_⟩|h
  ·exact absurd h hne
  ·exact h
 have hlen:=hs.len
 have eg:∀args w,(callFunc 206 args).run Tryz.prog w= .ok (.enter 206 args) w:=enters_of Tryz.func206 (by kernel_rfl) rfl
 have hcon:=AnyQ.slices_SortFunc aep 3 Tryz.isAgg237 Tryz.sizeOf237 eT kS abG cfT swo 206 #[] b 0 s.cap xs.toArray w eg (lays b 0 xs.toArray.size w) (holds hr) hr.lt (by rw [List.size_toArray];omega)
 unfold fQ
 rw [ha,hlen]
 change Calls Tryz.prog 205 #[.slice (some ⟨b,0,none⟩) xs.length s.cap,.func (.func nK) #[] #[]] w _
 refine Calls.mono (show Calls Tryz.prog 205 #[.slice (some ⟨b,0,none⟩) xs.toArray.size s.cap,.func (.func nK) #[] #[]] w _ from hcon) ?_
 rintro e w' ⟨rfl,d',n,os,⟨hp1,_,hp3⟩,hso,rfl⟩
 have hsz:xs.toArray.size=xs.length:=by simp
 have hp1:d'.size=xs.length:=hp1.trans hsz
 rw [hsz] at hp3
 have hdl:d'.toList.length=xs.length:=hp1
 obtain⟨g1,g2⟩:=row_of (n:=n) (os:=os) hr hp1
 have e1:(d'.extract 0 xs.length).toList=d'.toList:=by rw [<- hp1];simp
 have e2:(xs.toArray.extract 0 xs.length).toList=xs:=by simp
 rw [e1,e2] at hp3
 refine⟨rfl,g2.mono fun c hcb=>⟨0,by rw [ha,hcb]⟩,d'.toList,hp3,?_,⟨?_,.inr ⟨b,pad,ha,?_,g1⟩⟩⟩
 ·rw [List.pairwise_iff_getElem]
  intro i j hi hj hij
  rw [Array.length_toList] at hi hj
  have:=hso i j (Nat.zero_le _) hij (by rw [List.size_toArray];omega)
  rw [getElem!_pos d' j hj,getElem!_pos d' i hi,ab3] at this
  simpa using this
 ·rw [hlen];exact hdl.symm
 ·rw [hc,hdl]
end Go.Proofs.WN
end
