import Derived.Test.YtlpphhjbjjdhfaaGreatDoorW6
import Derived.Test.YtlpphhjbjjdhfaaGreatDoorW3
import Derived.Test.YtlpphhjbjjdhfaaGreatDoorW2
set_option maxRecDepth 100000
section
namespace Go.Proofs.SN
open Gp Gp.Hash
open Gp.Ses (Ses Slots live GoodS freeN getS ids)
open Gp.Bind (In64)
def iM:Option Ses->List Value
 |none=>am4
 |some b=>[Β b.bd,Β b.st,Β b.un,Β b.ra,Β b.rp,.bool true]
theorem kZ (o:Option Ses):(iM o).length=6:=by cases o<;>rfl
theorem Qo (o:Option Ses):(iM o).all iI=true:=by cases o<;>rfl
theorem Cc (o:Option Ses):(iM o)[5]? =some (.bool o.isSome):=by cases o<;>rfl
def encI (k:Int):Value:= Β k
def slV (s:fU):Value:= Δ s
abbrev OL:=List (Int×fU)
theorem eqI (a b:Int):EZ υ 16 3 (encI a) (encI b)=some (decide (a=b)):=by
 have h:EZ υ 16 3 (Β a) (Β b)=some (a==b):=by kernel_rfl
 rw[encI,encI,h];congr 1
theorem ajn (a:Int):nX υ 3 (encI a)=true:=by
 have h:nX υ 3 (Β a)=true:=by kernel_rfl
 exact h
def ownB (l:OL) (b:Nat):Prop:=∃k s,lC l k=some s/\fU.at s b
structure E_ (w:θ) (m:Nat) (l:OL) (S:Slots):Prop where
 mp:qX encI slV w m l
 nd:(l.map (·.1)).Nodup
 has:∀k s,lC l k=some s->iQ 1 eI w s (ids S k)
 non:∀k,lC l k=none->ids S k=[]
 ap:∀k k' s s' b,k≠k'->lC l k=some s->lC l k'=some s'->fU.at s b->¬fU.at s' b
 ne:∀b,ownB l b->b≠m
section
variable {w w':θ} {m:Nat} {l:OL} {S S':Slots}
theorem E_.fr {F:Nat->Prop} (h:E_ w m l S) (hf:gV w w' F) (hm:¬F m) (ho:∀b,ownB l b->¬F b):E_ w' m l S:=
 ⟨h.mp.fr hf hm,h.nd,λk s hk=>(h.has k s hk).fr hf λb hb=>ho b ⟨k,s,hk,hb⟩,h.non,h.ap,h.ne⟩
theorem E_.lt (h:E_ w m l S) {b:Nat} (hb:ownB l b):b<w.heap.size:=by
 obtain⟨k,s,hk,hs⟩:=hb;exact(h.has k s hk).lt hs
def lkS (l:OL) (k:Int):fU:=(lC l k).getD ⟨none,0,0⟩
theorem PS {k:Int} {b:Nat} (h:fU.at (lkS l k) b):∃s,lC l k=some s/\lkS l k=s/\fU.at s b:=by
 unfold lkS at h ⊢
 cases hl:lC l k with
 |none=>rw[hl] at h;obtain⟨o,ho⟩:=h;cases ho
 |some s=>simp_all
theorem E_.buf (h:E_ w m l S) (k:Int):iQ 1 eI w (lkS l k) (ids S k):=by
 unfold lkS
 cases hl:lC l k with
 |none=>rw[h.non k hl];exact iQ.nil
 |some s=>exact h.has k s hl
theorem E_.get (h:E_ w m l S) (k:Int) {K:fU->Prop} (hK:K (lkS l k)):pY υ 3 .slice (some m) (Β k) (.slice none 0 0) w K:=by
 refine Eu h.mp eqI k (ajn k) ?_ ?_
 ·intro hl;rw[lkS,hl] at hK;rw[gK];exact hK
 ·intro s hl;rw[lkS,hl] at hK;rw[slV,gK];exact hK
theorem E_.set (h:E_ w m l S) {bd:Int} {s':fU} {F:Nat->Prop} (hf:gV w w' F) (hm:¬F m) (ho:∀b,ownB l b->F b->fU.at (lkS l bd) b) (hb:iQ 1 eI w' s' (ids S' bd)) (hn:∀b,fU.at s' b->fU.at (lkS l bd) b\/w.heap.size<=b)
  (hS:∀k,k≠bd->ids S' k=ids S k) {K:b_} (hK:∀w2,E_ w2 m (Cm l bd s') S'->gV w' w2 (·=m)->w2.heap.size=w'.heap.size->K w2):oK υ 3 (some m) (Β bd) (.slice s'.a s'.len s'.cap) w' K:=by
 have mlt:=h.mp.lt;have old:∀b,fU.at (lkS l bd) b->ownB l b:=λb hb=>by
  obtain⟨s,h1,_,h2⟩:=PS hb;exact⟨bd,s,h1,h2⟩
 have nm:∀b,fU.at s' b->b≠m:=λb hb e=>by
  rcases hn b hb with h1|h1
  ·exact h.ne b (old b h1) e
  ·omega
 have ap:∀k s b,k≠bd->lC l k=some s->fU.at s b->¬fU.at s' b:=λk s b hk hl hs hb=>by
  rcases hn b hb with h1|h1
  ·obtain⟨s2,g1,_,g2⟩:=PS h1;exact h.ap k bd s s2 b hk hl g1 hs g2
  ·have:=h.lt ⟨k,s,hl,hs⟩;omega
 refine yX (h.mp.fr hf hm) eqI bd s' (ajn bd) λw2 g2 f2 z2=> ?_;refine hK w2 ⟨g2,O1 h.nd bd s',λk s hk=> ?_,λk hk=> ?_,λk k' s s2 b u h1 h2 h3=> ?_,λb hb=> ?_⟩ f2 z2
 ·rw[BR] at hk;split at hk
  ·rename_i e;subst e;cases hk;exact hb.fr f2 nm
  ·rename_i e;rw[hS k e];refine((h.has k s hk).fr hf λb hb hF=> ?_).fr f2 λb hb=>h.ne b ⟨k,s,hk,hb⟩;obtain⟨s2,g1,_,g2⟩:=PS (ho b ⟨k,s,hk,hb⟩ hF);exact h.ap k bd s s2 b e hk g1 hb g2
 ·rw[BR] at hk;split at hk
  ·cases hk
  ·rename_i e;rw[hS k e];exact h.non k hk
 ·rw[BR] at h1 h2;split at h1
  ·grind
  ·rename_i e1;split at h2
   ·grind
   ·exact h.ap k k' s s2 b u h1 h2 h3
 ·obtain⟨k,s,hk,hs⟩:=hb;rw[BR] at hk;split at hk
  ·simp_all
  ·exact h.ne b ⟨k,s,hk,hs⟩
theorem Sz {bd:Int} {s':fU} {b:Nat} (hb:ownB (Cm l bd s') b):fU.at s' b\/ownB l b:=by
 obtain⟨k,s,hk,hs⟩:=hb;rw[BR] at hk;split at hk
 ·simp_all
 ·exact .inr ⟨k,s,hk,hs⟩
theorem E_.del (h:E_ w m l S) {bd:Int} (hS:ids S bd=[]) {K:b_} (hK:∀w2,E_ w2 m (BJ l bd) S->gV w w2 (·=m)->w2.heap.size=w.heap.size->K w2):E5 υ 3 (some m) (Β bd) w K:=by
 refine S9 h.mp eqI bd (ajn bd) λw2 g2 f2 z2=> ?_;have lk:=λk=>MR h.nd bd k;refine hK w2 ⟨g2,h.nd.sublist ((RY l bd).map _),λk s hk=> ?_,λk hk=> ?_,λk k' s s2 b u h1 h2 h3=> ?_,λb hb=> ?_⟩ f2 z2
 ·rw[lk] at hk;split at hk
  ·cases hk
  ·exact(h.has k s hk).fr f2 λb hb=>h.ne b ⟨k,s,hk,hb⟩
 ·rw[lk] at hk;split at hk
  ·simp_all
  ·exact h.non k hk
 ·rw[lk] at h1 h2;split at h1
  ·cases h1
  ·split at h2
   ·cases h2
   ·exact h.ap k k' s s2 b u h1 h2 h3
 ·obtain⟨k,s,hk,hs⟩:=hb;rw[lk] at hk;split at hk
  ·cases hk
  ·exact h.ne b ⟨k,s,hk,hs⟩
theorem agj (h:(l.map (·.1)).Nodup) {bd:Int} {b:Nat} (hb:ownB (BJ l bd) b):ownB l b:=by
 obtain⟨k,s,hk,hs⟩:=hb;rw[MR h] at hk;split at hk
 ·cases hk
 ·exact⟨k,s,hk,hs⟩
end
structure QS where
 d:Nat
 sl:Nat
 ti:Nat
 si:Nat
 m:Nat
 l:OL
def fp (A:QS) (b:Nat):Prop:=b=A.d\/b=A.sl\/b=A.ti\/b=A.si\/b=A.m\/ownB A.l b
structure QS.ne (A:QS):Prop where
 p:A.d≠A.sl/\A.d≠A.ti/\A.d≠A.si/\A.d≠A.m/\A.sl≠A.ti/\A.sl≠A.si/\A.sl≠A.m/\A.ti≠A.m/\A.si≠A.m
 o:∀b,ownB A.l b->b≠A.d/\b≠A.sl/\b≠A.ti/\b≠A.si
structure TA (w:θ) (A:QS) (most:Nat) (S:Slots) (M:ByteArray->Option Int):Prop where
 hd:Row w A.d [.slice (some ⟨A.sl,0,none⟩) most most,.pointer (some ⟨A.ti,0,none⟩),.map (some A.m),Β ((live 0 S).length:Int)]
 row:Row w A.sl (S.flatMap iM)
 len:S.length=most
 mx:most<=4096
 tb:∃L,TB w A.ti A.si L most M/\cnt L=(live 0 S).length
 own:E_ w A.m A.l S
 good:GoodS S M
 ne:A.ne
section
variable {w w':θ} {A:QS} {most:Nat} {S:Slots} {M:ByteArray->Option Int}
theorem TA.fr {F:Nat->Prop} (h:TA w A most S M) (hf:gV w w' F) (hs:∀b,fp A b->¬F b):TA w' A most S M:=by
 obtain⟨L,h1,h2⟩:=h.tb;exact⟨h.hd.fr hf (hs _ (.inl rfl)),h.row.fr hf (hs _ (.inr (.inl rfl))),h.len,h.mx,⟨L,h1.fr hf (hs _ (.inr (.inr (.inl rfl)))) (hs _ (.inr (.inr (.inr (.inl rfl))))),h2⟩,
  h.own.fr hf (hs _ (.inr (.inr (.inr (.inr (.inl rfl)))))) (λb hb=>hs _ (.inr (.inr (.inr (.inr (.inr hb)))))),h.good,h.ne⟩
theorem TA.ext (h:TA w A most S M) (hf:Ext w w'):TA w' A most S M:=h.fr (hf λ_=>False) (λ_ _=>by simp)
theorem aiH {b s:Nat} {L:List uQ} {mo:Int} (t:TB w b s L mo M):s<w.heap.size:=by
 by_cases hL:L=[]
 ·rw[t.nils hL];exact t.ht.hd.lt
 ·exact(t.ht.row hL).lt
theorem TA.lt (h:TA w A most S M) {x:Nat} (hx:fp A x):x<w.heap.size:=by
 obtain⟨L,h1,h2⟩:=h.tb;rcases hx with rfl|rfl|rfl|rfl|rfl|hx
 ·exact h.hd.lt
 ·exact h.row.lt
 ·exact h1.ht.hd.lt
 ·exact aiH h1
 ·exact h.own.mp.lt
 ·exact h.own.lt hx
theorem TA.slot (h:TA w A most S M) {i:Nat} {o:Option Ses} (hi:S[i]? =some o) (j:Nat) (hj:j<6):w.cell? ⟨A.sl,i * 6+j,none⟩=(iM o)[j]? :=by
 rw[h.row.cell,flat_get iM 6 kZ _ _ j hj,hi];rfl
theorem yu (h:TA w A most S M):jh (some ⟨A.d,0,none⟩) w λr w'=>r=true/\w'=w:=by
 apply Gx;simp only[sx,h.hd.cell,afa];trivial
theorem aaC (h:TA w A most S M) (bd ra rp:Int) (hq:∀n∈[bd,ra,rp],In64 n):
  oD (some ⟨A.d,0,none⟩) bd ra rp w λn t w'=>t=(M (Bind.keyS [bd,ra,rp])).isSome/\n=(M (Bind.keyS [bd,ra,rp])).getD 0/\Ext w w':=by
 apply Hq;refine gy λp w1 r1 _ _ f1=> ?_;refine cmS0 (yu (h.ext f1)) ?_;rintro _ w2 ⟨rfl,hw⟩;subst hw;have h2:=(h.ext f1).ext (Ext.drew _);simp only[sx,adp,h2.hd.cell,r1.drew.cell];refine cmS9 (ZG bd ra rp hq _) ?_;rintro _ w3 ⟨rfl,f3⟩;have h3:=h2.ext f3;simp only[afu,d_,h3.hd.cell];obtain⟨L,hL,_⟩:=h3.tb;refine cmS3 (YI hL _ (qV _ (by simp))) ?_;rintro n t w4 ⟨f4,rfl,rfl⟩;exact⟨rfl,rfl,((f1.trans (Ext.drew _)).trans f3).trans f4⟩
theorem aib (h:TA w A most S M):uH (some ⟨A.d,0,none⟩) w λn w'=>n=((live 0 S).length:Int)/\w'=w:=by
 apply Jk;refine cmS0 (yu h) ?_;rintro _ w2 ⟨rfl,hw⟩;subst hw;simp only[sx,adp,h.hd.cell];trivial
theorem vT:∀{S:Slots} {i:Nat},freeN S=some i↔S[i]? =some none/\∀j,j<i->∃b,S[j]? =some (some b)
 |[],i=>by simp[freeN]
 |none::r,i=>by
  simp only[freeN,agP];constructor
  ·grind
  ·rintro⟨_,h2⟩
   cases i with
   |zero=>rfl
   |succ i=>obtain⟨b,hb⟩:=h2 0 (by omega);simp at hb
 |some c::r,i=>by
  simp only[freeN,alK];constructor
  ·rintro⟨k,hk,rfl⟩;obtain⟨h1,h2⟩:=vT.1 hk;refine⟨by trivial,λj hj=> ?_⟩
   cases j with
   |zero=>simp
   |succ j=>simp_all
  ·rintro⟨h1,h2⟩
   cases i with
   |zero=>simp at h1
   |succ i=>exact⟨i,vT.2 ⟨by trivial,λj hj=>by grind⟩,rfl⟩
theorem Ez:∀{S:Slots},(∀j,j<S.length->∃b,S[j]? =some (some b))->freeN S=none
 |[],_=>rfl
 |none::r,h=>by obtain⟨b,hb⟩:=h 0 (by simp);simp at hb
 |some c::r,h=>by
  simp only[freeN,Option.map_eq_none_iff];exact Ez λj hj=>by simpa using h (j+1) (by simp;omega)
theorem j_ {f:FuncId} {cap:Array Value} {sh:List Shape} {args:List Value} {w:θ} {K:Value->b_} (hb:oI υ f=true) (h:Hz υ sh f (args++cap.toList) w K):
  jy υ sh (.func (.func f) #[] cap) args w K:=by
 unfold jy;simp only[hb,aaU];exact h
theorem X_ (o:Option Ses) (W:θ) {v0 v1 v2 v3 v4:Int} {v5:Bool} (hv:iM o=[Β v0,Β v1,Β v2,Β v3,Β v4,.bool v5]):xA v0 v1 v2 v3 v4 v5 W λr W'=>r= !o.isSome/\Ext W W':=by
 apply Gv;refine gy λa w1 r1 e1 z1 f1=> ?_;simp only[sx,r1.cell];have:=Cc o
 grind
theorem afT (h:TA w A most S M):jl ⟨some ⟨A.sl,0,none⟩,most,most⟩ (Value.func (.func G_) #[] #[]) w λr w'=>Ext w w'/\((freeN S=none/\r= -1)\/∃i,freeN S=some i/\r=(i:Int)):=by
 apply oO;have hm:=h.mx;have hl:=h.len;refine gI (λst W=>Ext w W/\∃i:Nat,i<=most/\st.1=(i:Int)/\∀j,j<i->∃b,S[j]? =some (some b)) (λst _=>most - st.1.toNat) ⟨Ext.refl _,0,by omega,rfl,by omega⟩ ?_;rintro⟨x,⟨⟩⟩ W ⟨hx,i,hi,rfl,hp⟩ next I
 have h1:=h.ext hx;by_cases hlt:i<most
 ·have u:((i:Int)<(most:Int)):=by omega
  have hS:S[i]? =some S[i]:=ade (by omega);generalize S[i]=o at hS;have c:=h1.slot hS;have c0:=c 0 (by omega);have c1:=c 1 (by omega);have c2:=c 2 (by omega);have c3:=c 3 (by omega);have c4:=c 4 (by omega);have c5:=c 5 (by omega);simp only[aki] at c0;have step:∀W',Ext W W'->(∃b,o=some b)->next (ο.wrap ((i:Int)+1),()) W':=by
   rintro W' hx' ⟨b,rfl⟩;rw[Α];refine I _ _ ⟨hx.trans hx',i+1,by omega,by simp,λj hj=> ?_⟩ (by omega);by_cases hji:j<i
   ·simp_all
   grind
  cases o with
  |none=>
   simp only[iM,d_] at c0 c1 c2 c3 c4 c5;simp only[sx,u,ace,ab3,c0,c1,c2,c3,c4,c5];refine⟨by omega,by trivial,j_ (by kernel_rfl) ?_⟩;refine Calls.mono (X_ none W rfl) ?_;rintro e W' ⟨r,he,rfl,hf⟩;refine⟨_,he,_,rfl,?_⟩;simp only[ald,afa,aaU];exact⟨hx.trans hf,.inr ⟨i,vT.2 ⟨hS,hp⟩,rfl⟩⟩
  |some b=>
   simp only[iM,d_] at c0 c1 c2 c3 c4 c5;simp only[sx,u,ace,ab3,c0,c1,c2,c3,c4,c5];refine⟨by omega,by trivial,j_ (by kernel_rfl) ?_⟩;refine Calls.mono (X_ (some b) W rfl) ?_;rintro e W' ⟨r,he,rfl,hf⟩;refine⟨_,he,_,rfl,?_⟩;simp only[ajX,adp,aaT];exact step W' hf ⟨b,rfl⟩
 ·have u:¬((i:Int)<(most:Int)):=by omega
  simp only[u,acQ,aaT];exact⟨hx,.inl ⟨Ez λj hj=>hp j (by omega),by trivial⟩⟩
theorem IG {S:Slots} {id:Int} (h:id<0\/(S.length:Int)<=id):getS S id=none:=by
 unfold Gp.Ses.getS
 grind
theorem YG {S:Slots} {id:Int} (h0:0<=id) {o:Option Ses} (h:S[id.toNat]? =some o):getS S id=o:=by
 unfold Gp.Ses.getS
 simp_all
theorem ZN (h:TA w A most S M) (id:Int):mP (some ⟨A.d,0,none⟩) id w λr w'=>r=(getS S id).isSome/\w'=w:=by
 apply Jm;have hl:=h.len;refine cmS0 (yu h) ?_;rintro _ w2 ⟨rfl,hw⟩;subst hw;simp only[aaU];by_cases c1:id>=0
 ·simp only[sx,c1,ace,h.hd.cell];by_cases c2:id<(most:Int)
  ·have hS:S[id.toNat]? =some S[id.toNat]:=ade (by omega);generalize S[id.toNat]=o at hS;simp only[c2,ace,aaU,f_,jf,h.slot hS 5 (by omega),Cc];refine⟨by trivial,by trivial,?_,by trivial⟩;rw[YG c1 hS]
  ·simp only[c2,acQ,aaT];exact⟨by rw[IG (.inr (by omega))];rfl,by trivial⟩
 ·simp only[c1,acQ,aaT];exact⟨by rw[IG (.inl (by omega))];rfl,by trivial⟩
def akT (b:Ses) (a1 a2 a3 a4 a5:Int):Prop:=a1=b.bd/\a2=b.st/\a3=b.un/\a4=b.ra/\a5=b.rp
def aa0:Ses:=⟨0,0,0,0,0⟩
theorem ZM (h:TA w A most S M) (id:Int):mO (some ⟨A.d,0,none⟩) id w λa1 a2 a3 a4 a5 r w'=>r=(getS S id).isSome/\akT ((getS S id).getD aa0) a1 a2 a3 a4 a5/\Ext w w':=by
 apply Jj;have hl:=h.len;refine gy λp w1 r1 e1 z1 f1=> ?_;have h1:=h.ext f1;refine cmS0 (ZN h1 id) ?_;rintro _ w2 ⟨rfl,hw⟩;subst hw
 cases hg:getS S id with
 |none=>
  simp only[ald,afa,aaU];refine gU r1 rfl rfl λw3 r3 f3 _=> ?_;simp only[sx,afu,r3.cell];exact⟨⟨rfl,rfl,rfl,rfl,rfl⟩,f1.new (f3 (·=p) rfl) λy hy e=>by omega⟩
 |some b=>
  obtain⟨g0,g1⟩:=Gp.Ses.kY.1 hg;have gl:=(aeK.1 g1).1;have c:=h1.slot g1;have c0:=c 0 (by omega);have c1:=c 1 (by omega);have c2:=c 2 (by omega);have c3:=c 3 (by omega);have c4:=c 4 (by omega);simp only[aki] at c0;simp only[sx,ajX,adp,h1.hd.cell,c0,c1,c2,c3,c4,iM];refine⟨by omega,by omega,gU r1 rfl rfl λw3 r3 f3 _=> ?_⟩;simp only[afu,d_,f_,gq,r3.cell];exact⟨⟨rfl,rfl,rfl,rfl,rfl⟩,f1.new (f3 (·=p) rfl) λy hy e=>by omega⟩
theorem Py {S:Slots} {i:Nat} (hi:i<S.length) (o:Option Ses):(S.flatMap iM).take (i * 6)++iM o++(S.flatMap iM).drop (i * 6+6)=(S.set i o).flatMap iM:=by
 have e1:(S.flatMap iM).take (i * 6)=(S.take i).flatMap iM:=by
  have h:=(ajS i S).symm;have hl:((S.take i).flatMap iM).length=i * 6:=by rw[iU iM 6 kZ];simp;omega
  grind
 have e2:(S.flatMap iM).drop (i * 6+6)=(S.drop (i+1)).flatMap iM:=by
  have h:=(ajS (i+1) S).symm;have hl:((S.take (i+1)).flatMap iM).length=i * 6+6:=by rw[iU iM 6 kZ];simp;omega
  grind
 rw[e1,e2,amP,aeH hi,alh,ak0,akc]
theorem NG (h:Row w A.sl (S.flatMap iM)) {i:Nat} (hi:i<S.length) (o:Option Ses) {K:b_} (hK:∀w',Row w' A.sl ((S.set i o).flatMap iM)->gV w w' (·=A.sl)->w'.heap.size=w.heap.size->K w'):h_ (iM o) w ⟨A.sl,i * 6,none⟩ 0 K:=by
 refine RP (iM o) w _ (i * 6) 0 h (λv hv=>alA.1 (Qo o) v hv) ?_ λw1 r1 f1 z1=> ?_
 ·rw[kZ,iU iM 6 kZ];omega
 ·rw[aki,kZ,Py hi] at r1;exact hK w1 r1 (f1 _ rfl) z1
end
end Go.Proofs.SN
end
section
namespace Go.Proofs.SN
open Gp Gp.Hash
open Gp.Ses (Ses Slots live GoodS freeN getS ids)
open Gp.Bind (In64)
section
variable {w w':θ} {A:QS} {most:Nat} {S:Slots} {M:ByteArray->Option Int}
def wF (S:Slots) (M:ByteArray->Option Int) (b:Ses):Int×Int:=
 if (M (Bind.keyS b.k)).isSome then (0,9) else match freeN S with
  |none=>(0,7)
  |some i=>((i:Int),0)
theorem aif (h:TA w A most S M) (id st un:Int):
  uI (some ⟨A.d,0,none⟩) id st un w λr w'=>r=(getS S id).isSome/\gV w w' (fp A)/\∃S',TA w' A most S' M/\S'=(match getS S id with|none=>S|some b=>S.set id.toNat (some {b with st:=st,un:=un})):=by
 apply Jl;have hl:=h.len;refine cmS0 (ZN h id) ?_;rintro _ w1 ⟨rfl,hw⟩;subst hw
 cases hg:getS S id with
 |none=>
  simp only[ald,afa,aaU];exact⟨by trivial,gV.refl _ _,S,h,rfl⟩
 |some b=>
  obtain⟨g0,g1⟩:=Gp.Ses.kY.1 hg;have gl:=(aeK.1 g1).1;simp only[sx,ajX,adp,h.hd.cell];refine⟨by omega,by omega,?_⟩;have I:=h.row;have e0:S.flatMap iM=(S.flatMap iM).take (id.toNat * 6)++iM (some b)++(S.flatMap iM).drop (id.toNat * 6+6):=by
   have J:S.set id.toNat (some b)=S:=by
    apply amA;intro j;rw[Gp.Ses.iY gl];split
    ·rename_i e;subst e;exact g1.symm
    ·rfl
   rw[Py gl,J]
  have hl6:((S.flatMap iM).take (id.toNat * 6)).length=id.toNat * 6:=by rw[ajT,iU iM 6 kZ];omega
  rw[e0] at I;refine gY I rfl (by simp[kZ,hl6];omega) λw2 r2 f2 z2=> ?_;refine gY r2 rfl (by simp[kZ,hl6];omega) λw3 r3 f3 z3=> ?_;have f23:gV w1 w3 (·=A.sl):=(f2 (·=A.sl) rfl).trans (f3 (·=A.sl) rfl) λ_ _ e=>e;refine⟨by trivial,f23.mono λx hx=> .inr (.inl hx),_,?_,rfl⟩;obtain⟨⟨n1,n2,n3,n4,n5,n6,n7,n8,n9⟩,no⟩:=h.ne;obtain⟨L,t,c⟩:=h.tb;have u:(live 0 (S.set id.toNat (some {b with st:=st,un:=un}))).length=(live 0 S).length:=by rw[Gp.Ses.Un _ 0 g1];simp
  refine⟨by rw[u];exact h.hd.fr f23 n1,?_,by rw[alg];exact hl,h.mx,⟨L,t.fr f23 (ah6 n5) (ah6 n6),by rw[u];exact c⟩,?_,h.good.put g1 rfl,h.ne⟩
  ·rw[<- Py gl];have e3:∀(X Y:List Value),((X++iM (some b)++Y).set (X.length+1) (Β st)).set (X.length+2) (Β un)=X++iM (some {b with st:=st,un:=un})++Y:=by
    intro X Y;rw[akc,alS _ _ (by omega),alS _ _ (by omega),akc];congr 1;rw[Nat.add_sub_cancel_left,Nat.add_sub_cancel_left];rfl
   have:=e3 ((S.flatMap iM).take (id.toNat * 6)) ((S.flatMap iM).drop (id.toNat * 6+6));rw[hl6] at this;rw[<- this];exact r3
  ·have o:=h.own.fr f23 (λe=>n7 e.symm) λx hx e=>(no x hx).2.1 e;exact⟨o.mp,o.nd,λk s hk=>by rw[Gp.Ses.acO (b':={b with st:=st,un:=un}) g1 rfl];exact o.has k s hk,λk hk=>by rw[Gp.Ses.acO (b':={b with st:=st,un:=un}) g1 rfl];exact o.non k hk,o.ap,o.ne⟩
theorem ah_ (h:TA w A most S M) (b:Ses) (hb:b.ok):
  uF (some ⟨A.d,0,none⟩) b.bd b.st b.un b.ra b.rp w λn e w'=>(n,e)=wF S M b/\gV w w' (fp A)/\
   ∃A' S' M',TA w' A' most S' M'/\A'.d=A.d/\(∀x,fp A' x->fp A x\/w.heap.size<=x)/\S'=(if (wF S M b).2=0 then S.set (wF S M b).1.toNat (some b) else S):=by
 apply Jh;refine gy λp w1 r1 e1 z1 f1=> ?_;have h1:=h.ext f1;refine cmS0 (yu h1) ?_;rintro _ w2 ⟨rfl,hw⟩;subst hw;simp only[sx,Cs,Cw,adp,r1.cell];refine cmS3 (aaC h1 _ _ _ hb) ?_;rintro n2 t2 w3 ⟨ht2,_,f3⟩;have ht2:t2=(M (Bind.keyS b.k)).isSome:=ht2;have x3:Ext w w3:=f1.trans f3;have h3:=h.ext x3;have r3:=r1.ext f3
 cases U:t2 with
 |true=>
  rw[U] at ht2;simp only[aaU];have e:wF S M b=(0,9):=by unfold wF;rw[<- ht2];rfl
  rw[e];exact⟨rfl,x3 _,A,S,M,h3,rfl,λx hx=> .inl hx,by rw[ada (by simp)]⟩
 |false=>
 rw[U] at ht2;simp only[aaT,aeI,f_,gK,h3.hd.cell];refine cmS1 (afT h3) ?_;rintro r5 w5 ⟨f5,(⟨J,rfl⟩|⟨i,J,rfl⟩)⟩
 ·simp only[show decide ((-1:Int)<0)=true from rfl,aaU];have e:wF S M b=(0,7):=by unfold wF;rw[<- ht2,J];rfl
  rw[e];exact⟨rfl,(x3.trans f5) _,A,S,M,h3.ext f5,rfl,λx hx=> .inl hx,by rw[ada (by simp)]⟩
 ·have e:wF S M b=((i:Int),0):=by unfold wF;rw[<- ht2,J];rfl
  rw[e];obtain⟨g1,g2,g3,g4,g5,g6,g7⟩:=Gp.Ses.jm 0 J;have hm:=h.mx;have hl:=h.len;have x5:Ext w w5.drew:=(x3.trans f5).trans (Ext.drew _);have h5:=h.ext x5;have r5:=(r3.ext f5).drew;have i0:¬((i:Int)<0):=by omega
  simp only[sx,Cs,Cw,i0,acQ,h5.hd.cell,r5.cell,ab3];refine⟨by omega,by omega,?_⟩;refine NG h5.row g1 (some b) λw6 row6 f6 z6=> ?_;obtain⟨⟨n1,n2,n3,n4,n5,n6,n7,n8,n9⟩,no⟩:=h.ne;have hp:∀x,fp A x->x≠p:=λx hx=>by have:=h.lt hx;omega
  have hd6:=(h5.hd.fr f6 n1).drew;have r6:=(r5.fr f6 (hp _ (.inr (.inl rfl))).symm).drew;simp only[d_,f_,gq,oU,hd6.cell,r6.cell];refine cmS9 (ZG _ _ _ hb _) ?_;rintro _ w7 ⟨rfl,f7⟩;have hd7:=hd6.ext f7;have r7:=r6.ext f7;simp only[afu,d_,hd7.cell];obtain⟨L,tb,cL⟩:=h5.tb;have f57:gV w5.drew w7 (·=A.sl):=(f6.ext (Ext.drew _)).ext f7;have tb7:=tb.fr f57 (ah6 n5) (ah6 n6);have hM:M (Bind.keyS b.k)=none:=by cases hx:M (Bind.keyS b.k) with
   |none=>rfl
   |some v=>rw[hx] at ht2;cases ht2
  refine cmS1 (YK tb7 (Bind.keyS b.k) (i:Int) (qV _ (by simp[Ses.k]))) ?_;rintro e8 w8 (⟨rfl,hlt8,s8,L8,t8,c8,f8,hs8⟩|⟨_,_,N,_⟩);rotate_left
  ·exfalso;rw[cL] at N;omega
  have hd8:=(hd7.fr f8 (by rintro(h|h);exact n2 h;exact n3 h)).drew;have r8:Row w8.drew p _:=(r7.fr f8 (by rintro(h|h);exact hp _ (.inr (.inr (.inl rfl))) h.symm;exact hp _ (.inr (.inr (.inr (.inl rfl)))) h.symm)).drew;simp only[d_,f_,gq,Dp,hd8.cell,r8.cell];have f58:gV w5.drew w8.drew (λx=>x=A.sl\/x=A.ti\/x=A.si):=((f57.mono λx hx=> .inl hx).trans f8 λx _ hx=>by
   rcases hx with hx|hx
   ·exact .inr (.inl hx)
   ·exact .inr (.inr hx)).ext (Ext.drew _)
  have own8:E_ w8.drew A.m A.l S:=h5.own.fr f58 (by rintro(h|h|h);exact n7 h.symm;exact n8 h.symm;exact n9 h.symm) λx hx=>by
   have:=no x hx;rintro(h|h|h)
   ·exact this.2.1 h
   ·exact this.2.2.1 h
   ·exact this.2.2.2 h
  refine own8.get b.bd ?_;have O:=own8.buf b.bd;have hil:=Gp.Ses.Sj S b.bd;have srt:=Gp.Ses.qG S b.bd;refine cmS3 (ai1 (O.sl jr (by omega)) (by omega) srt (i:Int)) ?_;rintro _ _ w9 ⟨⟨q,rfl,hq,q1,q2⟩,hw⟩;subst hw;have own9:=own8.fr (Ext.drew _ λ_=>False) (by simp) (by simp);have hd9:=hd8.drew;have r9:=r8.drew;simp only[d_,f_,gq,Dp,hd9.cell,r9.cell];refine gy λv Z aa e10 z10 f10=> ?_;have own10:=own9.fr (f10 λ_=>False) (by simp) (by simp);have hd10:=hd9.ext f10;have r10p:=r9.ext f10;simp only[afu,d_,hd10.cell,r10p.cell];have vlt:∀x,fU.at (lkS A.l b.bd) x->x≠v:=λx hx e=>by
   obtain⟨s,g1,_,g2⟩:=PS hx;have:=own9.lt ⟨_,s,g1,g2⟩;omega
  have lold:∀x,fU.at (lkS A.l b.bd) x->ownB A.l x:=λx hx=>by
   obtain⟨s,g1,_,g2⟩:=PS hx;exact⟨_,s,g1,g2⟩
  refine cmS2 (adS (own10.buf b.bd) (y:=(i:Int)) aa vlt hq (by omega)) ?_;rintro R w11 ⟨W,f11,n11⟩;have hd11:=hd10.fr f11 λhx=>(no _ (lold _ hx)).1 rfl;have ab:=r10p.fr f11 λhx=>hp _ (.inr (.inr (.inr (.inr (.inr (lold _ hx)))))) rfl;simp only[afu,d_,hd11.cell,ab.cell];rw[<- Gp.Ses.aho g2 (λj v hj hv=>q1 j v hj hv) (λj v hj hv=>q2 j v hj hv) hq] at W;refine own10.set (S':=S.set i (some b)) f11 (λhx=>own10.ne _ (lold _ hx) rfl) (λx _ hx=>hx) W n11 (λk hk=>Gp.Ses.V5 g2 hk) λY own12 f12 z12=> ?_;have hd12:=hd11.fr f12 n4;simp only[d_,f_,gq,hd12.cell];have hll:=Gp.Ses.ji S 0;rw[Α];refine gY hd12 rfl (by simp) λI hd13 f13 z13=> ?_;simp only[af7,agO] at hd13;have f13d:=f13 (·=A.d) rfl;have u:(live 0 (S.set i (some b))).length=(live 0 S).length+1:=by
   rw[g7 b];simp only[ahY,aiQ,ajT,alx];omega
  have f8x:gV w8 Y (λx=>x=A.m\/ownB A.l x):=((((Ext.drew w8).trans (Ext.drew _)).trans f10) _).trans ((f11.mono λx hx=> .inr (lold x hx)).trans f12 λx _ hx=> .inl hx) λ_ _ hx=>hx;have hs8':s8≠A.d/\s8≠A.sl/\s8≠A.m/\¬ownB A.l s8:=by
   rcases hs8 with h8|h8
   ·rw[h8];exact⟨ah6 n3,ah6 n6,n9,λho=>(no _ ho).2.2.2 rfl⟩
   ·have big:∀x,fp A x->s8≠x:=λx hx e=>by
     have l1:=h.lt hx;have l2:w.heap.size<=w7.heap.size:=aj0 x5.size f57.size;rw[e] at h8;exact amw _ (alc l1 (aj0 l2 h8))
    exact⟨big _ (.inl rfl),big _ (.inr (.inl rfl)),big _ (.inr (.inr (.inr (.inr (.inl rfl))))),λho=>big _ (.inr (.inr (.inr (.inr (.inr ho))))) rfl⟩
  have tb13:TB I A.ti s8 L8 most (Go.Proofs.upd M (Bind.keyS b.k) (some (i:Int))):=(t8.fr f8x (by rintro(h|h);exact n8 h;exact(no _ h).2.2.1 rfl) (by rintro(h|h);exact hs8'.2.2.1 h;exact hs8'.2.2.2 h)).fr f13d (ah6 n2) hs8'.1;have row13:Row I A.sl ((S.set i (some b)).flatMap iM):=(((((row6.ext (Ext.drew _)).ext f7).fr f8 (by rintro(h|h);exact n5 h;exact n6 h))).fr f8x (by rintro(h|h);exact n7 h;exact(no _ h).2.1 rfl)).fr f13d (ah6 n1);have eu:∀M k v,Go.Proofs.upd M k v=Gp.Bind.upd M k v:=λ_ _ _=>rfl;rw[eu] at tb13;have f512:gV w Y (fp A):=((x5 (fp A)).trans (f58.mono (S':=fp A) λx hx=>by
    rcases hx with hx|hx|hx
    ·exact .inr (.inl hx)
    ·exact .inr (.inr (.inl hx))
    ·exact .inr (.inr (.inr (.inl hx)))) λ_ _ hx=>hx).trans (((((Ext.drew w8.drew).trans f10) _).trans ((f11.mono (S':=λx=>x=A.m\/ownB A.l x) λx hx=> .inr (lold x hx)).trans f12 λx _ hx=> .inl hx) λ_ _ hx=>hx)) λx _ hx=>by
    rcases hx with hx|hx
    ·exact .inr (.inr (.inr (.inr (.inl hx))))
    ·exact .inr (.inr (.inr (.inr (.inr hx))))
  have ftot:gV w I (fp A):=f512.trans f13d λx _ hx=> .inl hx;have s11new:∀x,fU.at R x->ownB A.l x\/(w.heap.size<=x/\w8.heap.size<=x):=λx hx=>by
   rcases n11 x hx with h|h
   ·exact .inl (lold x h)
   ·right;have a1:w5.drew.heap.size<=w8.heap.size:=f58.size;have a2:w8.heap.size<=Z.heap.size:=(((Ext.drew w8).trans (Ext.drew _)).trans f10).size;exact⟨aj0 x5.size (aj0 a1 (aj0 a2 h)),aj0 a2 h⟩
  have own13:E_ I A.m (Cm A.l b.bd R) (S.set i (some b)):=own12.fr f13d n4.symm λx hx e=>by
   rcases Sz hx with h1|h1
   ·rcases s11new x h1 with h2|h2
    ·exact(no x h2).1 e
    ·have:=h.lt (.inl rfl:fp A A.d);omega
   ·exact(no x h1).1 e
  have ta:TA I ⟨A.d,A.sl,A.ti,s8,A.m,Cm A.l b.bd R⟩ most (S.set i (some b)) (Gp.Bind.upd M (Bind.keyS b.k) (some (i:Int))):=by
   refine⟨?_,row13,by rw[alg];exact hl,hm,⟨L8,tb13,?_⟩,own13,h.good.add g2 hb hM,⟨⟨n1,n2,ah6 hs8'.1,n4,n5,ah6 hs8'.2.1,n7,n8,hs8'.2.2.1⟩,λx hx=> ?_⟩⟩
   ·rw[u];simpa using hd13
   ·rw[c8,u,hM,cL];rfl
   ·rcases Sz hx with h1|h1
    ·rcases s11new x h1 with h2|⟨h2,h4⟩
     ·have:=no x h2;exact⟨this.1,this.2.1,this.2.2.1,λe=>hs8'.2.2.2 ((show x=s8 from e) ▸ h2)⟩
     ·have k1:=h.lt (.inl rfl:fp A A.d);have k2:=h.lt (.inr (.inl rfl):fp A A.sl);have k3:=h.lt (.inr (.inr (.inl rfl)):fp A A.ti);have k4:=aiH t8;exact⟨λe=>by rw[e] at h2;exact amw _ (alc k1 h2),λe=>by rw[e] at h2;exact amw _ (alc k2 h2),λe=>by rw[e] at h2;exact amw _ (alc k3 h2),λe=>by rw[e] at h4;exact amw _ (alc k4 h4)⟩
    ·have:=no x h1;exact⟨this.1,this.2.1,this.2.2.1,λe=>hs8'.2.2.2 ((show x=s8 from e) ▸ h1)⟩
  refine⟨ftot,_,_,_,ta,rfl,?_,by simp⟩;intro x hx;rcases hx with hx|hx|hx|hx|hx|hx
  ·exact .inl (.inl hx)
  ·exact .inl (.inr (.inl hx))
  ·exact .inl (.inr (.inr (.inl hx)))
  ·have hx:x=s8:=hx;rcases hs8 with h8|h8
   ·exact .inl (.inr (.inr (.inr (.inl (hx.trans h8)))))
   ·right;rw[hx];exact aj0 x5.size (aj0 f57.size h8)
  ·exact .inl (.inr (.inr (.inr (.inr (.inl hx)))))
  ·rcases Sz hx with h1|h1
   ·rcases s11new x h1 with h2|h2
    ·exact .inl (.inr (.inr (.inr (.inr (.inr h2)))))
    ·exact .inr h2.1
   ·exact .inl (.inr (.inr (.inr (.inr (.inr h1)))))
end
end Go.Proofs.SN
end
section
namespace Go.Proofs.SN
open Gp Gp.Hash
open Gp.Ses (Ses Slots live GoodS freeN getS ids)
open Gp.Bind (In64)
section
variable {w w':θ} {A:QS} {most:Nat} {S:Slots} {M:ByteArray->Option Int}
theorem isId (p:Nat) (id:Int):FnI (Value.func (.func Ed) #[] #[.pointer (some ⟨p,0,none⟩)]) (λW=>Row W p [Β id]) (λx=>x==id):=by
 intro x W K hC hK;refine j_ (by kernel_rfl) ?_;have:uX x ⟨p,0,none⟩ W λr W'=>r=(x==id)/\W'=W:=by
  apply CQ;simp only[sx,hC.cell];trivial
 refine Calls.mono this ?_;rintro e W' ⟨r,he,rfl,hw⟩;subst hw;exact⟨_,he,hK⟩
theorem VB (h:TA w A most S M) (id:Int):
  mZ (some ⟨A.d,0,none⟩) id w λr w'=>r=(getS S id).isSome/\gV w w' (fp A)/\∃A' S' M',TA w' A' most S' M'/\A'.d=A.d/\(∀x,fp A' x->fp A x)/\S'=(if (getS S id).isSome then S.set id.toNat none else S):=by
 apply EM;have hl:=h.len;have hm:=h.mx;refine⟨rfl,gy λp4 w1 q1 e1 z1 f1=> ?_⟩;have h1:=h.ext f1;simp -zeta only[sx,Ci,Cj,Cs,Cw,q1.cell];refine cmS0 (ZN h1 id) ?_;rintro _ w2 ⟨rfl,hw⟩;subst hw
 cases hg:getS S id with
 |none=>
  simp -zeta only[ald,afa,aaU]
  grind
 |some b=>
  obtain⟨g0,g1⟩:=Gp.Ses.kY.1 hg;have gl:=(aeK.1 g1).1;have hb:=h.good.ok _ _ g1;obtain⟨i,rfl⟩:∃i:Nat,id=(i:Int):=⟨id.toNat,by omega⟩;rw[ab3] at g1 gl;have x1:=f1.trans (Ext.drew _);have h1d:=h.ext x1;have q1d:=q1.drew;have c:=h1d.slot g1;have c0:=c 0 (by omega);have c1:=c 1 (by omega);have c2:=c 2 (by omega);have c3:=c 3 (by omega);have c4:=c 4 (by omega);simp only[aki,iM,d_] at c0 c1 c2 c3 c4;simp -zeta only[sx,Ci,Cj,Cs,Cw,ajX,adp,h1d.hd.cell,q1d.cell,ab3,c0,c1,c2,c3,c4];refine⟨by omega,by omega,gy λp3 w3 r3 e3 z3 f3=> ?_⟩;have h3:=h1d.ext f3;have q3:=q1d.ext f3;have d:=h3.slot g1;have d0:=d 0 (by omega);have d1:=d 1 (by omega);have d2:=d 2 (by omega);have d3:=d 3 (by omega);have d4:=d 4 (by omega);simp only[aki,iM,d_] at d0 d1 d2 d3 d4;simp -zeta only[sx,Ci,Cj,Cs,Cw,afu,h3.hd.cell,q3.cell,d0,d1,d2,d3,d4];refine gU r3 rfl rfl λw4 r4 f4 z4=> ?_;have z31:w2.drew.heap.size=w2.heap.size:=rfl;have zx1:=x1.size;have p34:p4≠p3:=by omega
  have x4:=((Ext.drew w2).trans f3).new (f4 (·=p3) rfl) λy hy e=>by omega
  have x4d:=(f1.trans x4).trans (Ext.drew _);have h4:=h.ext x4d;have q4:=(q1.ext x4).drew;have r4d:=r4.drew;simp -zeta only[d_,f_,gq,oU,h4.hd.cell,r4d.cell];refine cmS9 (ZG _ _ _ hb _) ?_;rintro _ w5 ⟨rfl,f5⟩;have h5:=h4.ext f5;have q5:=q4.ext f5;have r5:=r4d.ext f5;simp -zeta only[afu,d_,h5.hd.cell];obtain⟨L,tb,cL⟩:=h5.tb;obtain⟨⟨n1,n2,n3,n4,n5,n6,n7,n8,n9⟩,no⟩:=h.ne;have hp3:∀x,fp A x->x≠p3:=λx hx=>by have:=h1d.lt hx;omega
  have hp4:∀x,fp A x->x≠p4:=λx hx=>by have:=h.lt hx;omega
  refine cmS0 (MN tb (Bind.keyS b.k) (qV _ (by simp[Ses.k]))) ?_;rintro _ w6 ⟨_,⟨L6,t6,c6⟩,f6⟩;have hM:=(h.good.k _ _).2 ⟨_,b,g1,rfl,rfl⟩;have hd6:=(h5.hd.fr f6 (by omega)).drew;have q6:=(q5.fr f6 (by rintro(h|h);exact hp4 _ (.inr (.inr (.inl rfl))) h.symm;exact hp4 _ (.inr (.inr (.inr (.inl rfl)))) h.symm)).drew;have r6:=(r5.fr f6 (by rintro(h|h);exact hp3 _ (.inr (.inr (.inl rfl))) h.symm;exact hp3 _ (.inr (.inr (.inr (.inl rfl)))) h.symm)).drew;have row6:=(h5.row.fr f6 (by omega)).drew;have own6:=(h5.own.fr f6 (by omega) λx hx=>by
   simp_all).fr (Ext.drew _ λ_=>False) (by simp) (by simp)
  have t6d:=t6.LJ (Ext.drew w6);have f6d:=f6.ext (Ext.drew _);simp -zeta only[d_,f_,gq,Dp,hd6.cell,r6.cell];refine own6.get b.bd ?_;have lold:∀x,fU.at (lkS A.l b.bd) x->ownB A.l x:=λx hx=>by
   obtain⟨s,g1,_,g2⟩:=PS hx;exact⟨_,s,g1,g2⟩
  have hil:=Gp.Ses.Sj S b.bd;refine cmS2 (ag5 (own6.buf b.bd) (by omega) (isId p4 (i:Int)) λW hf=>q6.fr hf λhx=>hp4 _ (.inr (.inr (.inr (.inr (.inr (lold _ hx)))))) rfl) ?_;rintro s7 w7 ⟨b7,f7,n7'⟩;have e7:(ids S b.bd).filter (λx=> !(x==(i:Int)))=ids (S.set i none) b.bd:=by rw[Gp.Ses.Ug g1];rfl
  rw[e7] at b7;have hd7:=(hd6.fr f7 λhx=>(no _ (lold _ hx)).1 rfl).drew;have q7:=(q6.fr f7 λhx=>hp4 _ (.inr (.inr (.inr (.inr (.inr (lold _ hx)))))) rfl).drew;have r7:=(r6.fr f7 λhx=>hp3 _ (.inr (.inr (.inr (.inr (.inr (lold _ hx)))))) rfl).drew;have row7:=(row6.fr f7 λhx=>(no _ (lold _ hx)).2.1 rfl).drew;have t7:=(t6d.fr f7 (λhx=>(no _ (lold _ hx)).2.2.1 rfl) (λhx=>(no _ (lold _ hx)).2.2.2 rfl)).LJ (Ext.drew w7);have f7d:=f7.ext (Ext.drew _);have b7d:=b7.ext (Ext.drew w7);simp -zeta only[d_,f_,gq,Dp,hd7.cell,r7.cell];refine own6.set f7d (λhx=>own6.ne _ (lold _ hx) rfl) (λx _ hx=>hx) b7d (λx hx=> .inl (n7' x hx)) (λk hk=>Gp.Ses.PG g1 hk) λw8 own8 f8 z8=> ?_;have up8:∀x,ownB (Cm A.l b.bd s7) x->ownB A.l x:=λx hx=>by
   rcases Sz hx with h1|h1
   ·exact lold x (n7' x h1)
   ·exact h1
  have f58:=((f6d.mono (S':=fp A) λx hx=>by
   rcases hx with hx|hx
   ·exact .inr (.inr (.inl hx))
   ·exact .inr (.inr (.inr (.inl hx)))).trans f7d λx _ hx=> .inr (.inr (.inr (.inr (.inr (lold x hx)))))).trans f8 λx _ hx=> .inr (.inr (.inr (.inr (.inl hx))))
  have O:=((x4d.trans f5) (fp A)).trans f58 λ_ _ hx=>hx;have hd8:=hd7.fr f8 n4;have q8:=q7.fr f8 λhx=>hp4 _ (.inr (.inr (.inr (.inr (.inl rfl))))) hx.symm;have r8:=r7.fr f8 λhx=>hp3 _ (.inr (.inr (.inr (.inr (.inl rfl))))) hx.symm;have row8:=row7.fr f8 n7;have t8:=t7.fr f8 n8 n9;intro J;have hJ:∀W l',E_ W A.m l' (S.set i none)->(∀x,ownB l' x->ownB A.l x)->gV w8 W (·=A.m)->J W:=by
   intro W l' I u hf;have N:=(hd8.fr hf n4).drew;have qW:=(q8.fr hf λhx=>hp4 _ (.inr (.inr (.inr (.inr (.inl rfl))))) hx.symm).drew;have rowW:=(row8.fr hf n7).drew;have tW:=(t8.fr hf n8 n9).LJ (Ext.drew W);have ownW:=I.fr (Ext.drew _ λ_=>False) (by simp) (by simp);simp only[sx,Ci,Cj,Cs,Cw,J,N.cell,qW.cell,ab3];refine⟨by omega,by omega,?_⟩;refine NG rowW gl none λw9 row9 f9 z9=> ?_;have hd9:=N.fr f9 n1;simp only[d_,f_,gq,hd9.cell];have hlen:=Gp.Ses.ku 0 g1;have hll:=Gp.Ses.ji S 0;rw[Α];refine gY hd9 rfl (by simp) λR hd10 f10 z10=> ?_;simp only[af7,agO] at hd10;have f10d:=f10 (·=A.d) rfl;have t10:=(tW.fr f9 (ah6 n5) (ah6 n6)).fr f10d (ah6 n2) (ah6 n3);have own10:=(ownW.fr f9 n7.symm λx hx=>(no x (u x hx)).2.1).fr f10d n4.symm λx hx=>(no x (u x hx)).1;have eu:∀M k v,Go.Proofs.upd M k v=Gp.Bind.upd M k v:=λ_ _ _=>rfl;rw[eu] at t10;have e:((live 0 S).length:Int) - 1=((live 0 (S.set i none)).length:Int):=by omega
   rw[e] at hd10;rw[hM] at c6;simp only[ajX,aiS] at c6;have ta:TA R {A with l:=l'} most (S.set i none) (Gp.Bind.upd M (Bind.keyS b.k) none):=
    ⟨hd10,row9.fr f10d (ah6 n1),by simp_all,hm,⟨L6,t10,by omega⟩,own10,h.good.remove g1,⟨⟨n1,n2,n3,n4,n5,n6,n7,n8,n9⟩,λx hx=>no x (u x hx)⟩⟩
   refine⟨?_,_,_,_,ta,rfl,?_,by simp⟩
   ·exact(((O.trans hf λx _ hx=> .inr (.inr (.inr (.inr (.inl hx))))).ext (Ext.drew _)).trans f9 λx _ hx=> .inr (.inl hx)).trans f10d λx _ hx=> .inl hx
   ·rintro x (hx|hx|hx|hx|hx|hx)
    ·exact .inl hx
    ·exact .inr (.inl hx)
    ·exact .inr (.inr (.inl hx))
    ·exact .inr (.inr (.inr (.inl hx)))
    ·exact .inr (.inr (.inr (.inr (.inl hx))))
    ·exact .inr (.inr (.inr (.inr (.inr (u x hx)))))
  clear_value J;have l7:=b7.len;by_cases hz:((s7.len:Int)==0)=true
  ·rw[hz,aaU];have hz':ids (S.set i none) b.bd=[]:=by
    simp_all
   have hd8d:=hd8.drew;have r8d:=r8.drew;simp only[d_,f_,gq,Dp,hd8d.cell,r8d.cell];have own8d:=own8.fr (Ext.drew w8 λ_=>False) (by simp) (by simp);refine own8d.del hz' λw9 own9 f9 z9=> ?_;exact hJ w9 _ own9 (λx hx=>up8 x (agj own8.nd hx)) (((Ext.drew w8) (·=A.m)).trans f9 λ_ _ e=>e)
  ·rw[Bool.eq_false_iff.2 hz,aaT];exact hJ w8 _ own8 up8 (gV.refl _ _)
abbrev yK:List Shape:=[.one ν,.agg [ν,ν,ν,ν,ν]]
def yS (L:List (Int×Ses)):List (zI yK):=L.map λx=>(x.1,(x.2.bd,x.2.st,x.2.un,x.2.ra,x.2.rp,()),())
theorem lG:∀(S T:Slots) (k:Nat),live k (S++T)=live k S++live (k+S.length) T
 |[],T,k=>by simp[live]
 |none::r,T,k=>by rw[alr,live,live,lG r T (k+1)];grind
 |some b::r,T,k=>by rw[alr,live,live,lG r T (k+1)];grind
theorem YS {S:Slots} {i:Nat} {b:Ses} (h:S[i]? =some (some b)):(live 0 S)[(live 0 (S.take i)).length]? =some ((i:Int),b)/\(live 0 (S.take (i+1))).length=(live 0 (S.take i)).length+1:=by
 have u:=(aeK.1 h).1;have hS:S[i]=some b:=by simp_all
 have e1:S=S.take i++some b::S.drop (i+1):=by
  conv=>lhs;rw[<- ajS i S,alI u,hS]
 have hl:(S.take i).length=i:=by simp;omega
 constructor
 ·conv=>lhs;rw[e1]
  rw[lG,akQ (by simp[hl])];simp[live,hl]
 ·rw[aj3 u,hS,lG];simp[live]
theorem PK {S:Slots} {i:Nat} (h:S[i]? =some none):(live 0 (S.take (i+1))).length=(live 0 (S.take i)).length:=by
 have u:=(aeK.1 h).1;have hS:S[i]=none:=by simp_all
 rw[aj3 u,hS,lG];simp[live]
theorem aeW (most:Nat) (S:Slots) (M:ByteArray->Option Int) (A:QS) (f0:Nat):
  pX υ yK (Value.func (.func xB) #[] #[(Value.pointer (some ⟨f0,0,none⟩))])
   (λW=>Row W f0 [.pointer (some ⟨A.d,0,none⟩)]/\TA W A most S M) (yS (live 0 S)):=by
 refine⟨by kernel_rfl,λn Q D hC hQ hD hy w h0=> ?_⟩;refine Calls.mono (Gw ?_) (λe w' h=>h);obtain⟨r0,h⟩:=hC _ _ h0;have hl:=h.len;have hm:=h.mx;simp only[sx,r0.cell];refine cmS0 (yu h) ?_;rintro _ w2 ⟨rfl,hw⟩;subst hw;simp only[sx,adp,r0.cell,h.hd.cell];have J:(yS (live 0 S)).length=(live 0 S).length:=by simp[yS]
 rw[J];refine gI (λst W=>∃i:Nat,i<=most/\st.1=(i:Int)/\Q (live 0 (S.take i)).length W) (λst _=>most - st.1.toNat) ⟨0,by omega,rfl,by simpa [live] using h0⟩ ?_;rintro⟨x,⟨⟩⟩ W ⟨i,hi,rfl,hq⟩ next I
 obtain⟨r0,h⟩:=hC _ _ hq;by_cases hlt:i<most
 ·have u:((i:Int)<(most:Int)):=by omega
  have hS:S[i]? =some S[i]:=ade (by omega);generalize S[i]=o at hS;have c:=h.slot hS;have c0:=c 0 (by omega);have c1:=c 1 (by omega);have c2:=c 2 (by omega);have c3:=c 3 (by omega);have c4:=c 4 (by omega);have c5:=c 5 (by omega);simp only[aki] at c0
  cases o with
  |none=>
   simp only[u,ace,aaU,d_,f_,gq,jf,ab3,c0,c1,c2,c3,c4,c5,iM];refine⟨by omega,by trivial,DJ rfl rfl λp w3 r3 e3 z3 f3=> ?_⟩;simp only[sx,r3.cell];rw[Α];refine I _ _ ⟨i+1,by omega,by simp,?_⟩ (by omega);rw[PK hS];exact hQ _ _ _ hq f3
  |some b=>
   simp only[u,ace,aaU,d_,f_,gq,jf,ab3,c0,c1,c2,c3,c4,c5,iM];refine⟨by omega,by trivial,DJ rfl rfl λp w3 r3 e3 z3 f3=> ?_⟩;simp only[sx,r3.cell];obtain⟨g1,g2⟩:=YS hS;refine jW (hy (live 0 (S.take i)).length ((i:Int),(b.bd,b.st,b.un,b.ra,b.rp,()),()) w3 _ ?_ (hQ _ _ _ hq f3) ?_ ?_)
   ·simp only[yS,aiN,g1,ag4]
   ·intro W' hq';refine⟨true,rfl,?_⟩;simp only[adp,aaT];rw[Α];exact I _ _ ⟨i+1,by omega,by simp,by rw[g2];exact hq'⟩ (by omega)
   simp_all
 ·have u:¬((i:Int)<(most:Int)):=by omega
  simp only[u,acQ,aaT]
  grind
def zH (S:Slots) (k:Int):List (Int×Ses):=(live 0 S).filter λx=>x.2.bd==k
theorem Sv (S:Slots) (k:Int):(zH S k).map (·.1)=ids S k:=rfl
theorem ahL (most:Nat) (S:Slots) (M:ByteArray->Option Int) (A:QS) (f0 f1:Nat) (k:Int):
  NC υ yK (Value.func (.func sO) #[] #[(Value.pointer (some ⟨f0,0,none⟩)),(Value.pointer (some ⟨f1,0,none⟩))])
   (λW=>Row W f0 [.pointer (some ⟨A.d,0,none⟩)]/\Row W f1 [Β k]/\TA W A most S M) (yS (zH S k)):=by
 refine⟨by kernel_rfl,λn w Q D hC hQ hD hy h0=> ?_⟩;refine Calls.mono (xC ?_) (λe w' h=>h);have up:∀{i W W'},Q i W->Ext W W'->Q i W':=λhq hx=>hQ _ _ _ hq (hx _);obtain⟨r0,r1,h⟩:=hC _ _ h0;have hl:=h.len;have hm:=h.mx;simp only[sx,r0.cell];refine cmS0 (yu h) ?_;rintro _ w2 ⟨rfl,hw⟩;subst hw;have q2:=up h0 (Ext.drew _);obtain⟨r0,r1,h⟩:=hC _ _ q2;simp only[sx,adp,r0.cell,r1.cell,h.hd.cell];refine h.own.get k ?_;have hil:=Gp.Ses.Sj S k;refine cmS2 (Pn ((h.own.buf k).sl jr (by omega)) (by omega)) ?_;rintro s3 w3 ⟨f3,b3,n3⟩;have q3:=up q2 f3;have O:(yS (zH S k)).length=(zH S k).length:=by simp[yS]
 have hol:(zH S k).length=(ids S k).length:=by rw[<- Sv,ahc]
 rw[O];have l3:=b3.len;refine gI (λst W=>∃i:Nat,i<=(zH S k).length/\st.1=(i:Int)/\Q i W/\iQ 1 eI W s3 (ids S k)) (λst _=>(zH S k).length - st.1.toNat) ⟨0,by omega,rfl,q3,b3⟩ ?_;rintro⟨x,⟨⟩⟩ W ⟨i,hi,rfl,hq,hb⟩ next I
 obtain⟨r0,r1,h⟩:=hC _ _ hq;by_cases R:i<(zH S k).length
 ·have u:((i:Int)<(s3.len:Int)):=by omega
  have hS:=ade R;generalize (zH S k)[i]=y at hS;obtain⟨v,b⟩:=y;have hv:(ids S k)[i]? =some v:=by rw[<- Sv,aiN,hS];rfl
  obtain⟨J,_⟩:=alv.1 (akK hS);obtain⟨j,hj,N⟩:=Gp.Ses.jL.1 J;have N:v=(j:Int):=by omega
  subst N;have gl:=(aeK.1 hj).1;have c:=h.slot hj;have c0:=c 0 (by omega);have c1:=c 1 (by omega);have c2:=c 2 (by omega);have c3:=c 3 (by omega);have c4:=c 4 (by omega);simp only[aki,iM,d_] at c0 c1 c2 c3 c4;rw[aeJ u,aaU];refine CV (hb.sl jr (by omega)) hv λa hc=> ?_;simp only[sx,hc,r0.cell,h.hd.cell,ab3,c0,c1,c2,c3,c4];refine⟨by omega,by omega,?_⟩;refine jW (hy i ((j:Int),(b.bd,b.st,b.un,b.ra,b.rp,()),()) W _ ?_ hq ?_ ?_)
  ·simp only[yS,aiN,hS,ag4]
  ·intro W' hq' hf;refine⟨true,rfl,?_⟩;simp only[adp,aaT];rw[Α];refine I _ _ ⟨i+1,by omega,by simp,hq',hb.fr hf λc hc=> ?_⟩ (by omega)
   simp_all
  simp_all
 ·have u:¬((i:Int)<(s3.len:Int)):=by omega
  rw[adn u,aaT]
  grind
theorem JD {α β:Type} {enc:α->Value} {ev:β->Value} {w:θ} {K:Addr->b_} (h:∀w1,qX enc ev w1 w.heap.size []->w1.heap.size=w.heap.size+1->Ext w w1->K ⟨w.heap.size,0,none⟩ w1):Al w (.map #[] 0) K:=
 h _ (qX.new w enc ev) (by simp) (λS=>gV.alloc w _ S)
theorem aic (n:Int) (w:θ):D8 n w λp e w'=>Ext w w'/\((¬(0<=n/\n<=4096)/\p=none/\e=1)\/(0<=n/\n<=4096/\e=0/\∃A,p=some ⟨A.d,0,none⟩/\(∀x,fp A x->w.heap.size<=x)/\TA w' A n.toNat (List.replicate n.toNat none) (λ_=>none))):=by
 apply U8;by_cases c1:n<0
 ·simp only[c1,ace,aaU];exact⟨Ext.refl _,.inl ⟨by omega,by trivial,by trivial⟩⟩
 by_cases c2:n>4096
 ·simp only[c1,c2,ace,acQ,aaU,aaT];exact⟨Ext.refl _,.inl ⟨by omega,by trivial,by trivial⟩⟩
 simp only[c1,c2,acQ,aaT];refine cmS5 (YJ n w) ?_;rintro p1 e1 w1 ⟨f1,(⟨_,_,rfl,ti,rfl,l1,t1⟩|⟨hbad,_,_⟩)⟩;rotate_left
 ·omega
 simp only[show ((0:Int) !=0)=false from rfl,aaT];refine HY (by omega) (by omega) (by omega) (by omega) λsl w3 r3 e3 z3 f3=> ?_;refine JD (enc:=encI) (ev:=slV) λw4 m4 z4 f4=> ?_;refine gy λd w5 r5 e5 z5 f5=> ?_;obtain⟨m,rfl⟩:∃m:Nat,n=(m:Int):=⟨n.toNat,by omega⟩;simp only[ab3] at r3 r5 ⊢;have f1:Ext w w1:=f1;have f3:Ext w1 w3:=f3;have x5:=(f1.trans f3).trans (f4.trans f5);have i1:=t1.ht.hd.lt;have s1:=f1.size;have u_:∀(k j:Nat),live j (List.replicate k none)=[]:=by
  intro k
  induction k with
  |zero=>intro j;rfl
  |succ k ih=>intro j;rw[alB,live];exact ih _
 have ids_rep:∀k j,ids (List.replicate k none) j=[]:=λk j=>by unfold ids;simp_all
 have rep:∀k,gX [Β 0,Β 0,Β 0,Β 0,Β 0,Value.bool false] k=(List.replicate k (none:Option Ses)).flatMap iM:=by
  intro k
  induction k with
  |zero=>rfl
  |succ k ih=>rw[gX,ih,alB,ak0];rfl
 have noB:∀x,¬ownB [] x:=λx ⟨k,s,hk,_⟩=>by cases hk
 refine⟨x5,.inr ⟨by omega,by omega,by trivial,⟨d,sl,ti,ti,w3.heap.size,[]⟩,rfl,?_,?_⟩⟩
 ·intro x hx;rcases hx with hx|hx|hx|hx|hx|hx
  ·grind
  ·simp_all
  ·simp_all
  ·simp_all
  ·grind
  simp_all
 ·refine⟨?_,?_,by simp,by omega,⟨[],?_,?_⟩,⟨?_,?_,?_,?_,?_,?_⟩,⟨λk v=> ?_,λj b hb=> ?_⟩,⟨?_,λx hx=>absurd hx (noB x)⟩⟩
  ·rw[u_];exact r5
  ·rw[<- rep];exact(r3.ext f4).ext f5
  ·exact t1.LJ (f3.trans (f4.trans f5))
  ·rw[u_];rfl
  ·exact qX.ext (m4) f5
  ·simp
  ·intro k s hk;cases hk
  ·simp_all
  ·intro k k' s s' b _ hk;cases hk
  ·simp_all
  ·grind
  ·rw[alY] at hb;split at hb<;>simp at hb
  grind
end
end Go.Proofs.SN
end
section
namespace Go.Proofs.QN
open Gp
def GH (m:Int) (x:Int):List Value:=[Β x,Β m]
structure QOk (l:List Int) (m:Int):Prop where
 lo:∀x∈l,0<=x/\x<=m
 m0:0<=m
 m1:m<=4096
 len:l.length<=64
structure QR (w:θ) (b s:Nat) (l:List Int) (m:Int):Prop where
 hd:Row w b [.slice (some ⟨s,0,none⟩) l.length l.length]
 row:Row w s (l.flatMap (GH m))
 ne:b≠s
theorem QR.fr {w w':θ} {b s:Nat} {l:List Int} {m:Int} {S:Nat->Prop} (h:QR w b s l m) (hf:gV w w' S) (h1:¬S b) (h2:¬S s):QR w' b s l m:=⟨h.hd.fr hf h1,h.row.fr hf h2,h.ne⟩
def ϡ (l:List Int) (i:Int):Prop:=0<=i/\i<(l.length:Int)
instance (l:List Int) (i:Int):Decidable (ϡ l i):=inferInstanceAs (Decidable (_/\_))
def at_ (l:List Int) (i:Int):Int:=l.getD i.toNat 0
def EU (l:List Int) (m i:Int):Int×List Int:=
 if ϡ l i then (if at_ l i>=m then (10,l) else (0,l.set i.toNat (at_ l i+1))) else (1,l)
def LK (l:List Int) (i:Int):Int×List Int:=
 if ϡ l i then (if at_ l i=0 then (8,l) else (0,l.set i.toNat (at_ l i - 1))) else (1,l)
def Eb (l:List Int) (i:Int):Int:=if ϡ l i then at_ l i else 0
theorem Yl {l:List Int} {i:Int} (h:ϡ l i):l[i.toNat]? =some (at_ l i):=by
 obtain⟨h0,h1⟩:=h;have:i.toNat<l.length:=by omega
 simp[at_,this]
theorem at_mem {l:List Int} {i:Int} (h:ϡ l i):at_ l i∈l:=akK (Yl h)
theorem sU (m x:Int):(GH m x).length=2:=rfl
theorem QR.cell0 {w:θ} {b s:Nat} {l:List Int} {m i:Int} (h:QR w b s l m) (hi:ϡ l i):w.cell? ⟨s,i.toNat * 2,none⟩=some (Β (at_ l i)):=by
 rw[h.row.cell,<- aki (i.toNat * 2),flat_get _ 2 (sU m) _ _ 0 (by omega),Yl hi];rfl
theorem QR.cell1 {w:θ} {b s:Nat} {l:List Int} {m i:Int} (h:QR w b s l m) (hi:ϡ l i):w.cell? ⟨s,i.toNat * 2+1,none⟩=some (Β m):=by
 rw[h.row.cell,flat_get _ 2 (sU m) _ _ 1 (by omega),Yl hi];rfl
theorem QR.set {w w1:θ} {b s:Nat} {l:List Int} {m i y:Int} (h:QR w b s l m) (hi:ϡ l i) (hr:Row w1 s ((l.flatMap (GH m)).set (i.toNat * 2) (Β y))) (hf:gV w w1 (·=s)):
  QR w1 b s (l.set i.toNat y) m:=by
 refine⟨by simpa using h.hd.fr hf h.ne,?_,h.ne⟩;rw[<- aki (i.toNat * 2),IE _ 2 (sU m) _ _ 0 (at_ l i) y _ (by omega) (Yl hi) rfl] at hr;exact hr
theorem Uy {w:θ} {b s:Nat} {l:List Int} {m:Int} (h:QR w b s l m) (i:Int):
  pz (some ⟨b,0,none⟩) i w λp e w'=>w'=w/\((ϡ l i/\e=0/\p=some ⟨s,i.toNat * 2,none⟩)\/(¬ϡ l i/\e=1/\p=none)):=by
 apply OJ;simp only[sx,h.hd.cell];by_cases h1:i<0
 ·have:¬ϡ l i:=λx=>by have:=x.1;omega
  simp[h1,this]
 ·by_cases h2:i>=(l.length:Int)
  ·have:¬ϡ l i:=λx=>by have:=x.2;omega
   simp[h1,h2,this]
  ·have:ϡ l i:=⟨by omega,by omega⟩;simp[h1,h2,this,this.1,this.2]
theorem R_ (x m:Int) (w:θ):vO x m w λr w'=>r=decide (x>=m)/\∀S,gV w w' S:=by
 apply Le;refine um λa w1 hr _ _ hf=> ?_;simp only[sx,hr.cell];trivial
theorem OX {w:θ} {b s:Nat} {l:List Int} {m:Int} (h:QR w b s l m) (hq:QOk l m) (i:Int):
  qx (some ⟨b,0,none⟩) i w λe w'=>e=(EU l m i).1/\QR w' b s (EU l m i).2 m/\gV w w' (·=s):=by
 apply La;refine cmS5 (Uy h i) ?_;rintro p e w' ⟨rfl,⟨hi,rfl,rfl⟩|⟨hi,rfl,rfl⟩⟩
 ·have hx:=hq.lo _ (at_mem hi);have hm:=hq.m1;simp only[sx,bne_self_eq_false,h.cell0 hi,h.cell1 hi];refine cmS0 (R_ _ _ _) ?_;rintro r w1 ⟨rfl,hf⟩;have h1:=h.fr (hf λ_=>False) (by simp) (by simp);by_cases u:at_ l i>=m
  ·simp only[u,ace,aaU];simp only[EU,hi,u,aiS]
   simp_all
  ·simp only[u,acQ,aaT,f_,gq,h1.cell0 hi];have hw:ο.wrap (at_ l i+1)=at_ l i+1:=Α;rw[hw];refine gY h1.row rfl ?_ λw2 hr2 hf2 _=> ?_
   ·rw[iU _ 2 (sU m)];have:=hi.1;have:=hi.2;omega
   ·simp only[EU,hi,u,aiS,ajY];exact⟨by trivial,h1.set hi hr2 (hf2 (·=s) rfl),(hf _).trans (hf2 (·=s) rfl) λ_ _ e=>e⟩
 ·simp only[EU,hi,ajY];exact⟨by trivial,h,gV.refl _ _⟩
theorem ahj {w:θ} {b s:Nat} {l:List Int} {m:Int} (h:QR w b s l m) (hq:QOk l m) (i:Int):
  vN (some ⟨b,0,none⟩) i w λe w'=>e=(LK l i).1/\QR w' b s (LK l i).2 m/\gV w w' (·=s):=by
 apply K_;refine cmS5 (Uy h i) ?_;rintro p e w' ⟨rfl,⟨hi,rfl,rfl⟩|⟨hi,rfl,rfl⟩⟩
 ·have hx:=hq.lo _ (at_mem hi);have hm:=hq.m1;simp only[sx,bne_self_eq_false,h.cell0 hi];by_cases h0:at_ l i=0
  ·simp only[h0,amC,aaU];simp only[LK,hi,h0,aiS];exact⟨by trivial,h,gV.refl _ _⟩
  ·have h0':(at_ l i==0)=false:=by simp_all
   have hw:ο.wrap (at_ l i - 1)=at_ l i - 1:=Α;simp only[h0',aaT,hw];refine gY h.row rfl ?_ λw2 hr2 hf2 _=> ?_
   ·rw[iU _ 2 (sU m)];have:=hi.1;have:=hi.2;omega
   ·simp only[LK,hi,h0,aiS,ajY];exact⟨by trivial,h.set hi hr2 (hf2 (·=s) rfl),hf2 (·=s) rfl⟩
 ·simp only[LK,hi,ajY];exact⟨by trivial,h,gV.refl _ _⟩
theorem ύ {w:θ} {b s:Nat} {l:List Int} {m:Int} (h:QR w b s l m) (i:Int):
  oP (some ⟨b,0,none⟩) i w λn w'=>n=Eb l i/\w'=w:=by
 apply Jf;refine cmS5 (Uy h i) ?_;rintro p e w' ⟨rfl,⟨hi,rfl,rfl⟩|⟨hi,rfl,rfl⟩⟩
 ·simp only[sx,bne_self_eq_false,h.cell0 hi,Eb,hi,aiS,ali]
 ·simp only[Eb,hi,ajY];exact⟨by trivial,by trivial⟩
theorem afz (m x:Int) (n:Nat):(List.replicate n x).flatMap (GH m)=gX (GH m x) n:=by
 induction n with
 |zero=>rfl
 |succ n ih=>simp[alB,gX,ih]
def XR (n m:Int):Prop:=1<=n/\n<=64/\0<=m/\m<=4096
instance (n m:Int):Decidable (XR n m):=inferInstanceAs (Decidable (_/\_))
theorem ahG {n m:Int} (h:XR n m):QOk (List.replicate n.toNat 0) m:=by
 obtain⟨h1,h2,h3,h4⟩:=h;refine⟨λx hx=> ?_,h3,h4,by simp;omega⟩
 simp_all
def OT (m:Int) (n k:Nat):List Value:=(List.replicate k (0:Int)).flatMap (GH m)++(List.replicate (n - k) (0:Int)).flatMap (GH 0)
theorem aee (m:Int) (n k:Nat) (hk:k<n):(OT m n k).set (k * 2+1) (Β m)=OT m n (k+1):=by
 unfold OT;have hl:((List.replicate k (0:Int)).flatMap (GH m)).length=k * 2:=by rw[iU _ 2 (sU m)];simp
 rw[alS _ _ (by omega),hl];obtain⟨j,hj⟩:∃j,n - k=j+1:=⟨n - k - 1,by omega⟩;have hj2:n - (k+1)=j:=by omega
 rw[hj,hj2,List.replicate_succ' (n:=k),alh];simp[alB,GH]
theorem aed (m:Int) (n k:Nat) (hk:k<=n):(OT m n k).length=n * 2:=by
 unfold OT;rw[ahY,iU _ 2 (sU m),iU _ 2 (sU 0)];simp;omega
theorem abO (n m:Int) (w:θ):Ib n m w λp e w'=>
  (∀S,gV w w' S)/\((XR n m/\e=0/\∃b s,p=some ⟨b,0,none⟩/\w.heap.size<=b/\w.heap.size<=s/\QR w' b s (List.replicate n.toNat 0) m)\/(¬XR n m/\e=1/\p=none)):=by
 apply Zf;by_cases hn:XR n m
 ·obtain⟨h1,h2,h3,h4⟩:=hn;have c1:¬(n<1):=by omega
  have c2:¬(n>64):=by omega
  have c3:¬(m<0):=by omega
  have c4:¬(m>4096):=by omega
  simp only[sx,c1,c2,c3,c4,acQ];refine HY (by omega) (by omega) (by omega) (by omega) λs w1 hr0 hs _ hf1=> ?_;have hq0:gX [Β 0,Β 0] n.toNat=OT m n.toNat 0:=by
   unfold OT;simp only[List.replicate_zero,List.flatMap_nil,alJ,alN];exact(afz 0 0 _).symm
  rw[hq0] at hr0;subst hs;refine um λb w2 hr2 hb hsz hf2=> ?_;simp only[aeI,f_,gK,hr2.cell];have hb1:=hr0.lt;refine gI (λst w'=>∃k:Nat,k<=n.toNat/\st.1=k/\Row w' b [.slice (some ⟨w.heap.size,0,none⟩) n.toNat n.toNat]/\Row w' w.heap.size (OT m n.toNat k)/\∀S,gV w w' S)
   (λst _=>n.toNat - st.1.toNat) ⟨0,by omega,rfl,hr2,hr0.fr (hf2 λ_=>False) (by simp),λS=>(hf1 S).trans (hf2 S) λ_ _ e=>e⟩ ?_
  rintro⟨i,⟨⟩⟩ w3 ⟨k,hk,rfl,hb3,hr3,hf3⟩ next h
  simp only[sx,hb3.cell];by_cases u:k<n.toNat
  ·simp only[u,Int.ofNat_lt,ace,aaU,ab3];refine⟨by omega,by trivial,?_⟩;refine gY hr3 rfl (by rw[aed _ _ _ hk];omega) λw4 hr4 hf4 _=> ?_;rw[aee _ _ _ u] at hr4;have e2:ο.wrap ((k:Int)+1)=((k+1:Nat):Int):=by rw[Α];omega
   rw[e2];refine h _ _ ⟨k+1,by omega,rfl,hb3.fr (hf4 (·=w.heap.size) rfl) (by omega),hr4,λS=>(hf3 S).trans (hf4 (·=w.heap.size) rfl) λx hx e=>by omega⟩ (by omega)
  ·have hk2:k=n.toNat:=by omega
   subst hk2;simp only[Int.lt_irrefl,acQ,aaT];refine⟨hf3,.inl ⟨⟨h1,h2,h3,h4⟩,by trivial,b,w.heap.size,rfl,by omega,by omega,⟨by simpa using hb3,?_,by omega⟩⟩⟩;unfold OT at hr3;simpa using hr3
 ·have key:(bif decide (n<1) then true else bif decide (n>64) then true else bif decide (m<0) then true else decide (m>4096))=true:=by
   simp only[XR] at hn
   grind
  by_cases c1:n<1
  ·simp only[sx,c1,ace];exact⟨λS=>gV.refl _ _,.inr ⟨hn,by trivial,by trivial⟩⟩
  ·by_cases c2:n>64
   ·simp only[sx,c1,c2,ace,acQ];exact⟨λS=>gV.refl _ _,.inr ⟨hn,by trivial,by trivial⟩⟩
   ·by_cases c3:m<0
    ·simp only[sx,c1,c2,c3,ace,acQ];exact⟨λS=>gV.refl _ _,.inr ⟨hn,by trivial,by trivial⟩⟩
    ·have c4:m>4096:=by simp_all
     simp only[sx,c1,c2,c3,c4,ace,acQ];exact⟨λS=>gV.refl _ _,.inr ⟨hn,by trivial,by trivial⟩⟩
theorem aaB {l:List Int} {m:Int} (h:QOk l m) (i:Int):QOk (EU l m i).2 m:=by
 unfold EU;split
 ·split
  ·exact h
  ·rename_i hi hge;refine⟨λx hx=> ?_,h.m0,h.m1,by simpa using h.len⟩;rcases List.mem_or_eq_of_mem_set hx with hx|rfl
   ·exact h.lo x hx
   ·have:=h.lo _ (at_mem hi);omega
 ·exact h
theorem afH {l:List Int} {m:Int} (h:QOk l m) (i:Int):QOk (LK l i).2 m:=by
 unfold LK;split
 ·split
  ·exact h
  ·rename_i hi hge;refine⟨λx hx=> ?_,h.m0,h.m1,by simpa using h.len⟩;rcases List.mem_or_eq_of_mem_set hx with hx|rfl
   ·exact h.lo x hx
   ·have:=h.lo _ (at_mem hi);omega
 ·exact h
end Go.Proofs.QN
end
section
namespace Gp.Wh
structure Tm where
 id:Int
 a:Nat
 tn:Int
deriving DecidableEq
def Lv (now a n:Nat):Prop:=now / 64^(n+1)=a / 64^(n+1)/\(n=0\/now / 64^n≠a / 64^n)
def dg (a n:Nat):Nat:=a / 64^n % 64
theorem wQ (a n:Nat):a / 64^(n+1)=a / 64^n / 64:=by rw[Nat.pow_succ,Nat.div_div_eq_div_mul]
theorem MH {x y n m:Nat} (h:x / 64^n=y / 64^n) (hm:n<=m):x / 64^m=y / 64^m:=by
 obtain⟨k,rfl⟩:=Nat.exists_eq_add_of_le hm;rw[Nat.pow_add,<- Nat.div_div_eq_div_mul,<- Nat.div_div_eq_div_mul,h]
theorem Lv.uniq {now a n m:Nat} (h:Lv now a n) (g:Lv now a m):n=m:=by
 rcases alC n m with hl|hl|hl
 ·exact absurd (MH h.1 hl) (by rcases g.2 with e|e;omega;exact e)
 ·exact hl
 ·exact absurd (MH g.1 hl) (by rcases h.2 with e|e;omega;exact e)
theorem Lv.self (now:Nat):Lv now now 0:=⟨rfl,.inl rfl⟩
theorem aam {a n:Nat} (h:a<=2^40) (hn:7<=n):a / 64^n=0:=by
 refine Nat.div_eq_of_lt (alc ?_ (al6 (by omega) hn));omega
theorem Lv.lt {now a n:Nat} (h:Lv now a n) (h1:now<=2^40) (h2:a<=2^40):n<7:=by
 rcases h.2 with e|e
 ·omega
 ·refine alL λhn=>e ?_;rw[aam h1 (by omega),aam h2 (by omega)]
theorem Lv.dig {now a n:Nat} (h:Lv now a n) (u:now<=a):dg now n<=dg a n/\(0<n->dg now n<dg a n):=by
 have h1:=h.1;rw[wQ,wQ] at h1;have h2:now / 64^n<=a / 64^n:=Nat.div_le_div_right u;unfold dg;refine⟨by omega,λhn=> ?_⟩;rcases h.2 with e|e
 ·omega
 ·omega
theorem XO {x y n:Nat} (h:x / 64^n<y / 64^n):x<y:=by
 refine alL λhx=> ?_;have:=Nat.div_le_div_right (c:=64^n) (Nat.le_of_not_lt hx);omega
theorem Lv.first {now a b n m:Nat} (h:Lv now a n) (g:Lv now b m) (hn:n<m) (hb:now<=b):a<b:=by
 have h1:=MH h.1 (show n+1<=m by omega);have h2:=(g.dig hb).2 (by omega);have g1:=g.1;rw[wQ,wQ] at g1;unfold dg at h2;exact XO (n:=m) (by omega)
theorem Lv.slot {now a b n:Nat} (h:Lv now a n) (g:Lv now b n) (hd:dg a n<dg b n):a<b:=by
 have h1:=h.1;have g1:=g.1;rw[wQ,wQ] at h1 g1;unfold dg at hd;exact XO (n:=n) (by omega)
abbrev Fs:=Nat->Nat->List Tm
abbrev Ps:=Int->Option Tm
def w_ (F:Fs) (n k:Nat) (l:List Tm):Fs:=λn' k'=>if n'=n/\k'=k then l else F n' k'
def GL (P:Ps) (id:Int) (o:Option Tm):Ps:=λid'=>if id'=id then o else P id'
structure WI (now:Nat) (P:Ps) (F:Fs):Prop where
 pl:∀id t,P id=some t->t.id=id/\now<=t.a/\t.a<=2^40
 nw:now<=2^40
 mem:∀n k t,n<7->k<64->(t∈F n k↔P t.id=some t/\Lv now t.a n/\dg t.a n=k)
 nd:∀n k,n<7->k<64->((F n k).map Tm.id).Nodup
variable {now:Nat} {P:Ps} {F:Fs}
theorem BK (a n:Nat):dg a n<64:=aln _ (by omega)
theorem af4 (now a:Nat) (h1:now<=2^40) (h2:a<=2^40):∃n,n<7/\Lv now a n:=by
 have:∀m,now / 64^m=a / 64^m->∃n,n<=m/\Lv now a n:=by
  intro m
  induction m with
  |zero=>intro h;exact⟨0,ai8 _,MH h (by omega),.inl rfl⟩
  |succ m ih=>
   intro h;by_cases e:now / 64^m=a / 64^m
   ·grind
   ·exact⟨m,by omega,h,.inr e⟩
 obtain⟨n,_,hl⟩:=this 7 (by omega);exact⟨n,hl.lt h1 h2,hl⟩
theorem WI.at_ (h:WI now P F) {id:Int} {t:Tm} (ht:P id=some t):∃n,n<7/\Lv now t.a n/\t∈F n (dg t.a n):=by
 obtain⟨g1,g2,g3⟩:=h.pl id t ht;obtain⟨n,hn,hl⟩:=af4 now t.a h.nw g3;exact⟨n,hn,hl,(h.mem n _ t hn (BK _ _)).2 ⟨by simp_all,hl,rfl⟩⟩
theorem WI.take (h:WI now P F) {id:Int} {t:Tm} {n:Nat} (ht:P id=some t) (hl:Lv now t.a n):WI now (GL P id none) (w_ F n (dg t.a n) ((F n (dg t.a n)).filter λx=> !(x.id==id))):=by
 obtain⟨g1,g2,g3⟩:=h.pl id t ht;refine⟨λid' u hu=> ?_,h.nw,λn' k' u hn hk=> ?_,λn' k' hn hk=> ?_⟩
 ·unfold GL at hu;split at hu
  ·cases hu
  ·exact h.pl id' u hu
 ·unfold w_ GL;split
  ·rename_i e;obtain⟨rfl,rfl⟩:=e;rw[alv,h.mem n' _ u hn hk]
   grind
  ·rename_i e;rw[h.mem n' k' u hn hk];by_cases eu:u.id=id
   ·rw[aeH eu];constructor
    ·rintro⟨h1,h2,h3⟩;rw[eu,ht] at h1
     cases h1
     exact absurd ⟨h2.uniq hl,by rw[<- h3,h2.uniq hl]⟩ e
    simp
   simp_all
 ·unfold w_;split
  ·rename_i e;obtain⟨rfl,rfl⟩:=e;exact(h.nd n' _ hn hk).sublist (List.filter_sublist.map _)
  ·exact h.nd n' k' hn hk
theorem WI.put (h:WI now P F) {t:Tm} {n:Nat} (hp:P t.id=none) (h1:now<=t.a) (h2:t.a<=2^40) (hl:Lv now t.a n):WI now (GL P t.id (some t)) (w_ F n (dg t.a n) (F n (dg t.a n)++[t])):=by
 refine⟨λid' u hu=> ?_,h.nw,λn' k' u hn hk=> ?_,λn' k' hn hk=> ?_⟩
 ·unfold GL at hu;split at hu
  ·simp_all
  ·exact h.pl id' u hu
 ·unfold w_ GL;split
  ·rename_i e;obtain⟨rfl,rfl⟩:=e;rw[akX,akU,h.mem n' _ u hn hk]
   grind
  ·rename_i e;rw[h.mem n' k' u hn hk];by_cases eu:u.id=t.id
   ·rw[aeH eu];constructor
    ·simp_all
    ·rintro⟨g1,g2,g3⟩;cases g1;exact absurd ⟨g2.uniq hl,by rw[<- g3,g2.uniq hl]⟩ e
   simp_all
 ·unfold w_;split
  ·rename_i e;obtain⟨rfl,rfl⟩:=e;rw[alz,al4];refine⟨h.nd n' _ hn hk,by simp,λx hx y hy e=> ?_⟩;simp only[ajU,List.map_nil,akU] at hy;subst hy;subst e;obtain⟨u,hu,hx⟩:=akR.1 hx;have:=((h.mem n' _ u hn hk).1 hu).1
   simp_all
  ·exact h.nd n' k' hn hk
theorem WI.next (h:WI now P F) {n k:Nat} {t:Tm} (hn:n<7) (hk:k<64) (e1:∀n' k',n'<n->k'<64->dg now n'<=k'->F n' k'=[]) (e2:∀k',k'<k->dg now n<=k'->F n k'=[])
  (ht:t∈F n k) (hm:∀u∈F n k,t.a<=u.a):P t.id=some t/\now<=t.a/\∀id u,P id=some u->t.a<=u.a:=by
 obtain⟨g1,g2,g3⟩:=(h.mem n k t hn hk).1 ht;refine⟨g1,(h.pl _ _ g1).2.1,λid u hu=> ?_⟩;obtain⟨_,p2,p3⟩:=h.pl id u hu;obtain⟨m,hm7,hl,hmem⟩:=h.at_ hu;rcases alC m n with I|rfl|I
 ·have:=e1 m (dg u.a m) I (BK _ _) (hl.dig p2).1
  simp_all
 ·rcases alC (dg u.a m) k with hd|hd|hd
  ·have:=e2 (dg u.a m) hd (hl.dig p2).1
   simp_all
  ·simp_all
  ·exact Nat.le_of_lt (g2.slot hl (by omega))
 ·exact Nat.le_of_lt (g2.first hl I p2)
theorem WI.none (h:WI now P F) (e1:∀n' k',n'<7->k'<64->dg now n'<=k'->F n' k'=[]) (id:Int):P id=none:=by
 cases hp:P id with
 |none=>rfl
 |some u=>
  obtain⟨m,hm7,hl,hmem⟩:=h.at_ hp;have:=e1 m (dg u.a m) hm7 (BK _ _) (hl.dig (h.pl _ _ hp).2.1).1
  simp_all
theorem WI.low (h:WI now P F) {to m:Nat} (h1:now<=to) (hto:∀id u,P id=some u->to<=u.a) (hm:Lv now to m) {n k:Nat} (hn:n<m) (hn7:n<7) (hk:k<64):F n k=[]:=by
 cases hf:F n k with
 |nil=>rfl
 |cons u r=>
  obtain⟨g1,g2,_⟩:=(h.mem n k u hn7 hk).1 (by rw[hf];simp);have:=g2.first hm hn h1
  grind
def rest (P:Ps) (M:List Tm):Ps:=λid=>match P id with|some t=>if t∈M then none else some t|none=>none
theorem wu {P:Ps} {M:List Tm} {id:Int} {t:Tm}:rest P M id=some t↔P id=some t/\t∉M:=by
 unfold rest
 grind
theorem agv (P:Ps):rest P []=P:=by
 funext id;unfold rest
 cases P id<;>simp
theorem WI.turn (h:WI now P F) {to m:Nat} (h1:now<=to) (h2:to<=2^40) (R:∀id u,P id=some u->to<=u.a) (hm:Lv now to m):
  WI to (rest P (if m=0 then [] else F m (dg to m))) (if m=0 then F else w_ F m (dg to m) []):=by
 have m7:=hm.lt h.nw h2;have low:=λ{n k:Nat}=>h.low (n:=n) (k:=k) h1 R hm;have lvl:∀u n,(∃id,P id=some u)->Lv now u.a n->n<7->(n<m->False)/\(m<n->Lv to u.a n)/\(n=m->(m=0\/dg u.a m≠dg to m)->Lv to u.a n):=by
  rintro u n ⟨id,hu⟩ hl hn7;refine⟨λN=> ?_,λN=> ?_,λe hd=> ?_⟩
  ·have:=(h.mem n (dg u.a n) u hn7 (BK _ _)).2 ⟨by rw[(h.pl _ _ hu).1];exact hu,hl,rfl⟩;rw[low N hn7 (BK _ _)] at this;simp at this
  ·refine⟨?_,.inr ?_⟩
   ·rw[<- hl.1];exact(MH hm.1 (by omega)).symm
   ·rw[<- MH hm.1 (show m+1<=n by omega)];rcases hl.2 with e|e
    ·omega
    ·exact e
  ·subst e;refine⟨?_,?_⟩
   ·rw[<- hl.1];exact hm.1.symm
   ·rcases hd with e|e
    ·exact .inl e
    ·refine .inr λhe=>e ?_;unfold dg;rw[he]
 have back:∀u n,(∃id,P id=some u)->Lv to u.a n->n<7->(m<n->Lv now u.a n)/\(n=m->m=0\/Lv now u.a m):=by
  rintro u n ⟨id,hu⟩ hl hn7;obtain⟨k,hk7,hk⟩:=af4 now u.a h.nw (h.pl _ _ hu).2.2;have:=lvl u k ⟨id,hu⟩ hk hk7;refine⟨λN=> ?_,λe=> ?_⟩
  ·rcases alC k m with J|J|J
   ·exact(this.1 J).elim
   ·by_cases hz:m=0\/dg u.a m≠dg to m
    ·have:=(this.2.2 J hz).uniq hl;omega
    ·exfalso;simp only[not_or,Classical.not_not] at hz;have e1:=hk.1;rw[J] at e1;have e2:to / 64^m=u.a / 64^m:=by
      have e3:=hm.1;rw[wQ,wQ] at e1 e3;unfold dg at hz;omega
     have:=MH e2 (show m<=n by omega);rcases hl.2 with e|e
     ·omega
     trivial
   ·have:=(this.2.1 J).uniq hl;rw[<- this];exact hk
  ·subst e;rcases alC k n with J|J|J
   ·simp_all
   ·simp_all
   ·have:=(this.2.1 J).uniq hl;omega
 refine⟨λid u hu=> ?_,h2,λn k u hn hk=> ?_,λn k hn hk=> ?_⟩
 ·obtain⟨g1,_⟩:=wu.1 hu;exact⟨(h.pl id u g1).1,R id u g1,(h.pl id u g1).2.2⟩
 ·rw[wu];by_cases hz:m=0
  ·rw[aeH hz,aeH hz,h.mem n k u hn hk];constructor
   ·rintro⟨g1,g2,g3⟩;refine⟨⟨g1,by simp⟩,?_,g3⟩;rcases alC n m with I|I|I
    ·omega
    ·exact(lvl u n ⟨_,g1⟩ g2 hn).2.2 I (.inl hz)
    ·exact(lvl u n ⟨_,g1⟩ g2 hn).2.1 I
   ·rintro⟨⟨g1,_⟩,g2,g3⟩;refine⟨g1,?_,g3⟩;rcases alC n m with I|I|I
    ·omega
    ·subst I;subst hz;refine⟨?_,.inl rfl⟩;rw[hm.1];exact g2.1
    ·exact(back u n ⟨_,g1⟩ g2 hn).1 I
  ·rw[ada hz,ada hz];have inM:∀u,u∈F m (dg to m)↔P u.id=some u/\Lv now u.a m/\dg u.a m=dg to m:=λu=>h.mem m _ u m7 (BK _ _);unfold w_;split
   ·grind
   ·rename_i U;rw[h.mem n k u hn hk];constructor
    ·rintro⟨g1,g2,g3⟩;have O:u∉F m (dg to m):=λhx=>by
      obtain⟨_,q2,q3⟩:=(inM u).1 hx;have:=g2.uniq q2
      simp_all
     refine⟨⟨g1,O⟩,?_,g3⟩;rcases alC n m with I|I|I
     ·exact((lvl u n ⟨_,g1⟩ g2 hn).1 I).elim
     ·refine(lvl u n ⟨_,g1⟩ g2 hn).2.2 I (.inr λe=>U ⟨I,?_⟩)
      simp_all
     ·exact(lvl u n ⟨_,g1⟩ g2 hn).2.1 I
    ·rintro⟨⟨g1,g2⟩,g3,g4⟩;refine⟨g1,?_,g4⟩;rcases alC n m with I|I|I
     ·exfalso;obtain⟨j,hj7,hj⟩:=af4 now u.a h.nw (h.pl _ _ g1).2.2;have:=lvl u j ⟨_,g1⟩ hj hj7;rcases alC j m with q|q|q
      ·simp_all
      ·by_cases hd:dg u.a m=dg to m
       ·simp_all
       ·have:=(this.2.2 q (.inr hd)).uniq g3;omega
      ·have:=(this.2.1 q).uniq g3;omega
     ·rcases(back u n ⟨_,g1⟩ g3 hn).2 I with e|e
      ·exact absurd e hz
      ·rw[I];exact e
     ·exact(back u n ⟨_,g1⟩ g3 hn).1 I
 ·by_cases hz:m=0
  ·rw[aeH hz];exact h.nd n k hn hk
  ·rw[ada hz];unfold w_;split
   ·simp
   ·exact h.nd n k hn hk
theorem aei {P:Ps} {t:Tm} {M:List Tm} (hp:P t.id=some t) (hid:∀id u,P id=some u->u.id=id) (ht:t∉M):GL (rest P (t::M)) t.id (some t)=rest P M:=by
 funext id;unfold GL;split
 ·rename_i e;subst e;exact(wu.2 ⟨hp,ht⟩).symm
 ·rename_i e;unfold rest
  grind
theorem WI.acH (h:WI now P F) {t:Tm}:t∈F 0 (dg now 0)↔P t.id=some t/\t.a=now:=by
 rw[h.mem 0 _ t (by omega) (BK _ _)];constructor
 ·rintro⟨h1,h2,h3⟩;refine⟨h1,?_⟩;have:=h2.1;unfold dg at h3;omega
 ·rintro⟨h1,h2⟩;rw[h2];exact⟨h1,Lv.self now,rfl⟩
theorem WI.due (h:WI now P F):WI now (rest P (F 0 (dg now 0))) (w_ F 0 (dg now 0) []):=by
 refine⟨λid u hu=>h.pl id u (wu.1 hu).1,h.nw,λn k u hn hk=> ?_,λn k hn hk=> ?_⟩
 ·rw[wu];unfold w_;split
  ·rename_i e;obtain⟨rfl,rfl⟩:=e;constructor
   ·simp
   ·rintro⟨⟨g1,g2⟩,g3,g4⟩;exact(g2 ((h.mem 0 _ u hn hk).2 ⟨g1,g3,g4⟩)).elim
  ·rename_i hne;rw[h.mem n k u hn hk];constructor
   ·rintro⟨g1,g2,g3⟩;refine⟨⟨g1,λhx=> ?_⟩,g2,g3⟩;obtain⟨_,q2,q3⟩:=(h.mem 0 _ u (by omega) (BK _ _)).1 hx;have:=g2.uniq q2
    simp_all
   simp_all
 ·unfold w_;split
  ·simp
  ·exact h.nd n k hn hk
end Gp.Wh
end
section
namespace Go.Proofs.WN
open Gp Gp.Wh
abbrev eT (t:Tm):List Value:=[Β t.id,Β (t.a:Int),Β t.tn]
theorem pI (t:Tm):(eT t).length=3:=rfl
theorem Yy (t:Tm):∀v∈eT t,iI v=true:=by
 intro v hv;simp only[eT,agN,ajH,akL] at hv;rcases hv with rfl|rfl|rfl<;>rfl
theorem j_ {f:FuncId} {cap:Array Value} {sh:List Shape} {args:List Value} {w:θ} {K:Value->b_} (hb:oI υ f=true) (h:Hz υ sh f (args++cap.toList) w K):
  jy υ sh (.func (.func f) #[] cap) args w K:=by
 unfold jy;simp only[hb,aaU];exact h
theorem SlN_ix {α:Type} {n:Nat} {f:α->List Value} {w:θ} {s:fU} {xs:List α} (hn:∀x,(f x).length=n) (hn0:0<n) (h:lK n f w s xs) {i:Int} {K:Addr->Prop} {x:α} (h0:0<=i) (hx:xs[i.toNat]? =some x)
  (hK:∀a:Addr,(∀j v,(f x)[j]? =some v->w.cell? (a.add j)=some v)->K a):iE s n i K:=by
 obtain⟨a,ha,hc⟩:=h.at_ hn hn0 hx;have hlt:=(aeK.1 hx).1;obtain⟨sa,sl,sc⟩:=s;simp only at ha;subst ha;have hl:sl=xs.length:=h.len;refine(Az ..).2 ⟨h0,by omega,hK _ λj v hj=> ?_⟩;rw[<- hc j v hj];congr 1;obtain⟨b,o,t⟩:=a;unfold Addr.add;by_cases h1:i.toNat * n=0<;>by_cases h2:j=0<;>simp[h1,h2,alD]
theorem Xp {w:θ} {s:fU} {l:List Tm} (h:lK 3 eT w s l) {k:Nat} {z:Tm} (hk:l[k]? =some z) {K:Addr->Prop} (hK:∀a,w.cell? (a.add 0)=some (Β z.id)->w.cell? (a.add 1)=some (Β (z.a:Int))->w.cell? (a.add 2)=some (Β z.tn)->K a):iE s 3 (k:Int) K:=
 SlN_ix pI (by omega) h (by omega) (by trivial) λa hc=>hK a (hc 0 _ rfl) (hc 1 _ rfl) (hc 2 _ rfl)
theorem Og (a:Int) (w:θ):mD a w λr w'=>r=false/\w'=w:=by
 apply EG;simp
def Yt (a b:Int):Int:=if a<b then -1 else if a>b then 1 else 0
theorem TL (a b:Int) (w:θ):rF a b w λr w'=>r=Yt a b/\w'=w:=by
 apply MX;refine cmS0 (Og _ _) ?_;rintro r w1 ⟨rfl,hw⟩;subst hw;refine cmS0 (Og _ _) ?_;rintro r w1 ⟨rfl,hw⟩;subst hw;unfold Yt;by_cases h1:a<b
 ·simp only[h1,ace,aaU,aaT,aiS];trivial
 ·by_cases h2:a>b
  ·simp only[h1,h2,ace,acQ,aaU,aaT,aiS,ajY];trivial
  ·simp only[h1,h2,acQ,aaT,ajY];trivial
def FnT (v:Value) (C:b_) (p:Tm->Bool):Prop:=∀x W (K:Value->b_),C W->(∀W',Ext W W'->K (.bool (p x)) W')->jy υ [.one .bool] v [.agg ⟨eT x⟩] W K
theorem nR {w:θ} {s:fU} {xs:List Tm} (hs:lK 3 eT w s xs) (hl:xs.length<=2^30):
  jP s w λr w'=>Ext w w'/\iQ 3 eT w' r xs/\∀b,fU.at r b->w.heap.size<=b:=by
 apply rX;have hlen:=hs.len
 cases ha:s.a with
 |none=>
  have hc:=hs.cells;rw[ha] at hc;have h0:=hc;have u:=iU eT 3 pI xs;rw[h0] at u;have:xs=[]:=by
   cases xs with
   |nil=>rfl
   |cons _ _=>trivial
  subst this;simp only[amu,aaU];exact⟨Ext.refl _,iQ.nil,λb ⟨o,hb⟩=>by cases hb⟩
 |some a=>
  simp only[al5,aaT];refine gy λt w1 rt et zt f1=> ?_;have hb:iQ 3 eT w1 ⟨some ⟨t,0,none⟩,0,0⟩ ([]:List Tm):=iQ.row (xs:=[]) rt;refine lJ pI hb (hs.ext f1) rfl (by omega) Yy (by grind) (by grind) λs' w' h1 h2 h3=> ?_;refine⟨f1.new h2 λb hb ⟨o,he⟩=>by simp_all,h1,λb hb=> ?_⟩;rcases h3 b hb with ⟨o,he⟩|h
  ·simp_all
  ·omega
theorem ajf {w:θ} {s:fU} {xs:List Tm} {v:Value} {p:Tm->Bool} {C:b_} (hs:lK 3 eT w s xs) (hl:xs.length<=2^30) (hp:FnT v C p) (hC:∀W,Ext w W->C W):
  jA s v w λr w'=>((r= -1/\xs.any p=false)\/∃j:Nat,r=(j:Int)/\j<xs.length/\(xs.take j).any p=false/\(xs.take (j+1)).filter (λx=> !p x)=xs.take j)/\Ext w w':=by
 apply pV;have hlen:=hs.len;refine gI (λst W=>∃j:Nat,j<=xs.length/\st.1=(j:Int)/\Ext w W/\(xs.take j).any p=false) (λst _=>(s.len - st.1).toNat) ⟨0,by omega,rfl,Ext.refl _,by simp⟩ ?_;rintro⟨i,⟨⟩⟩ W ⟨j,hj,hi,hx,hm⟩ next h
 simp only at hi;subst hi;by_cases I:(j:Int)<(s.len:Int)
 ·simp only[I,ace,aaU];have u:=ade (show j<xs.length by omega);generalize xs[j]=x at u;have htk:xs.take (j+1)=xs.take j++[x]:=by rw[aly,u];rfl
  refine Xp (hs.ext hx) u λa c0 c1 c2=> ?_;simp only[sx,c0,c1,c2];refine hp x W _ (hC W hx) λW' hf=>⟨p x,rfl,?_⟩
  cases he:p x
  ·simp only[aaT];rw[Α];refine h _ _ ⟨j+1,by omega,by simp,hx.trans hf,?_⟩ (by omega)
   simp_all
  ·simp only[aaU];refine⟨.inr ⟨j,rfl,by omega,hm,?_⟩,hx.trans hf⟩
   simp_all
 ·simp only[I,acQ,aaT]
  grind
theorem adg {w:θ} {b o n c:Nat} {L:List Value} {K:b_} (hr:Row w b L) (ho:o+n * 3<=L.length) (hK:∀w',Row w' b (spl L o (gX amT n))->gV w w' (·=b)->K w'):JE amT ⟨some ⟨b,o,none⟩,n,c⟩ w K:=by
 have hrl:(gX [Β 0,Β 0,Β 0] n).length=n * 3:=by rw[nG];rfl
 refine⟨?_,by trivial,?_⟩
 ·rintro a ha
  cases ha
  intro j hj;simp only[aiQ,alU] at hj;rw[gJ,hr.cell];exact⟨by simp;omega,hr.frozen _⟩
 ·obtain⟨r,f⟩:=wZ (gX [Β 0,Β 0,Β 0] n) w L o 0 hr (by omega);refine hK _ ?_ (f (·=b) rfl);simpa [spl] using r
theorem Yv {w:θ} {s:fU} {xs:List Tm} {v:Value} {p:Tm->Bool} {C:b_} (hs:iQ 3 eT w s xs) (hl:xs.length<=2^30) (hp:FnT v C p) (hC:∀W,gV w W (fU.at s)->C W):
  iJ s v w λr w'=>iQ 3 eT w' r (xs.filter λx=> !p x)/\gV w w' (fU.at s)/\∀b,fU.at r b->fU.at s b:=by
 apply pU;have hlen:=hs.len;have af:=hs.sl pI (by omega);have Z:=af.cap;refine cmS1 (ajf af hl hp λW hx=>hC W (hx _)) ?_;rintro r w1 ⟨h,x1⟩;have hs1:=hs.ext x1;rcases h with ⟨rfl,hno⟩|⟨i0,rfl,hi0,hany,aa⟩
 ·rw[show ((-1:Int)== -1)=true from rfl,aaU];refine⟨?_,x1 _,λb hb=>hb⟩;rw[amK.2 (λy hy=>by simp_all)];exact hs1
 rw[show ((i0:Int)== -1)=false from ama.2 (by omega),aaT];obtain⟨b,pad,ha,hc,hr⟩:∃b pad,s.a=some ⟨b,0,none⟩/\s.cap * 3=xs.length * 3+pad.length/\Row w1 b (xs.flatMap eT++pad):=by
  rcases hs1.mem with ⟨_,h,_⟩|h
  ·simp_all
  ·exact h
 obtain⟨sa,sl,sc⟩:=s;simp only at ha hc hlen Z;subst ha;subst hlen;rw[Α];have ag:∀{W},gV w1 W (·=b)->gV w W (fU.at ⟨some ⟨b,0,none⟩,xs.length,sc⟩):=λhf=>(x1 _).trans (hf.mono λc hc=>⟨0,by rw[hc]⟩) λ_ _ h=>h;have fl3:=λys=>iU eT 3 pI ys;refine gI (λst W=>∃j:Nat,j<=xs.length/\st.2.1=(j:Int)/\st.1=(((xs.take j).filter λx=> !p x).length:Int)/\((xs.take j).filter λx=> !p x).length<j/\gV w1 W (·=b)/\∃mid,mid.length=(j - ((xs.take j).filter λx=> !p x).length) * 3/\Row W b (((xs.take j).filter λx=> !p x).flatMap eT++(mid++((xs.drop j).flatMap eT++pad))))
  (λst _=>(xs.length - st.2.1).toNat) ⟨i0+1,by omega,by simp,by grind,by grind,gV.refl _ _,?_⟩ ?_
 ·rw[aa,ajT,alH (by omega)];refine⟨eT xs[i0],by simp,?_⟩;have:xs.flatMap eT=(xs.take i0).flatMap eT++(eT xs[i0]++(xs.drop (i0+1)).flatMap eT):=by
   conv=>lhs;rw[<- ajS i0 xs,alI hi0,alh,ak0]
  rw[this] at hr;simpa only [akc] using hr
 rintro⟨i',j',⟨⟩⟩ W ⟨j,hj,hj1,hi1,hij,hf,mid,N,O⟩ next I
 simp only at hj1 hi1;subst hj1 hi1;generalize ab:(xs.take j).filter (λx=> !p x)=kp at *;by_cases ah:(j:Int)<(xs.length:Int)
 ·rw[aeJ ah,aaU];intro J;have hx:=ade (show j<xs.length by omega);have ai:=alI (show j<xs.length by omega);generalize xs[j]=x at hx ai;have htk:xs.take (j+1)=xs.take j++[x]:=by grind
  rw[ai,ak0] at O;have u:∀m,m<3->W.cell? ⟨b,j * 3+m,none⟩=(eT x)[m]? :=by
   intro m hm;rw[O.cell,akQ (by grind),akQ (by grind),fl3,N,show j * 3+m - kp.length * 3 - (j - kp.length) * 3=m by omega,akc,alk (by trivial)]
  have q0:=u 0 (by omega);have q1:=u 1 (by omega);have q2:=u 2 (by omega);simp only[aki,eT,d_] at q0 q1 q2;refine(Az _ xs.length sc _ (j:Int) _).2 ⟨by omega,by omega,?_⟩;rw[gJ,ahO,ab3];simp -zeta only[sx,q0,q1,q2];refine DJ rfl rfl λz w2 r2 e2 z2 f2=> ?_;simp -zeta only[sx,r2.cell];have hf2:=hf.ext f2;refine hp x w2 _ (hC w2 (ag hf2)) λw3 f3=>⟨p x,rfl,?_⟩;have hf3:=hf2.ext f3;have r3:=r2.ext f3;have R:=(O.ext f2).ext f3
  cases he:p x
  ·rw[afa,aaU];simp -zeta only[d_,f_,gq,r3.cell];have Y:(xs.take (j+1)).filter (λx=> !p x)=kp++[x]:=by simp_all
   refine⟨by omega,by omega,?_⟩;rw[ab3];refine RP (eT x) w3 _ (kp.length * 3) 0 R (Yy x) (by grind) λW2 rr2 g2 zz2=> ?_;obtain⟨m0,m1,aj,hm0⟩:∃m0 m1,mid=m0++m1/\m0.length=3:=⟨mid.take 3,mid.drop 3,(ajS ..).symm,by simp_all;omega⟩;subst aj;have ak:∀(A B C D:List Value),B.length=3->A.length=kp.length * 3->(A++(B++C++D)).take (kp.length * 3+0)++eT x++(A++(B++C++D)).drop (kp.length * 3+0+(eT x).length)=A++(eT x++(C++D)):=by
    intro A B C D hB hA;rw[aki,<- hA,List.take_left' rfl,pI,<- hB,<- List.drop_drop,List.drop_left' rfl,akc B,List.drop_left' rfl,akc]
   rw[ak _ _ _ _ hm0 (fl3 kp)] at rr2;simp only[J];rw[Α,Α];rw[ahY,hm0] at N;refine I _ _ ⟨j+1,by omega,by simp,by simp_all,by simp_all,hf3.trans (g2 (·=b) rfl) λ_ _ e=>e,m1++eT x,by simp_all;omega,?_⟩ (by grind);rw[Y,alh];simpa [akc] using rr2
  ·rw[adp,aaT];have Y:(xs.take (j+1)).filter (λx=> !p x)=kp:=by simp_all
   simp only[J];rw[Α];refine I _ _ ⟨j+1,by omega,by simp,by rw[Y],by grind,hf3,mid++eT x,by grind,?_⟩ (by grind);rw[Y];simpa only [akc] using R
 ·rw[adn ah,aaT];have am:j=xs.length:=by omega
  subst am;rw[akY] at ab;rw[List.drop_length,List.flatMap_nil,alJ] at O;refine⟨by omega,by grind,by simp_all,?_⟩;simp only[ab3];have an:sc≠kp.length:=by omega
  have ac:qU (some (⟨b,0,none⟩:Addr)) sc kp.length 3=some ⟨b,kp.length * 3,none⟩:=by
   unfold qU;rw[ada an,ag4,gJ,ahO]
  rw[ac];refine adg O (by simp_all) λW2 r2 g2=> ?_;have hrl:(gX [Β 0,Β 0,Β 0] (xs.length - kp.length)).length=(xs.length - kp.length) * 3:=by rw[nG];rfl
  have ae:spl (kp.flatMap eT++(mid++pad)) (kp.length * 3) (gX [Β 0,Β 0,Β 0] (xs.length - kp.length))=kp.flatMap eT++(gX [Β 0,Β 0,Β 0] (xs.length - kp.length)++pad):=by
   have:=Ko (A:=kp.flatMap eT) (B:=mid) (C:=pad) (vs:=gX [Β 0,Β 0,Β 0] (xs.length - kp.length)) (by omega)
   simp_all
  rw[ae] at r2;refine⟨by trivial,by omega,by grind,?_⟩;have U:qU (some (⟨b,0,none⟩:Addr)) sc 0 3=some ⟨b,0,none⟩:=by
   unfold qU;split<;>simp[Addr.add]
  simp only[ab3,al_,alN,U];refine⟨⟨by rw[ab],.inr ⟨b,gX [Β 0,Β 0,Β 0] (xs.length - kp.length)++pad,rfl,?_,?_⟩⟩,ag (hf.trans g2 λ_ _ e=>e),λc hc=> ?_⟩
  ·grind
  ·rw[ab];exact r2
  ·obtain⟨o,e⟩:=hc;exact⟨o,e⟩
theorem ajs {w:θ} {s:fU} {xs:List Tm} (hs:lK 3 eT w s xs) (hl:xs.length<=2^30) (R:xs≠[]):
  jK s (Value.func (.func IV) #[] #[]) w λr0 r1 r2 w'=>Ext w w'/\∃t∈xs,r1=(t.a:Int)/\∀u∈xs,t.a<=u.a:=by
 apply qQ;have hlen:=hs.len;have N:=List.length_pos_iff.2 R;refine gy λp4 w1 r1 e1 z1 f1=> ?_;rw[adn (by omega),aaT];have hx0:=ade N;generalize xs[0]=x0 at hx0;refine Xp (hs.ext f1) hx0 λa c0 c1 c2=> ?_;simp -zeta only[sx,c0,c1,c2];refine DJ rfl rfl λpm w2 r2 e2 z2 f2=> ?_;have x2:=f1.trans f2;have z1':=f2.size;refine gI (λst W=>∃j:Nat,j<=xs.length/\st.1=(j:Int)/\gV w2 W (·=pm)/\∃t∈xs,Row W pm (eT t)/\∀u∈xs.take j,t.a<=u.a) (λst _=>(s.len - st.1).toNat)
  ⟨1,by omega,rfl,gV.refl _ _,x0,akK hx0,r2,λu hu=> ?_⟩ ?_
 ·obtain⟨k,hk,he⟩:=amv.1 hu
  grind
 rintro⟨i,⟨⟩⟩ W ⟨j,hj,hi,hf,t,ht,rt,I⟩ next h
 simp only at hi;subst hi;have xW:=x2.new hf λy hy e=>by omega
 by_cases O:(j:Int)<(s.len:Int)
 ·rw[aeJ O,aaU];intro J;have hx:=ade (show j<xs.length by omega);generalize xs[j]=x at hx;have htk:xs.take (j+1)=xs.take j++[x]:=by rw[aly,hx];rfl
  have xWd:=xW.trans (Ext.drew W);refine Xp (hs.ext xW) hx λa c0 c1 c2=> ?_;have rtd:=rt.drew;have d0:W.drew.cell? (a.add 0)=_:=c0;have d1:W.drew.cell? (a.add 1)=_:=c1;have d2:W.drew.cell? (a.add 2)=_:=c2;simp -zeta only[sx,d0,d1,d2,rtd.cell];refine j_ (by kernel_rfl) ?_;have call:zu x.id x.a x.tn t.id t.a t.tn W.drew λr W'=>r=Yt (x.a:Int) (t.a:Int)/\Ext W.drew W':=by
   apply Ht;refine gy λp W1 q1 _ _ g1=>gy λp' W2 q2 _ _ g2=> ?_;have q1:=q1.ext g2;simp only[sx,q1.cell,q2.cell];refine cmS1 (TL _ _ _) ?_;rintro r W3 ⟨rfl,hw⟩;subst hw;exact⟨rfl,g1.trans g2⟩
  refine Calls.mono call ?_;rintro e W3 ⟨r,he,rfl,g3⟩;refine⟨_,he,_,rfl,?_⟩;have hf3:=(hf.ext (Ext.drew W)).ext g3;have xW3:=xWd.trans g3;have rt3:=rtd.ext g3;by_cases hc:x.a<t.a
  ·have hc1:Yt (x.a:Int) (t.a:Int)<0:=by unfold Yt;omega
   rw[aeJ hc1,aaU];refine Xp (hs.ext xW3) hx λa c0 c1 c2=> ?_;simp -zeta only[c0,c1,c2,f_,gq];refine gU rt3 rfl rfl λW4 r4 g4 z4=> ?_;simp only[J];rw[Α];refine h _ _ ⟨j+1,by omega,by simp,hf3.trans (g4 (·=pm) rfl) λ_ _ e=>e,x,akK hx,r4,λu hu=> ?_⟩ (by omega)
   grind
  ·have hc1:¬Yt (x.a:Int) (t.a:Int)<0:=by
    unfold Yt;omega
   rw[adn hc1,aaT];simp only[J];rw[Α];refine h _ _ ⟨j+1,by omega,by simp,hf3,t,ht,rt3,λu hu=> ?_⟩ (by omega)
   grind
 ·rw[adn O,aaT];rw[akM (by omega)] at I;simp only[sx,rt.cell];have r1W:=(r1.ext f2).fr hf (by omega);refine gU r1W rfl rfl λW4 r4 g4 z4=> ?_;simp only[d_,f_,gq,r4.cell];exact⟨xW.new (g4 (·=p4) rfl) λy hy e=>by omega,t,ht,by trivial,I⟩
end Go.Proofs.WN
end
