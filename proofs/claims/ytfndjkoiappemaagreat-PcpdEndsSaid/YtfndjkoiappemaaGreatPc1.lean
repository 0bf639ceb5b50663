import Derived.Test.YtfndjkoiappemaaGreatW8
namespace Gp.Cfg
theorem nH {α:Type} {l:List α}:l.Nodup↔∀(i:Nat) x,l[i]? =some x->x∉l.take i:=by
 unfold List.Nodup
 rw [List.pairwise_iff_getElem]
 constructor
 ·intro h i x hx hm
  obtain⟨hi,rfl⟩:=List.getElem?_eq_some_iff.1 hx
  obtain⟨j,hj,he⟩:=List.mem_take_iff_getElem.1 hm
  exact h j i (by omega) hi (by omega) he
 ·intro h i j hi hj hlt he
  exact h j l[j] (List.getElem?_eq_getElem hj) (List.mem_take_iff_getElem.2 ⟨i,by omega,he⟩)
theorem zH {α:Type} {l:List α} {a:α}:(l++[a]).Nodup↔l.Nodup/\a∉l:=by
 rw [List.nodup_append]
 constructor
 ·rintro⟨h1,_,h3⟩
  exact⟨h1,fun hm=>h3 a hm a (by simp) rfl⟩
 ·rintro⟨h1,h2⟩
  exact⟨h1,by simp,fun x hx y hy e=>by simp only [List.mem_singleton] at hy;subst hy;subst e;exact h2 hx⟩
theorem DY {α β:Type} {f:α->β} {l:List α}:(l.map f).Nodup↔∀(i:Nat) x,l[i]? =some x->∀y∈l.take i,f y≠f x:=by
 rw [nH]
 constructor
 ·intro h i x hx y hy he
  refine h i (f x) (by rw [List.getElem?_map,hx];rfl) ?_
  rw [<- List.map_take]
  exact List.mem_map.2 ⟨y,hy,he⟩
 ·intro h i x hx hm
  rw [List.getElem?_map] at hx
  cases hl:l[i]? with
  |none=>rw [hl] at hx;cases hx
  |some z=>
   rw [hl] at hx
   simp only [Option.map_some,Option.some.injEq] at hx
   subst hx
   rw [<- List.map_take] at hm
   obtain⟨y,hy,he⟩:=List.mem_map.1 hm
   exact h i z hl y hy he
theorem take_snoc {α:Type} {l:List α} {i:Nat} {x:α} (h:l[i]? =some x):l.take (i+1)=l.take i++[x]:=by
 rw [List.take_add_one,h];rfl
theorem YP {α:Type} (sw:α->Int) {l:List α} {n:Nat} {q:Int} (hq:1<=q) (hr:∀x∈l,0<=sw x/\sw x<(n:Int)):
  (∀k:Nat,k<n->((l.countP fun y=>sw y==(k:Int):Nat):Int)<=q)↔∀(i:Nat) x,l[i]? =some x->1+(((l.take i).countP fun y=>sw y==sw x:Nat):Int)<=q:=by
 constructor
 ·intro h i x hx
  have hm:=hr x (List.mem_of_getElem? hx)
  have:=h (sw x).toNat (by omega)
  rw [show (((sw x).toNat:Nat):Int)=sw x by omega] at this
  have hs:(l.take (i+1)).countP (fun y=>sw y==sw x)<=l.countP fun y=>sw y==sw x:=(List.take_sublist _ _).countP_le
  rw [take_snoc hx,List.countP_append] at hs
  simp only [List.countP_singleton,beq_self_eq_true,if_true] at hs
  omega
 ·intro h k _
  have key:∀m:Nat,m<=l.length->(((l.take m).countP fun y=>sw y==(k:Int):Nat):Int)<=q:=by
   intro m
   induction m with
   |zero=>intro _;simp;omega
   |succ m ih=>
    intro hm
    have hx:=List.getElem?_eq_getElem (show m<l.length by omega)
    rw [take_snoc hx,List.countP_append,List.countP_singleton]
    have h1:=h m _ hx
    have h2:=ih (by omega)
    by_cases he:sw l[m]=(k:Int)
    ·rw [he] at h1
     rw [if_pos (by simpa using he)]
     omega
    ·rw [if_neg (by simpa using he)]
     omega
  have:=key l.length (Nat.le_refl _)
  rwa [List.take_length] at this
structure Fine {α β γ:Type} (fi:α->β) (fo:α->γ) (sw:α->Int) (q:Int) (l:List α) (i:Nat) (x:α):Prop where
 one:∀y∈l.take i,fi y≠fi x/\fo y≠fo x
 few:1+(((l.take i).countP fun y=>sw y==sw x:Nat):Int)<=q
theorem Uw {α β γ:Type} {fi:α->β} {fo:α->γ} (sw:α->Int) {l:List α} {n:Nat} {q:Int} (hq:1<=q) (hr:∀x∈l,0<=sw x/\sw x<(n:Int)):
  (∀(i:Nat) x,l[i]? =some x->Fine fi fo sw q l i x)↔((l.map fi).Nodup/\(l.map fo).Nodup/\∀k:Nat,k<n->((l.countP fun y=>sw y==(k:Int):Nat):Int)<=q):=by
 rw [DY,DY,YP sw hq hr]
 constructor
 ·intro h
  exact⟨fun i x hx y hy=>((h i x hx).one y hy).1,fun i x hx y hy=>((h i x hx).one y hy).2,fun i x hx=>(h i x hx).few⟩
 ·rintro⟨h1,h2,h3⟩ i x hx
  exact⟨fun y hy=>⟨h1 i x hx y hy,h2 i x hx y hy⟩,h3 i x hx⟩
end Gp.Cfg
namespace Go.Proofs.CN
open Gp
set_option maxRecDepth 100000
abbrev eI (x:Int):List Value:=[.int .i64 x]
theorem jB (x:Int):(eI x).length=1:=rfl
theorem jg {α:Type} {n:Nat} {f:α->List Value} {w:World} {s:b_} {xs:List α} (hn:∀x,(f x).length=n) (hn0:0<n) (h:kH n f w s xs) {i:Int} {K:Addr->Prop} {x:α} (h0:0<=i) (hx:xs[i.toNat]? =some x)
  (hK:∀a:Addr,(∀j v,(f x)[j]? =some v->w.cell? (a.add j)=some v)->K a):g_ s n i K:=by
 obtain⟨a,ha,hc⟩:=h.at_ hn hn0 hx
 have hlt:=(List.getElem?_eq_some_iff.1 hx).1
 obtain⟨sa,sl,sc⟩:=s
 simp only at ha
 subst ha
 have hl:sl=xs.length:=h.len
 refine(BR ..).2 ⟨h0,by omega,hK _ fun j v hj=> ?_⟩
 rw [<- hc j v hj]
 congr 1
 obtain⟨b,o,t⟩:=a
 unfold Addr.add
 by_cases h1:i.toNat * n=0<;>by_cases h2:j=0<;>simp [h1,h2,Nat.add_assoc]
def idx {α:Type} (xs:List α) (x:α) (r:Int):Prop:=(∃i:Nat,r=(i:Int)/\xs[i]? =some x/\x∉xs.take i)\/(r= -1/\x∉xs)
theorem acS {α:Type} {xs:List α} {x:α} {r:Int} (h:idx xs x r):r>=0↔x∈xs:=by
 rcases h with ⟨i,rfl,h1,_⟩|⟨rfl,h1⟩
 ·exact⟨fun _=>List.mem_of_getElem? h1,fun _=>by omega⟩
 ·exact⟨fun h=>by omega,fun h=>absurd h h1⟩
theorem Zb {w:World} {s:b_} {xs:List Int} (hs:kH 1 eI w s xs) (hl:s.len<=2^62) (x:Int):jP s x w fun r w'=>idx xs x r/\w'=w:=by
 apply BJ
 refine fE (fun st W=>∃j:Nat,j<=xs.length/\st.1=(j:Int)/\W=w/\x∉xs.take j) (fun st _=>(s.len - st.1).toNat) ⟨0,by omega,rfl,rfl,by simp⟩ ?_
 rintro⟨i,⟨⟩⟩ W ⟨j,hj,hi,hw,hm⟩ next hnext
 simp only at hi
 subst hi;subst hw
 have hlen:=hs.len
 by_cases hlt:(j:Int)<(s.len:Int)
 ·simp only [hlt,decide_true,cond_true]
  have hx:=List.getElem?_eq_getElem (show j<xs.length by omega)
  refine jg jB (by omega) hs (by omega) (by rw [Int.toNat_natCast];exact hx) fun a hc=> ?_
  have c0:=hc 0 _ rfl
  rw [show a.add 0=a from rfl] at c0
  simp only [sx,c0]
  by_cases he:x=xs[j]
  ·rw [show (x==xs[j])=true by simpa using he,cond_true]
   exact⟨.inl ⟨j,rfl,by rw [hx,<- he],hm⟩,by trivial⟩
  ·rw [show (x==xs[j])=false by simpa using he,cond_false]
   rw [wrap_i64 (by omega) (by omega)]
   refine hnext _ _ ⟨j+1,by omega,by simp,rfl,?_⟩ (by simp only;omega)
   rw [Gp.Cfg.take_snoc hx,List.mem_append,List.mem_singleton]
   exact fun h=>h.elim hm he
 ·simp only [hlt,decide_false,cond_false]
  refine⟨.inr ⟨rfl,?_⟩,by trivial⟩
  rwa [List.take_of_length_le (by omega)] at hm
theorem Aj {w:World} {s:b_} {xs:List Int} (hs:kH 1 eI w s xs) (hl:s.len<=2^62) (x:Int):gZ s x w fun r w'=>r=decide (x∈xs)/\w'=w:=by
 apply zn
 refine BF (Zb hs hl x) ?_
 rintro r w' ⟨h,hw⟩
 exact⟨by simp only [decide_eq_decide];exact acS h,hw⟩
def kX (a:Int):Prop:=16777216<=a/\a<3758096384/\a / 16777216≠127
instance (a:Int):Decidable (kX a):=inferInstanceAs (Decidable (_/\_/\_))
theorem QS {a:Int} (h:0<=a) (h2:a<4294967296):XM a↔kX a:=by
 obtain⟨n,rfl⟩:∃n:Nat,a=(n:Int):=⟨a.toNat,by omega⟩
 unfold XM kX
 rw [show (0:Int)=((0:Nat):Int) from rfl,show (2130706432:Int)=((2130706432:Nat):Int) from rfl,show (3758096384:Int)=((3758096384:Nat):Int) from rfl,
  show (24:Int)=((24:Nat):Int) from rfl,show (29:Int)=((29:Nat):Int) from rfl,CG (by omega),CG (by omega),CG (by omega),CG (by omega),CG (by omega)]
 simp only [Qb,decide_eq_false_iff_not]
 omega
theorem yL (a:Int) (w:World):ny a w fun r w'=>r=decide (kX a)/\Ext w w':=by
 by_cases hA:XM a
 ·refine vV (abZ hA w) ?_
  rintro _ w' ⟨rfl,hf⟩
  exact⟨(decide_eq_true ((QS hA.1 hA.2.1).1 hA)).symm,hf⟩
 apply JW
 refine Bg (xP a _) ?_
 rintro _ w' ⟨rfl,hw⟩
 subst hw
 by_cases hr:0<=a/\a<4294967296
 ·have hF:¬kX a:=fun h=>hA ((QS hr.1 hr.2).2 h)
  simp only [hr,and_self,decide_true,Bool.not_true,cond_false]
  refine fK fun t w1 r1 e1 z1 f1=> ?_
  refine LU (K:=fun r w2=>r=true/\Ext w1 w2) ?_ ?_
  ·apply Lj
   refine fE (fun st W=>∃j:Nat,j<=3/\st.1=(j:Int)/\Ext w1 W/\(0<j->(jU .i64 a 24==jU .i64 0 24)=false)/\(1<j->(jU .i64 a 24==jU .i64 2130706432 24)=false)/\(2<j->(jU .i64 a 29==jU .i64 3758096384 29)=false)) (fun st _=>(3 - st.1).toNat)
    ⟨0,by omega,rfl,Ext.refl _,by omega,by omega,by omega⟩ ?_
   rintro⟨i,⟨⟩⟩ W ⟨j,hj,hi,hx,g1,g2,g3⟩ next hnext
   simp only at hi
   subst hi
   have r:=r1.ext hx
   by_cases hlt:j<3
   ·have hl:((j:Int)<((3:Nat):Int)):=by omega
    have hxy:∃x y:Int,0<=y/\y<=32/\W.cell? ⟨t,j * 2,none⟩=some (.int .i64 x)/\W.cell? ⟨t,j * 2+1,none⟩=some (.int .i64 y)/\
      (((jU .i64 a (32 - y)==jU .i64 x (32 - y))=false)->(0<j+1->(jU .i64 a 24==jU .i64 0 24)=false)/\(1<j+1->(jU .i64 a 24==jU .i64 2130706432 24)=false)/\(2<j+1->(jU .i64 a 29==jU .i64 3758096384 29)=false)):=by
     match j,hlt,g1,g2,g3 with
     |0,_,_,_,_=>exact⟨0,8,by omega,by omega,r.cell 0,r.cell 1,fun h=>⟨fun _=>h,by omega,by omega⟩⟩
     |1,_,g1,_,_=>exact⟨2130706432,8,by omega,by omega,r.cell 2,r.cell 3,fun h=>⟨fun _=>g1 (by omega),fun _=>h,by omega⟩⟩
     |2,_,g1,g2,_=>exact⟨3758096384,3,by omega,by omega,r.cell 4,r.cell 5,fun h=>⟨fun _=>g1 (by omega),fun _=>g2 (by omega),fun _=>h⟩⟩
    obtain⟨x,y,hy,hy2,c0,c1,hg⟩:=hxy
    simp only [sx,hl,decide_true,Int.toNat_natCast,c0,c1]
    refine⟨by first|trivial|omega,by first|trivial|omega,?_⟩
    refine Cc rfl rfl fun b w3 r3 e3 z3 x3=> ?_
    simp only [sx,r3.cell]
    refine Au (UM hy hy2 _) ?_
    rintro _ w4 ⟨rfl,x4⟩
    by_cases hs:(jU .i64 a (32 - y)==jU .i64 x (32 - y))=true
    ·simp only [hs,hr,and_self,decide_true,Bool.and_true,cond_true]
     exact⟨by trivial,(hx.trans x3).trans x4⟩
    ·have hs:(jU .i64 a (32 - y)==jU .i64 x (32 - y))=false:=by simpa only [Bool.not_eq_true] using hs
     obtain⟨g1,g2,g3⟩:=hg hs
     simp only [hs,Bool.and_false,cond_false]
     rw [wrap_i64 (by omega) (by omega)]
     exact hnext _ _ ⟨j+1,by omega,by simp,(hx.trans x3).trans x4,g1,g2,g3⟩ (by simp only;omega)
   ·exact absurd ⟨hr.1,hr.2,g1 (by omega),g2 (by omega),g3 (by omega)⟩ hA
  ·rintro _ w2 ⟨rfl,f2⟩
   exact⟨by simp [hF],f1.trans f2⟩
 ·simp only [hr,decide_false,Bool.not_false,cond_true]
  have hF:¬kX a:=fun h=>hr (by unfold kX at h;omega)
  exact⟨by simp [hF],Ext.refl _⟩
theorem LP (a:Int) (w:World):rG a w fun r w'=>r=decide (kX a)/\w'=w:=by
 apply Qp
 simp -zeta only
 intro J
 have hJ:∀b,b=decide (kX a)->J b:=fun b hb=>⟨hb,by trivial⟩
 clear_value J
 by_cases h1:a>=16777216
 ·by_cases h2:a<3758096384
  ·simp only [h1,h2,decide_true,cond_true]
   refine⟨by decide,hJ _ ?_⟩
   rw [Int.tdiv_eq_ediv_of_nonneg (by omega),wrap_i64 (by omega) (by omega)]
   unfold kX
   by_cases h3:a / 16777216=127<;>simp [h1,h2,h3]
  ·simp only [h1,h2,decide_true,decide_false,cond_true,cond_false]
   exact hJ _ (by unfold kX;simp [h2])
 ·simp only [h1,decide_false,cond_false]
  exact hJ _ (by unfold kX;simp [h1])
theorem xG (n lo hi:Int) (w:World):iY n lo hi w fun r w'=>r=decide (lo<=n/\n<=hi)/\Ext w w':=by
 apply H6
 refine fK fun t w1 r1 e1 z1 f1=> ?_
 simp only [sx,r1.cell]
 by_cases h:lo<=n
 ·simp only [h,decide_true,cond_true,true_and]
  exact f1
 ·simp only [h,decide_false,cond_false,false_and]
  exact⟨by trivial,f1⟩
theorem adM (n lo hi:Int) (w:World):gG n lo hi w fun r w'=>r=decide (lo<=n/\n<=hi)/\w'=w:=by
 apply UK
 by_cases h:lo<=n
 ·have h':n>=lo:=h
  simp only [h,decide_true,cond_true,true_and,and_self]
 ·have h':¬n>=lo:=h
  simp only [h,decide_false,cond_false,false_and,and_self]
def UY (m:Int):Prop:=m=0\/(536<=m/\m<=65535)
instance (m:Int):Decidable (UY m):=inferInstanceAs (Decidable (_\/_))
theorem aaq (m:Int) (w:World):qH m w fun r w'=>r=decide (UY m)/\Ext w w':=by
 apply MK
 by_cases h:m=0
 ·subst h
  simp only [beq_self_eq_true,cond_true]
  exact⟨by simp [UY],Ext.refl _⟩
 ·rw [show (m==0)=false by simpa using h]
  simp only [cond_false]
  refine lZ (xG _ _ _ _) ?_
  rintro _ w' ⟨rfl,hf⟩
  exact⟨by simp [UY,h],hf⟩
theorem VI (n:Int) (w:World):qF n w fun r w'=>r=decide (n=1\/n=6\/n=17)/\Ext w w':=by
 apply MQ
 refine fK fun t w1 r1 e1 z1 f1=> ?_
 have hs:kH 1 eI w1 ⟨some ⟨t,0,none⟩,3,3⟩ [1,6,17]:=(iI.row (xs:=[(1:Int),6,17]) (f:=eI) (n:=1) r1).sl jB (by omega)
 refine jQ (Aj hs (by simp) n) ?_
 rintro _ w2 ⟨rfl,hw⟩
 subst hw
 exact⟨by simp,f1⟩
end Go.Proofs.CN
namespace Go.Proofs.CN
open Gp
set_option maxRecDepth 100000
abbrev K16:List Kind:=[.int .u8,.int .u8,.int .u8,.int .u8,.int .u8,.int .u8,.int .u8,.int .u8,.int .u8,.int .u8,.int .u8,.int .u8,.int .u8,.int .u8,.int .u8,.int .u8]
abbrev K7:List Kind:=[.int .i64,.int .i64,.int .i64,.int .i64,.int .i64,.int .i64,.int .i64]
abbrev K4:List Kind:=[.int .i64,.int .i64,.int .i64,.int .i64]
abbrev K3:List Kind:=[.int .i64,.int .i64,.int .i64]
abbrev oI:=Int×Int×Int×Int×Int×Int×Int×Int×Int×Int×Int×Int×Int×Int×Int×Int×Unit
abbrev T7:=Int×Int×Int×Int×Int×Int×Int×Unit
abbrev T4:=Int×Int×Int×Int×Unit
abbrev T3:=Int×Int×Int×Unit
abbrev e16 (x:oI):List Value:=Qg K16 x
abbrev e7 (x:T7):List Value:=Qg K7 x
abbrev e4 (x:T4):List Value:=Qg K4 x
abbrev e3 (x:T3):List Value:=Qg K3 x
theorem oW (x:oI):(e16 x).length=16:=rfl
theorem vP (x:T7):(e7 x).length=7:=rfl
def MO {α:Type} (v:Value) (ev:α->Value) (sh:List Shape) (C:World->Prop) (r:α->Value):Prop:=
 ∀x W (K:Value->World->Prop),C W->(∀W',Ext W W'->K (r x) W')->jI Tryz.prog sh v [ev x] W K
theorem aa_ {w:World} {s:b_} {xs:List Int} {v:Value} {p:Int->Bool} {C:World->Prop} (hs:kH 1 eI w s xs) (hl:s.len<=2^62) (hp:MO v (fun x:Int=>Value.int .i64 x) [.one .bool] C fun x=> .bool (p x)) (hC:∀W,Ext w W->C W):
  iZ s v w fun r w'=>(r>=0↔xs.any p=true)/\Ext w w':=by
 apply yG
 refine fE (fun st W=>∃j:Nat,j<=xs.length/\st.1=(j:Int)/\Ext w W/\(xs.take j).any p=false) (fun st _=>(s.len - st.1).toNat) ⟨0,by omega,rfl,Ext.refl _,by simp⟩ ?_
 rintro⟨i,⟨⟩⟩ W ⟨j,hj,hi,hw,hm⟩ next hnext
 simp only at hi
 subst hi
 have hlen:=hs.len
 by_cases hlt:(j:Int)<(s.len:Int)
 ·simp only [hlt,decide_true,cond_true]
  have hx:=List.getElem?_eq_getElem (show j<xs.length by omega)
  have htk:=Gp.Cfg.take_snoc hx
  have hmem:=List.getElem_mem (show j<xs.length by omega)
  generalize xs[j]=x at hx htk hmem
  refine jg jB (by omega) (hs.ext hw) (by omega) (by rw [Int.toNat_natCast];exact hx) fun a hc=> ?_
  have hp:=hp x
  dsimp only at hp
  by_cases he:p x=true
  ·rw [he] at hp
   obtain x:=x
   have c0:=hc 0 _ rfl
   rw [show a.add 0=a from rfl] at c0
   simp only [sx,c0]
   refine hp W _ (hC W hw) fun W' hf=>⟨true,rfl,?_⟩
   simp only [cond_true]
   exact⟨⟨fun _=>List.any_eq_true.2 ⟨_,hmem,he⟩,fun _=>by omega⟩,hw.trans hf⟩
  ·have he:p x=false:=by simpa only [Bool.not_eq_true] using he
   rw [he] at hp
   obtain x:=x
   have c0:=hc 0 _ rfl
   rw [show a.add 0=a from rfl] at c0
   simp only [sx,c0]
   refine hp W _ (hC W hw) fun W' hf=>⟨false,rfl,?_⟩
   simp only [cond_false]
   rw [wrap_i64 (by omega) (by omega)]
   refine hnext _ _ ⟨j+1,by omega,by simp,hw.trans hf,?_⟩ (by simp only;omega)
   rw [htk,List.any_append,hm,List.any_cons,he,List.any_nil];rfl
 ·simp only [hlt,decide_false,cond_false]
  rw [List.take_of_length_le (by omega)] at hm
  exact⟨⟨fun h=>by omega,fun h=>by rw [hm] at h;cases h⟩,hw⟩
theorem Ox {w:World} {s:b_} {xs:List Int} {v:Value} {p:Int->Bool} {C:World->Prop} (hs:kH 1 eI w s xs) (hl:s.len<=2^62) (hp:MO v (fun x:Int=>Value.int .i64 x) [.one .bool] C fun x=> .bool (p x)) (hC:∀W,Ext w W->C W):
  iE s v w fun r w'=>r=xs.any p/\Ext w w':=by
 apply wO
 refine yR (aa_ hs hl hp hC) ?_
 rintro r w' ⟨h,hf⟩
 refine⟨?_,hf⟩
 cases hb:xs.any p with
 |true=>exact decide_eq_true (h.2 hb)
 |false=>exact decide_eq_false fun hh=>by rw [h.1 hh] at hb;cases hb
theorem Z5 {w:World} {s:b_} {xs:List oI} {v:Value} {p:oI->Bool} {C:World->Prop} (hs:kH 16 e16 w s xs) (hl:s.len<=2^62) (hp:MO v (fun x:oI=>Value.agg ⟨e16 x⟩) [.one .bool] C fun x=> .bool (p x)) (hC:∀W,Ext w W->C W):
  iq s v w fun r w'=>(r>=0↔xs.any p=true)/\Ext w w':=by
 apply tV
 refine fE (fun st W=>∃j:Nat,j<=xs.length/\st.1=(j:Int)/\Ext w W/\(xs.take j).any p=false) (fun st _=>(s.len - st.1).toNat) ⟨0,by omega,rfl,Ext.refl _,by simp⟩ ?_
 rintro⟨i,⟨⟩⟩ W ⟨j,hj,hi,hw,hm⟩ next hnext
 simp only at hi
 subst hi
 have hlen:=hs.len
 by_cases hlt:(j:Int)<(s.len:Int)
 ·simp only [hlt,decide_true,cond_true]
  have hx:=List.getElem?_eq_getElem (show j<xs.length by omega)
  have htk:=Gp.Cfg.take_snoc hx
  have hmem:=List.getElem_mem (show j<xs.length by omega)
  generalize xs[j]=x at hx htk hmem
  refine jg oW (by omega) (hs.ext hw) (by omega) (by rw [Int.toNat_natCast];exact hx) fun a hc=> ?_
  have hp:=hp x
  dsimp only at hp
  by_cases he:p x=true
  ·rw [he] at hp
   obtain⟨x0,x1,x2,x3,x4,x5,x6,x7,x8,x9,x10,x11,x12,x13,x14,x15,⟨⟩⟩:=x
   have c0:=hc 0 _ rfl;have c1:=hc 1 _ rfl;have c2:=hc 2 _ rfl;have c3:=hc 3 _ rfl;have c4:=hc 4 _ rfl;have c5:=hc 5 _ rfl;have c6:=hc 6 _ rfl;have c7:=hc 7 _ rfl;have c8:=hc 8 _ rfl;have c9:=hc 9 _ rfl;have c10:=hc 10 _ rfl;have c11:=hc 11 _ rfl;have c12:=hc 12 _ rfl;have c13:=hc 13 _ rfl;have c14:=hc 14 _ rfl;have c15:=hc 15 _ rfl
   skip
   simp only [sx,c0,c1,c2,c3,c4,c5,c6,c7,c8,c9,c10,c11,c12,c13,c14,c15]
   refine hp W _ (hC W hw) fun W' hf=>⟨true,rfl,?_⟩
   simp only [cond_true]
   exact⟨⟨fun _=>List.any_eq_true.2 ⟨_,hmem,he⟩,fun _=>by omega⟩,hw.trans hf⟩
  ·have he:p x=false:=by simpa only [Bool.not_eq_true] using he
   rw [he] at hp
   obtain⟨x0,x1,x2,x3,x4,x5,x6,x7,x8,x9,x10,x11,x12,x13,x14,x15,⟨⟩⟩:=x
   have c0:=hc 0 _ rfl;have c1:=hc 1 _ rfl;have c2:=hc 2 _ rfl;have c3:=hc 3 _ rfl;have c4:=hc 4 _ rfl;have c5:=hc 5 _ rfl;have c6:=hc 6 _ rfl;have c7:=hc 7 _ rfl;have c8:=hc 8 _ rfl;have c9:=hc 9 _ rfl;have c10:=hc 10 _ rfl;have c11:=hc 11 _ rfl;have c12:=hc 12 _ rfl;have c13:=hc 13 _ rfl;have c14:=hc 14 _ rfl;have c15:=hc 15 _ rfl
   skip
   simp only [sx,c0,c1,c2,c3,c4,c5,c6,c7,c8,c9,c10,c11,c12,c13,c14,c15]
   refine hp W _ (hC W hw) fun W' hf=>⟨false,rfl,?_⟩
   simp only [cond_false]
   rw [wrap_i64 (by omega) (by omega)]
   refine hnext _ _ ⟨j+1,by omega,by simp,hw.trans hf,?_⟩ (by simp only;omega)
   rw [htk,List.any_append,hm,List.any_cons,he,List.any_nil];rfl
 ·simp only [hlt,decide_false,cond_false]
  rw [List.take_of_length_le (by omega)] at hm
  exact⟨⟨fun h=>by omega,fun h=>by rw [hm] at h;cases h⟩,hw⟩
theorem Uh {w:World} {s:b_} {xs:List oI} {v:Value} {p:oI->Bool} {C:World->Prop} (hs:kH 16 e16 w s xs) (hl:s.len<=2^62) (hp:MO v (fun x:oI=>Value.agg ⟨e16 x⟩) [.one .bool] C fun x=> .bool (p x)) (hC:∀W,Ext w W->C W):
  gX s v w fun r w'=>r=xs.any p/\Ext w w':=by
 apply qQ
 refine uF (Z5 hs hl hp hC) ?_
 rintro r w' ⟨h,hf⟩
 refine⟨?_,hf⟩
 cases hb:xs.any p with
 |true=>exact decide_eq_true (h.2 hb)
 |false=>exact decide_eq_false fun hh=>by rw [h.1 hh] at hb;cases hb
theorem abr {w:World} {s:b_} {xs:List T7} {v:Value} {p:T7->Bool} {C:World->Prop} (hs:kH 7 e7 w s xs) (hl:s.len<=2^62) (hp:MO v (fun x:T7=>Value.agg ⟨e7 x⟩) [.one .bool] C fun x=> .bool (p x)) (hC:∀W,Ext w W->C W):
  gI s v w fun r w'=>(r>=0↔xs.any p=true)/\Ext w w':=by
 apply pJ
 refine fE (fun st W=>∃j:Nat,j<=xs.length/\st.1=(j:Int)/\Ext w W/\(xs.take j).any p=false) (fun st _=>(s.len - st.1).toNat) ⟨0,by omega,rfl,Ext.refl _,by simp⟩ ?_
 rintro⟨i,⟨⟩⟩ W ⟨j,hj,hi,hw,hm⟩ next hnext
 simp only at hi
 subst hi
 have hlen:=hs.len
 by_cases hlt:(j:Int)<(s.len:Int)
 ·simp only [hlt,decide_true,cond_true]
  have hx:=List.getElem?_eq_getElem (show j<xs.length by omega)
  have htk:=Gp.Cfg.take_snoc hx
  have hmem:=List.getElem_mem (show j<xs.length by omega)
  generalize xs[j]=x at hx htk hmem
  refine jg vP (by omega) (hs.ext hw) (by omega) (by rw [Int.toNat_natCast];exact hx) fun a hc=> ?_
  have hp:=hp x
  dsimp only at hp
  by_cases he:p x=true
  ·rw [he] at hp
   obtain⟨x0,x1,x2,x3,x4,x5,x6,⟨⟩⟩:=x
   have c0:=hc 0 _ rfl;have c1:=hc 1 _ rfl;have c2:=hc 2 _ rfl;have c3:=hc 3 _ rfl;have c4:=hc 4 _ rfl;have c5:=hc 5 _ rfl;have c6:=hc 6 _ rfl
   skip
   simp only [sx,c0,c1,c2,c3,c4,c5,c6]
   refine hp W _ (hC W hw) fun W' hf=>⟨true,rfl,?_⟩
   simp only [cond_true]
   exact⟨⟨fun _=>List.any_eq_true.2 ⟨_,hmem,he⟩,fun _=>by omega⟩,hw.trans hf⟩
  ·have he:p x=false:=by simpa only [Bool.not_eq_true] using he
   rw [he] at hp
   obtain⟨x0,x1,x2,x3,x4,x5,x6,⟨⟩⟩:=x
   have c0:=hc 0 _ rfl;have c1:=hc 1 _ rfl;have c2:=hc 2 _ rfl;have c3:=hc 3 _ rfl;have c4:=hc 4 _ rfl;have c5:=hc 5 _ rfl;have c6:=hc 6 _ rfl
   skip
   simp only [sx,c0,c1,c2,c3,c4,c5,c6]
   refine hp W _ (hC W hw) fun W' hf=>⟨false,rfl,?_⟩
   simp only [cond_false]
   rw [wrap_i64 (by omega) (by omega)]
   refine hnext _ _ ⟨j+1,by omega,by simp,hw.trans hf,?_⟩ (by simp only;omega)
   rw [htk,List.any_append,hm,List.any_cons,he,List.any_nil];rfl
 ·simp only [hlt,decide_false,cond_false]
  rw [List.take_of_length_le (by omega)] at hm
  exact⟨⟨fun h=>by omega,fun h=>by rw [hm] at h;cases h⟩,hw⟩
theorem VJ {w:World} {s:b_} {xs:List T7} {v:Value} {p:T7->Bool} {C:World->Prop} (hs:kH 7 e7 w s xs) (hl:s.len<=2^62) (hp:MO v (fun x:T7=>Value.agg ⟨e7 x⟩) [.one .bool] C fun x=> .bool (p x)) (hC:∀W,Ext w W->C W):
  f_ s v w fun r w'=>r=xs.any p/\Ext w w':=by
 apply nU
 refine pI (abr hs hl hp hC) ?_
 rintro r w' ⟨h,hf⟩
 refine⟨?_,hf⟩
 cases hb:xs.any p with
 |true=>exact decide_eq_true (h.2 hb)
 |false=>exact decide_eq_false fun hh=>by rw [h.1 hh] at hb;cases hb
end Go.Proofs.CN
namespace Go.Proofs.CN
open Gp
set_option maxRecDepth 100000
instance :DecidableEq oI:=(@instDecidableEqProd Int _ inferInstance (@instDecidableEqProd Int _ inferInstance (@instDecidableEqProd Int _ inferInstance (@instDecidableEqProd Int _ inferInstance (@instDecidableEqProd Int _ inferInstance (@instDecidableEqProd Int _ inferInstance (@instDecidableEqProd Int _ inferInstance (@instDecidableEqProd Int _ inferInstance (@instDecidableEqProd Int _ inferInstance (@instDecidableEqProd Int _ inferInstance (@instDecidableEqProd Int _ inferInstance (@instDecidableEqProd Int _ inferInstance (@instDecidableEqProd Int _ inferInstance (@instDecidableEqProd Int _ inferInstance (@instDecidableEqProd Int _ inferInstance (@instDecidableEqProd Int _ inferInstance inferInstance))))))))))))))))
instance :DecidableEq T7:=(@instDecidableEqProd Int _ inferInstance (@instDecidableEqProd Int _ inferInstance (@instDecidableEqProd Int _ inferInstance (@instDecidableEqProd Int _ inferInstance (@instDecidableEqProd Int _ inferInstance (@instDecidableEqProd Int _ inferInstance (@instDecidableEqProd Int _ inferInstance inferInstance)))))))
instance :DecidableEq T4:=(@instDecidableEqProd Int _ inferInstance (@instDecidableEqProd Int _ inferInstance (@instDecidableEqProd Int _ inferInstance (@instDecidableEqProd Int _ inferInstance inferInstance))))
instance :DecidableEq T3:=(@instDecidableEqProd Int _ inferInstance (@instDecidableEqProd Int _ inferInstance (@instDecidableEqProd Int _ inferInstance inferInstance)))
theorem Z_ (a b:oI):A_ Tryz.prog 16 28 (.agg ⟨e16 a⟩) (.agg ⟨e16 b⟩)=some (decide (a=b)):=by
 obtain⟨a0,a1,a2,a3,a4,a5,a6,a7,a8,a9,a10,a11,a12,a13,a14,a15,⟨⟩⟩:=a
 obtain⟨b0,b1,b2,b3,b4,b5,b6,b7,b8,b9,b10,b11,b12,b13,b14,b15,⟨⟩⟩:=b
 have h:A_ Tryz.prog 16 28 (.agg ⟨e16 (a0,a1,a2,a3,a4,a5,a6,a7,a8,a9,a10,a11,a12,a13,a14,a15,())⟩) (.agg ⟨e16 (b0,b1,b2,b3,b4,b5,b6,b7,b8,b9,b10,b11,b12,b13,b14,b15,())⟩)=some ((a0==b0) && ((a1==b1) && ((a2==b2) && ((a3==b3) && ((a4==b4) && ((a5==b5) && ((a6==b6) && ((a7==b7) && ((a8==b8) && ((a9==b9) && ((a10==b10) && ((a11==b11) && ((a12==b12) && ((a13==b13) && ((a14==b14) && ((a15==b15) && true)))))))))))))))):=by kernel_rfl
 rw [h]
 simp [Qb,Bool.decide_and]
theorem eq4 (a b:T4):A_ Tryz.prog 16 78 (.agg ⟨e4 a⟩) (.agg ⟨e4 b⟩)=some (decide (a=b)):=by
 obtain⟨a0,a1,a2,a3,⟨⟩⟩:=a
 obtain⟨b0,b1,b2,b3,⟨⟩⟩:=b
 have h:A_ Tryz.prog 16 78 (.agg ⟨e4 (a0,a1,a2,a3,())⟩) (.agg ⟨e4 (b0,b1,b2,b3,())⟩)=some ((a0==b0) && ((a1==b1) && ((a2==b2) && ((a3==b3) && true)))):=by kernel_rfl
 rw [h]
 simp [Qb,Bool.decide_and]
theorem eq3 (a b:T3):A_ Tryz.prog 16 80 (.agg ⟨e3 a⟩) (.agg ⟨e3 b⟩)=some (decide (a=b)):=by
 obtain⟨a0,a1,a2,⟨⟩⟩:=a
 obtain⟨b0,b1,b2,⟨⟩⟩:=b
 have h:A_ Tryz.prog 16 80 (.agg ⟨e3 (a0,a1,a2,())⟩) (.agg ⟨e3 (b0,b1,b2,())⟩)=some ((a0==b0) && ((a1==b1) && ((a2==b2) && true))):=by kernel_rfl
 rw [h]
 simp [Qb,Bool.decide_and]
theorem acd (a:oI):kZ Tryz.prog 28 (.agg ⟨e16 a⟩)=true:=by unfold kZ;rw [Z_];rfl
theorem adp (a:T4):kZ Tryz.prog 78 (.agg ⟨e4 a⟩)=true:=by unfold kZ;rw [eq4];rfl
theorem adZ (a:T3):kZ Tryz.prog 80 (.agg ⟨e3 a⟩)=true:=by unfold kZ;rw [eq3];rfl
theorem eq1 (a b:Int):A_ Tryz.prog 16 3 (.int .i64 a) (.int .i64 b)=some (decide (a=b)):=eqP a b
theorem key1 (a:Int):kZ Tryz.prog 3 (.int .i64 a)=true:=aby a
theorem acK {w:World} {v:Value} {C:World->Prop} {ys:List Int} (hv:n_ Tryz.prog [.one (.int .i64)] v C (ys.map fun y=>(y,()))) (hC:∀W,Ext w W->C W):
  mD v w fun r w'=>(r=true↔¬ys.Nodup)/\Ext w w':=by
 apply Gg
 refine fK fun a w1 ra ea z1 f1=>RP fun w2 m2 z2 f2=>fK fun b w3 rb eb z3 f3=> ?_
 refine gu rb rfl (by simp) fun w4 rb f4 z4=> ?_
 simp only [List.set_cons_zero] at rb
 have ra4:=((ra.ext f2).ext f3).fr (f4 (·=b) rfl) (by omega)
 have m4:=((m2 _ (fun x:Int=>Value.int .i64 x)).ext f3).fr (f4 (·=b) rfl) (by omega)
 have x4:Ext w w4:=((f1.trans f2).trans f3).new (f4 (·=b) rfl) fun x hx e=>by omega
 clear f4
 generalize hm:w1.heap.size=m at *
 refine xA hv (fun i W=>Row W a [.bool false]/\Row W b [.map (some m)]/\xR (fun x:Int=>Value.int .i64 x) W m (ys.take i)/\(ys.take i).Nodup/\Ext w W)
  (fun e W=>e= .ret/\Row W a [.bool true]/\¬ys.Nodup/\Ext w W) (by simp) ?_ ?_ ?_ ?_ ?_ ?_ ?_ ?_ ?_
 ·exact fun W hx _=>⟨ra4.ext hx,rb.ext hx,m4.ext hx,by simp,x4.trans hx⟩
 ·rintro i W ⟨_,_,_,_,h⟩
  exact hC W h
 ·rintro i W W' ⟨h1,h2,h3,h4,h5⟩ hf
  have lq:lg none w4=w4.heap.size+1:=rfl
  rw [lq] at hf
  exact⟨h1.fr hf (by omega),h2.fr hf (by omega),h3.fr hf (by omega),h4,h5.new hf fun x hx e=>by omega⟩
 ·rintro e W W' ⟨h1,h2,h3,h4⟩ hf
  have lq:lg none w4=w4.heap.size+1:=rfl
  rw [lq] at hf
  exact⟨h1,h2.fr hf (by omega),h3,h4.new hf fun x hx e=>by omega⟩
 ·exact fun e W hJ=> .inl hJ.1
 ·rintro i ⟨y,⟨⟩⟩ W Kb hx ⟨h1,h2,h3,h4,h5⟩ hlt hn hj
  obtain⟨y',hy',he⟩:=Option.map_eq_some_iff.1 (by rw [List.getElem?_map] at hx;exact hx)
  have hye:y'=y:=congrArg Prod.fst he
  subst hye
  clear he
  have htk:=Gp.Cfg.take_snoc hy'
  have lq:lg none w4=w4.heap.size+1:=rfl
  rw [lq] at hlt hn hj ⊢
  refine⟨rfl,?_⟩
  have fc:=fD.refl (fB W (w4.heap.size+1)) (·=a)
  have fc2:=fD.refl (fB W (w4.heap.size+1)) (·=m)
  have fb:fD W (fB W (w4.heap.size+1)) (·=w4.heap.size+1):=fD.fB W _
  generalize hW3:fB W (w4.heap.size+1)=W3 at fc fc2 fb hn hj ⊢
  skip
  have k1:=h1.fr fb (by omega)
  have k2:=h2.fr fb (by omega)
  have k3:=h3.fr fb (by omega)
  have k5:Ext w W3:=h5.new fb fun x hx e=>by omega
  simp only [sx,k2.cell]
  refine JJ k3 eq1 y' (key1 _) ?_
  by_cases hmem:y'∈ys.take i
  ·simp only [hmem,decide_true,cond_true]
   refine gu k1 rfl (by simp) fun W4 q1 g1 z4=> ?_
   simp only [List.set_cons_zero] at q1
   refine hj .ret W4 (·=a) (fc.trans (g1 (·=a) rfl) fun _ _ e=>e) (fun x hx1 hx2 e=>by omega) ⟨rfl,q1,fun hnd=>Gp.Cfg.nH.1 hnd i _ hy' hmem,k5.new (g1 (·=a) rfl) fun x hx e=>by omega⟩
  ·simp only [hmem,decide_false,cond_false]
   refine JI k3 eq1 _ (key1 _) hmem fun W4 q3 g3 z4=> ?_
   refine hn W4 (·=m) (fc2.trans g3 fun _ _ e=>e) (fun x hx1 hx2 e=>by omega) ⟨k1.fr g3 (by omega),k2.fr g3 (by omega),?_,?_,k5.new g3 fun x hx e=>by omega⟩
   ·rw [htk];exact q3
   ·rw [htk,Gp.Cfg.zH];exact⟨h4,hmem⟩
 ·rintro W ⟨h1,h2,h3,h4,h5⟩ hm'
  have hm':=hm' rfl
  rw [List.take_of_length_le (by simp)] at h4
  refine gu h1 rfl (by simp) fun W4 q1 g1 z4=> ?_
  simp only [List.set_cons_zero] at q1
  refine⟨by rw [<- hm'];exact(g1 (·=a) rfl).same _ (by have:=(Array.getElem?_eq_some_iff.1 hm').1;omega) (by omega),?_⟩
  have q2:=q1.fr (fD.jC W4 w4.heap.size (.deferred none)) (by omega)
  simp only [sx,q2.cell]
  exact⟨by simp [h4],(h5.new (g1 (·=a) rfl) fun x hx e=>by omega).new (fD.jC W4 w4.heap.size (.deferred none)) fun x hx e=>by have:=x4.size;omega⟩
 ·rintro W ⟨_,h1,h2,h3⟩ hm'
  have hm':=hm' rfl
  refine⟨hm',?_⟩
  have q2:=h1.fr (fD.jC W w4.heap.size (.deferred none)) (by omega)
  simp only [sx,q2.cell]
  exact⟨by simp [h2],h3.new (fD.jC W w4.heap.size (.deferred none)) fun x hx e=>by have:=x4.size;omega⟩
 ·rintro id W ⟨h1,_⟩
  cases h1
theorem abE {w:World} {v:Value} {C:World->Prop} {ys:List oI} (hv:n_ Tryz.prog [.agg K16] v C (ys.map fun y=>(y,()))) (hC:∀W,Ext w W->C W):
  jM v w fun r w'=>(r=true↔¬ys.Nodup)/\Ext w w':=by
 apply BI
 refine fK fun a w1 ra ea z1 f1=>RP fun w2 m2 z2 f2=>fK fun b w3 rb eb z3 f3=> ?_
 refine gu rb rfl (by simp) fun w4 rb f4 z4=> ?_
 simp only [List.set_cons_zero] at rb
 have ra4:=((ra.ext f2).ext f3).fr (f4 (·=b) rfl) (by omega)
 have m4:=((m2 _ (fun x:oI=>Value.agg ⟨e16 x⟩)).ext f3).fr (f4 (·=b) rfl) (by omega)
 have x4:Ext w w4:=((f1.trans f2).trans f3).new (f4 (·=b) rfl) fun x hx e=>by omega
 clear f4
 generalize hm:w1.heap.size=m at *
 refine xA hv (fun i W=>Row W a [.bool false]/\Row W b [.map (some m)]/\xR (fun x:oI=>Value.agg ⟨e16 x⟩) W m (ys.take i)/\(ys.take i).Nodup/\Ext w W)
  (fun e W=>e= .ret/\Row W a [.bool true]/\¬ys.Nodup/\Ext w W) (by simp) ?_ ?_ ?_ ?_ ?_ ?_ ?_ ?_ ?_
 ·exact fun W hx _=>⟨ra4.ext hx,rb.ext hx,m4.ext hx,by simp,x4.trans hx⟩
 ·rintro i W ⟨_,_,_,_,h⟩
  exact hC W h
 ·rintro i W W' ⟨h1,h2,h3,h4,h5⟩ hf
  have lq:lg none w4=w4.heap.size+1:=rfl
  rw [lq] at hf
  exact⟨h1.fr hf (by omega),h2.fr hf (by omega),h3.fr hf (by omega),h4,h5.new hf fun x hx e=>by omega⟩
 ·rintro e W W' ⟨h1,h2,h3,h4⟩ hf
  have lq:lg none w4=w4.heap.size+1:=rfl
  rw [lq] at hf
  exact⟨h1,h2.fr hf (by omega),h3,h4.new hf fun x hx e=>by omega⟩
 ·exact fun e W hJ=> .inl hJ.1
 ·rintro i ⟨y,⟨⟩⟩ W Kb hx ⟨h1,h2,h3,h4,h5⟩ hlt hn hj
  obtain⟨y',hy',he⟩:=Option.map_eq_some_iff.1 (by rw [List.getElem?_map] at hx;exact hx)
  have hye:y'=y:=congrArg Prod.fst he
  subst hye
  clear he
  have htk:=Gp.Cfg.take_snoc hy'
  have lq:lg none w4=w4.heap.size+1:=rfl
  rw [lq] at hlt hn hj ⊢
  refine Cc rfl rfl fun t W2 rt et zt ft=> ?_
  refine⟨(ft fun _=>False).same _ hlt (by simp),?_⟩
  have fc:fD (fB W (w4.heap.size+1)) (fB W2 (w4.heap.size+1)) (fun _=>False):=Ai (ft _) _
  have fc:Ext (fB W (w4.heap.size+1)) (fB W2 (w4.heap.size+1)):=fc.new (by simp)
  have fc:=fc (·=a)
  have fc2:=Ai (ft (·=m)) (w4.heap.size+1)
  have fb:fD W (fB W2 (w4.heap.size+1)) (·=w4.heap.size+1):=ft.fr (fD.fB W2 _)
  have rt3:Row (fB W2 (w4.heap.size+1)) t _:=rt.fr (fD.fB W2 _) (by omega)
  generalize fB W2 (w4.heap.size+1)=W3 at fc fc2 fb rt3 ⊢
  obtain⟨y0,y1,y2,y3,y4,y5,y6,y7,y8,y9,y10,y11,y12,y13,y14,y15,⟨⟩⟩:=y'
  have k1:=h1.fr fb (by omega)
  have k2:=h2.fr fb (by omega)
  have k3:=h3.fr fb (by omega)
  have k5:Ext w W3:=h5.new fb fun x hx e=>by omega
  simp only [sx,k2.cell,rt3.cell]
  refine JJ k3 Z_ (y0,y1,y2,y3,y4,y5,y6,y7,y8,y9,y10,y11,y12,y13,y14,y15,()) (acd _) ?_
  by_cases hmem:(y0,y1,y2,y3,y4,y5,y6,y7,y8,y9,y10,y11,y12,y13,y14,y15,())∈ys.take i
  ·simp only [hmem,decide_true,cond_true]
   refine gu k1 rfl (by simp) fun W4 q1 g1 z4=> ?_
   simp only [List.set_cons_zero] at q1
   refine hj .ret W4 (·=a) (fc.trans (g1 (·=a) rfl) fun _ _ e=>e) (fun x hx1 hx2 e=>by omega) ⟨rfl,q1,fun hnd=>Gp.Cfg.nH.1 hnd i _ hy' hmem,k5.new (g1 (·=a) rfl) fun x hx e=>by omega⟩
  ·simp only [hmem,decide_false,cond_false]
   refine JI k3 Z_ _ (acd _) hmem fun W4 q3 g3 z4=> ?_
   refine hn W4 (·=m) (fc2.trans g3 fun _ _ e=>e) (fun x hx1 hx2 e=>by omega) ⟨k1.fr g3 (by omega),k2.fr g3 (by omega),?_,?_,k5.new g3 fun x hx e=>by omega⟩
   ·rw [htk];exact q3
   ·rw [htk,Gp.Cfg.zH];exact⟨h4,hmem⟩
 ·rintro W ⟨h1,h2,h3,h4,h5⟩ hm'
  have hm':=hm' rfl
  rw [List.take_of_length_le (by simp)] at h4
  refine gu h1 rfl (by simp) fun W4 q1 g1 z4=> ?_
  simp only [List.set_cons_zero] at q1
  refine⟨by rw [<- hm'];exact(g1 (·=a) rfl).same _ (by have:=(Array.getElem?_eq_some_iff.1 hm').1;omega) (by omega),?_⟩
  have q2:=q1.fr (fD.jC W4 w4.heap.size (.deferred none)) (by omega)
  simp only [sx,q2.cell]
  exact⟨by simp [h4],(h5.new (g1 (·=a) rfl) fun x hx e=>by omega).new (fD.jC W4 w4.heap.size (.deferred none)) fun x hx e=>by have:=x4.size;omega⟩
 ·rintro W ⟨_,h1,h2,h3⟩ hm'
  have hm':=hm' rfl
  refine⟨hm',?_⟩
  have q2:=h1.fr (fD.jC W w4.heap.size (.deferred none)) (by omega)
  simp only [sx,q2.cell]
  exact⟨by simp [h2],h3.new (fD.jC W w4.heap.size (.deferred none)) fun x hx e=>by have:=x4.size;omega⟩
 ·rintro id W ⟨h1,_⟩
  cases h1
theorem ac8 {w:World} {v:Value} {C:World->Prop} {ys:List T4} (hv:n_ Tryz.prog [.agg K4] v C (ys.map fun y=>(y,()))) (hC:∀W,Ext w W->C W):
  jo v w fun r w'=>(r=true↔¬ys.Nodup)/\Ext w w':=by
 apply Ad
 refine fK fun a w1 ra ea z1 f1=>RP fun w2 m2 z2 f2=>fK fun b w3 rb eb z3 f3=> ?_
 refine gu rb rfl (by simp) fun w4 rb f4 z4=> ?_
 simp only [List.set_cons_zero] at rb
 have ra4:=((ra.ext f2).ext f3).fr (f4 (·=b) rfl) (by omega)
 have m4:=((m2 _ (fun x:T4=>Value.agg ⟨e4 x⟩)).ext f3).fr (f4 (·=b) rfl) (by omega)
 have x4:Ext w w4:=((f1.trans f2).trans f3).new (f4 (·=b) rfl) fun x hx e=>by omega
 clear f4
 generalize hm:w1.heap.size=m at *
 refine xA hv (fun i W=>Row W a [.bool false]/\Row W b [.map (some m)]/\xR (fun x:T4=>Value.agg ⟨e4 x⟩) W m (ys.take i)/\(ys.take i).Nodup/\Ext w W)
  (fun e W=>e= .ret/\Row W a [.bool true]/\¬ys.Nodup/\Ext w W) (by simp) ?_ ?_ ?_ ?_ ?_ ?_ ?_ ?_ ?_
 ·exact fun W hx _=>⟨ra4.ext hx,rb.ext hx,m4.ext hx,by simp,x4.trans hx⟩
 ·rintro i W ⟨_,_,_,_,h⟩
  exact hC W h
 ·rintro i W W' ⟨h1,h2,h3,h4,h5⟩ hf
  have lq:lg none w4=w4.heap.size+1:=rfl
  rw [lq] at hf
  exact⟨h1.fr hf (by omega),h2.fr hf (by omega),h3.fr hf (by omega),h4,h5.new hf fun x hx e=>by omega⟩
 ·rintro e W W' ⟨h1,h2,h3,h4⟩ hf
  have lq:lg none w4=w4.heap.size+1:=rfl
  rw [lq] at hf
  exact⟨h1,h2.fr hf (by omega),h3,h4.new hf fun x hx e=>by omega⟩
 ·exact fun e W hJ=> .inl hJ.1
 ·rintro i ⟨y,⟨⟩⟩ W Kb hx ⟨h1,h2,h3,h4,h5⟩ hlt hn hj
  obtain⟨y',hy',he⟩:=Option.map_eq_some_iff.1 (by rw [List.getElem?_map] at hx;exact hx)
  have hye:y'=y:=congrArg Prod.fst he
  subst hye
  clear he
  have htk:=Gp.Cfg.take_snoc hy'
  have lq:lg none w4=w4.heap.size+1:=rfl
  rw [lq] at hlt hn hj ⊢
  refine Cc rfl rfl fun t W2 rt et zt ft=> ?_
  refine⟨(ft fun _=>False).same _ hlt (by simp),?_⟩
  have fc:fD (fB W (w4.heap.size+1)) (fB W2 (w4.heap.size+1)) (fun _=>False):=Ai (ft _) _
  have fc:Ext (fB W (w4.heap.size+1)) (fB W2 (w4.heap.size+1)):=fc.new (by simp)
  have fc:=fc (·=a)
  have fc2:=Ai (ft (·=m)) (w4.heap.size+1)
  have fb:fD W (fB W2 (w4.heap.size+1)) (·=w4.heap.size+1):=ft.fr (fD.fB W2 _)
  have rt3:Row (fB W2 (w4.heap.size+1)) t _:=rt.fr (fD.fB W2 _) (by omega)
  generalize fB W2 (w4.heap.size+1)=W3 at fc fc2 fb rt3 ⊢
  obtain⟨y0,y1,y2,y3,⟨⟩⟩:=y'
  have k1:=h1.fr fb (by omega)
  have k2:=h2.fr fb (by omega)
  have k3:=h3.fr fb (by omega)
  have k5:Ext w W3:=h5.new fb fun x hx e=>by omega
  simp only [sx,k2.cell,rt3.cell]
  refine JJ k3 eq4 (y0,y1,y2,y3,()) (adp _) ?_
  by_cases hmem:(y0,y1,y2,y3,())∈ys.take i
  ·simp only [hmem,decide_true,cond_true]
   refine gu k1 rfl (by simp) fun W4 q1 g1 z4=> ?_
   simp only [List.set_cons_zero] at q1
   refine hj .ret W4 (·=a) (fc.trans (g1 (·=a) rfl) fun _ _ e=>e) (fun x hx1 hx2 e=>by omega) ⟨rfl,q1,fun hnd=>Gp.Cfg.nH.1 hnd i _ hy' hmem,k5.new (g1 (·=a) rfl) fun x hx e=>by omega⟩
  ·simp only [hmem,decide_false,cond_false]
   refine JI k3 eq4 _ (adp _) hmem fun W4 q3 g3 z4=> ?_
   refine hn W4 (·=m) (fc2.trans g3 fun _ _ e=>e) (fun x hx1 hx2 e=>by omega) ⟨k1.fr g3 (by omega),k2.fr g3 (by omega),?_,?_,k5.new g3 fun x hx e=>by omega⟩
   ·rw [htk];exact q3
   ·rw [htk,Gp.Cfg.zH];exact⟨h4,hmem⟩
 ·rintro W ⟨h1,h2,h3,h4,h5⟩ hm'
  have hm':=hm' rfl
  rw [List.take_of_length_le (by simp)] at h4
  refine gu h1 rfl (by simp) fun W4 q1 g1 z4=> ?_
  simp only [List.set_cons_zero] at q1
  refine⟨by rw [<- hm'];exact(g1 (·=a) rfl).same _ (by have:=(Array.getElem?_eq_some_iff.1 hm').1;omega) (by omega),?_⟩
  have q2:=q1.fr (fD.jC W4 w4.heap.size (.deferred none)) (by omega)
  simp only [sx,q2.cell]
  exact⟨by simp [h4],(h5.new (g1 (·=a) rfl) fun x hx e=>by omega).new (fD.jC W4 w4.heap.size (.deferred none)) fun x hx e=>by have:=x4.size;omega⟩
 ·rintro W ⟨_,h1,h2,h3⟩ hm'
  have hm':=hm' rfl
  refine⟨hm',?_⟩
  have q2:=h1.fr (fD.jC W w4.heap.size (.deferred none)) (by omega)
  simp only [sx,q2.cell]
  exact⟨by simp [h2],h3.new (fD.jC W w4.heap.size (.deferred none)) fun x hx e=>by have:=x4.size;omega⟩
 ·rintro id W ⟨h1,_⟩
  cases h1
theorem acz {w:World} {v:Value} {C:World->Prop} {ys:List T3} (hv:n_ Tryz.prog [.agg K3] v C (ys.map fun y=>(y,()))) (hC:∀W,Ext w W->C W):
  jq v w fun r w'=>(r=true↔¬ys.Nodup)/\Ext w w':=by
 apply zT
 refine fK fun a w1 ra ea z1 f1=>RP fun w2 m2 z2 f2=>fK fun b w3 rb eb z3 f3=> ?_
 refine gu rb rfl (by simp) fun w4 rb f4 z4=> ?_
 simp only [List.set_cons_zero] at rb
 have ra4:=((ra.ext f2).ext f3).fr (f4 (·=b) rfl) (by omega)
 have m4:=((m2 _ (fun x:T3=>Value.agg ⟨e3 x⟩)).ext f3).fr (f4 (·=b) rfl) (by omega)
 have x4:Ext w w4:=((f1.trans f2).trans f3).new (f4 (·=b) rfl) fun x hx e=>by omega
 clear f4
 generalize hm:w1.heap.size=m at *
 refine xA hv (fun i W=>Row W a [.bool false]/\Row W b [.map (some m)]/\xR (fun x:T3=>Value.agg ⟨e3 x⟩) W m (ys.take i)/\(ys.take i).Nodup/\Ext w W)
  (fun e W=>e= .ret/\Row W a [.bool true]/\¬ys.Nodup/\Ext w W) (by simp) ?_ ?_ ?_ ?_ ?_ ?_ ?_ ?_ ?_
 ·exact fun W hx _=>⟨ra4.ext hx,rb.ext hx,m4.ext hx,by simp,x4.trans hx⟩
 ·rintro i W ⟨_,_,_,_,h⟩
  exact hC W h
 ·rintro i W W' ⟨h1,h2,h3,h4,h5⟩ hf
  have lq:lg none w4=w4.heap.size+1:=rfl
  rw [lq] at hf
  exact⟨h1.fr hf (by omega),h2.fr hf (by omega),h3.fr hf (by omega),h4,h5.new hf fun x hx e=>by omega⟩
 ·rintro e W W' ⟨h1,h2,h3,h4⟩ hf
  have lq:lg none w4=w4.heap.size+1:=rfl
  rw [lq] at hf
  exact⟨h1,h2.fr hf (by omega),h3,h4.new hf fun x hx e=>by omega⟩
 ·exact fun e W hJ=> .inl hJ.1
 ·rintro i ⟨y,⟨⟩⟩ W Kb hx ⟨h1,h2,h3,h4,h5⟩ hlt hn hj
  obtain⟨y',hy',he⟩:=Option.map_eq_some_iff.1 (by rw [List.getElem?_map] at hx;exact hx)
  have hye:y'=y:=congrArg Prod.fst he
  subst hye
  clear he
  have htk:=Gp.Cfg.take_snoc hy'
  have lq:lg none w4=w4.heap.size+1:=rfl
  rw [lq] at hlt hn hj ⊢
  refine Cc rfl rfl fun t W2 rt et zt ft=> ?_
  refine⟨(ft fun _=>False).same _ hlt (by simp),?_⟩
  have fc:fD (fB W (w4.heap.size+1)) (fB W2 (w4.heap.size+1)) (fun _=>False):=Ai (ft _) _
  have fc:Ext (fB W (w4.heap.size+1)) (fB W2 (w4.heap.size+1)):=fc.new (by simp)
  have fc:=fc (·=a)
  have fc2:=Ai (ft (·=m)) (w4.heap.size+1)
  have fb:fD W (fB W2 (w4.heap.size+1)) (·=w4.heap.size+1):=ft.fr (fD.fB W2 _)
  have rt3:Row (fB W2 (w4.heap.size+1)) t _:=rt.fr (fD.fB W2 _) (by omega)
  generalize fB W2 (w4.heap.size+1)=W3 at fc fc2 fb rt3 ⊢
  obtain⟨y0,y1,y2,⟨⟩⟩:=y'
  have k1:=h1.fr fb (by omega)
  have k2:=h2.fr fb (by omega)
  have k3:=h3.fr fb (by omega)
  have k5:Ext w W3:=h5.new fb fun x hx e=>by omega
  simp only [sx,k2.cell,rt3.cell]
  refine JJ k3 eq3 (y0,y1,y2,()) (adZ _) ?_
  by_cases hmem:(y0,y1,y2,())∈ys.take i
  ·simp only [hmem,decide_true,cond_true]
   refine gu k1 rfl (by simp) fun W4 q1 g1 z4=> ?_
   simp only [List.set_cons_zero] at q1
   refine hj .ret W4 (·=a) (fc.trans (g1 (·=a) rfl) fun _ _ e=>e) (fun x hx1 hx2 e=>by omega) ⟨rfl,q1,fun hnd=>Gp.Cfg.nH.1 hnd i _ hy' hmem,k5.new (g1 (·=a) rfl) fun x hx e=>by omega⟩
  ·simp only [hmem,decide_false,cond_false]
   refine JI k3 eq3 _ (adZ _) hmem fun W4 q3 g3 z4=> ?_
   refine hn W4 (·=m) (fc2.trans g3 fun _ _ e=>e) (fun x hx1 hx2 e=>by omega) ⟨k1.fr g3 (by omega),k2.fr g3 (by omega),?_,?_,k5.new g3 fun x hx e=>by omega⟩
   ·rw [htk];exact q3
   ·rw [htk,Gp.Cfg.zH];exact⟨h4,hmem⟩
 ·rintro W ⟨h1,h2,h3,h4,h5⟩ hm'
  have hm':=hm' rfl
  rw [List.take_of_length_le (by simp)] at h4
  refine gu h1 rfl (by simp) fun W4 q1 g1 z4=> ?_
  simp only [List.set_cons_zero] at q1
  refine⟨by rw [<- hm'];exact(g1 (·=a) rfl).same _ (by have:=(Array.getElem?_eq_some_iff.1 hm').1;omega) (by omega),?_⟩
  have q2:=q1.fr (fD.jC W4 w4.heap.size (.deferred none)) (by omega)
  simp only [sx,q2.cell]
  exact⟨by simp [h4],(h5.new (g1 (·=a) rfl) fun x hx e=>by omega).new (fD.jC W4 w4.heap.size (.deferred none)) fun x hx e=>by have:=x4.size;omega⟩
 ·rintro W ⟨_,h1,h2,h3⟩ hm'
  have hm':=hm' rfl
  refine⟨hm',?_⟩
  have q2:=h1.fr (fD.jC W w4.heap.size (.deferred none)) (by omega)
  simp only [sx,q2.cell]
  exact⟨by simp [h2],h3.new (fD.jC W w4.heap.size (.deferred none)) fun x hx e=>by have:=x4.size;omega⟩
 ·rintro id W ⟨h1,_⟩
  cases h1
end Go.Proofs.CN
namespace Go.Proofs.CN
open Gp
set_option maxRecDepth 100000
def acO:oI->Bool
 |(x0,x1,x2,x3,x4,x5,x6,x7,x8,x9,x10,x11,x12,x13,x14,x15,())=>((x0==0) && ((x1==0) && ((x2==0) && ((x3==0) && ((x4==0) && ((x5==0) && ((x6==0) && ((x7==0) && ((x8==0) && ((x9==0) && ((x10==0) && ((x11==0) && ((x12==0) && ((x13==0) && ((x14==0) && ((x15==0) && true))))))))))))))))
def mV (x:oI):Bool:= !(acO x) && (x.1 !=255)
theorem LH {p0 p1 p2 p3 p4 p5 p6 p7 p8 p9 p10 p11 p12 p13 p14 p15:Int} (w:World):wI p0 p1 p2 p3 p4 p5 p6 p7 p8 p9 p10 p11 p12 p13 p14 p15 w fun r w'=>r=mV (p0,p1,p2,p3,p4,p5,p6,p7,p8,p9,p10,p11,p12,p13,p14,p15,())/\Ext w w':=by
 apply UF
 refine fK fun a w1 ra ea z1 f1=>fK fun b w2 rb eb z2 f2=> ?_
 have ra:=ra.ext f2
 simp only [sx,ra.cell,rb.cell]
 have he:∀c:Bool,c=acO (p0,p1,p2,p3,p4,p5,p6,p7,p8,p9,p10,p11,p12,p13,p14,p15,())->((bif !c then (0:Int)<=0/\(0:Int)<16/\((p0 !=255)=mV (p0,p1,p2,p3,p4,p5,p6,p7,p8,p9,p10,p11,p12,p13,p14,p15,())/\Ext w w2) else (false=mV (p0,p1,p2,p3,p4,p5,p6,p7,p8,p9,p10,p11,p12,p13,p14,p15,())/\Ext w w2))):=by
  intro c hc
  unfold mV
  rw [<- hc]
  cases c
  ·exact⟨by omega,by omega,by simp,f1.trans f2⟩
  ·exact⟨by simp,f1.trans f2⟩
 exact he _ rfl
theorem OC {p0 p1 p2 p3 p4 p5 p6 p7 p8 p9 p10 p11 p12 p13 p14 p15:Int} (w:World):rH p0 p1 p2 p3 p4 p5 p6 p7 p8 p9 p10 p11 p12 p13 p14 p15 w fun r w'=>r=mV (p0,p1,p2,p3,p4,p5,p6,p7,p8,p9,p10,p11,p12,p13,p14,p15,())/\Ext w w':=by
 apply PU
 refine fK fun a w1 ra ea z1 f1=> ?_
 simp only [sx,ra.cell]
 have he:∀c:Bool,c=acO (p0,p1,p2,p3,p4,p5,p6,p7,p8,p9,p10,p11,p12,p13,p14,p15,())->((bif !c then (0:Int)<=0/\(0:Int)<16/\((p0 !=255)=mV (p0,p1,p2,p3,p4,p5,p6,p7,p8,p9,p10,p11,p12,p13,p14,p15,())/\Ext w w1) else (false=mV (p0,p1,p2,p3,p4,p5,p6,p7,p8,p9,p10,p11,p12,p13,p14,p15,())/\Ext w w1))):=by
  intro c hc
  unfold mV
  rw [<- hc]
  cases c
  ·exact⟨by omega,by omega,by simp,f1⟩
  ·exact⟨by simp,f1⟩
 exact he _ rfl
def BA (n:Nat) (pl:List Int):T7->Prop
 |(q0,q1,q2,q3,q4,q5,q6,())=>((0<=q3/\q3<=65535)/\(0<=q6/\q6<=65535))/\(kX q2/\q5∈pl)/\((q1=1\/q1=6\/q1=17)/\q1=q4)/\(0<=q0/\q0<=(n:Int) - 1)
instance (n:Nat) (pl:List Int) (x:T7):Decidable (BA n pl x):=by
 obtain⟨q0,q1,q2,q3,q4,q5,q6,⟨⟩⟩:=x
 exact inferInstanceAs (Decidable (_/\_/\_/\_))
theorem SG {w:World} {p0 p1 p2 p3 p4 p5 p6 p7 p8 p9 p10 p11 p12 p13 p14 p15:Int} {sw po:b_} {n18 n19 n20 n21 n22 n23 n24 n25 n26 n27 n28 n29 n30 n31 n32 n33 n34:Int} {st:b_} {q0 q1 q2 q3 q4 q5 q6:Int} {pl:List Int} (hsl:sw.len<=2^62) (hpo:kH 1 eI w po pl) (hpl:po.len<=2^62):
  uG p0 p1 p2 p3 p4 p5 p6 p7 p8 p9 p10 p11 p12 p13 p14 p15 sw po n18 n19 n20 n21 n22 n23 n24 n25 n26 n27 n28 n29 n30 n31 n32 n33 n34 st q0 q1 q2 q3 q4 q5 q6 w fun r w'=>r=decide (BA sw.len pl (q0,q1,q2,q3,q4,q5,q6,()))/\Ext w w':=by
 apply OU
 refine fK fun a w1 ra ea z1 f1=>fK fun b w2 rb eb z2 f2=> ?_
 have ra:=ra.ext f2
 have x2:=f1.trans f2
 clear f1 f2
 simp -zeta only [sx,rb.cell]
 intro J7
 have hJ7:∀c1 W,Ext w2 W->c1=decide ((0<=q3/\q3<=65535)/\(0<=q6/\q6<=65535))->J7 c1 W:=by
  intro c1 W hx h1
  have ra:=ra.ext hx
  have rb:=rb.ext hx
  simp -zeta only [J7]
  intro J10
  have hJ10:∀c2 W',Ext W W'->c2=decide (kX q2/\q5∈pl)->J10 c2 W':=by
   intro c2 W' hx' h2
   have ra:=ra.ext hx'
   have rb:=rb.ext hx'
   simp -zeta only [J10]
   intro J13
   have hJ13:∀c3 W'',Ext W' W''->c3=decide ((q1=1\/q1=6\/q1=17)/\q1=q4)->J13 c3 W'':=by
    intro c3 W'' hx'' h3
    have ra:=ra.ext hx''
    have rb:=rb.ext hx''
    simp only [J13,List.getElem?_cons_zero,List.getElem?_cons_succ,fA,fG,fC,ra.cell,rb.cell]
    have xx:=((x2.trans hx).trans hx').trans hx''
    have fin:∀c4:Bool,c4=(decide ((0<=q3/\q3<=65535)/\(0<=q6/\q6<=65535)) && (decide (kX q2/\q5∈pl) && (decide ((q1=1\/q1=6\/q1=17)/\q1=q4) && decide (0<=q0/\q0<=(sw.len:Int) - 1))))->c4=decide (BA sw.len pl (q0,q1,q2,q3,q4,q5,q6,())):=by
     intro c4 h
     rw [h,<- Bool.decide_and,<- Bool.decide_and,<- Bool.decide_and]
     rfl
    rw [<- h1,<- h2,<- h3] at fin
    cases c1
    ·exact⟨fin _ (by simp),xx⟩
    ·cases c2
     ·exact⟨fin _ (by simp),xx⟩
     ·cases c3
      ·exact⟨fin _ (by simp),xx⟩
      ·simp only [cond_true]
       rw [wrap_i64 (by omega) (by omega)]
       refine lZ (xG _ _ _ _) ?_
       rintro _ w' ⟨rfl,hf⟩
       exact⟨fin _ (by simp),xx.trans hf⟩
   simp -zeta only [List.getElem?_cons_zero,List.getElem?_cons_succ,fA,fC,rb.cell]
   refine MP (VI _ _) ?_
   rintro _ w' ⟨rfl,hf⟩
   have rb:=rb.ext hf
   by_cases hp:(q1=1\/q1=6\/q1=17)
   ·simp -zeta only [hp,decide_true,cond_true,cond_true,List.getElem?_cons_zero,List.getElem?_cons_succ,fA,fC,rb.cell]
    exact hJ13 _ _ hf (by rw [Qb,decide_eq_decide];exact⟨fun h=>⟨hp,h⟩,fun h=>h.2⟩)
   ·simp -zeta only [hp,decide_false,cond_false]
    exact hJ13 _ _ hf (decide_eq_false fun h=>hp h.1).symm
  simp -zeta only [List.getElem?_cons_zero,List.getElem?_cons_succ,fA,fC,rb.cell]
  refine vV (yL _ _) ?_
  rintro _ w' ⟨rfl,hf⟩
  have rb:=rb.ext hf
  have ra:=ra.ext hf
  by_cases hp:kX q2
  ·simp -zeta only [hp,decide_true,cond_true,cond_true,List.getElem?_cons_zero,List.getElem?_cons_succ,fA,fG,fC,rb.cell,ra.cell]
   refine jQ (Aj (((hpo.ext x2).ext hx).ext hf) hpl _) ?_
   rintro _ w'' ⟨rfl,hw⟩
   subst hw
   exact hJ10 _ _ hf (by simp [hp])
  ·simp -zeta only [hp,decide_false,cond_false]
   exact hJ10 _ _ hf (by simp [hp])
 refine lZ (xG _ _ _ _) ?_
 rintro _ w' ⟨rfl,hf⟩
 have rb:=rb.ext hf
 by_cases hp:(0<=q3/\q3<=65535)
 ·simp -zeta only [hp,and_self,decide_true,cond_true,cond_true,List.getElem?_cons_zero,List.getElem?_cons_succ,fA,fC,rb.cell]
  refine lZ (xG _ _ _ _) ?_
  rintro _ w'' ⟨rfl,hf'⟩
  exact hJ7 _ _ (hf.trans hf') (by simp [hp])
 ·simp -zeta only [hp,decide_false,cond_false]
  exact hJ7 _ _ hf (by simp [hp])
theorem aaF {p0 p1 p2 p3 p4 p5 p6 p7 p8 p9 p10 p11 p12 p13 p14 p15:Int} (w:World):uQ p0 p1 p2 p3 p4 p5 p6 p7 p8 p9 p10 p11 p12 p13 p14 p15 w fun r0 r1 r2 r3 r4 r5 r6 r7 r8 r9 r10 r11 r12 r13 r14 r15 w'=>((r0,r1,r2,r3,r4,r5,r6,r7,r8,r9,r10,r11,r12,r13,r14,r15,()):oI)=(p0,p1,p2,p3,p4,p5,p6,p7,p8,p9,p10,p11,p12,p13,p14,p15,())/\Ext w w':=by
 apply AV
 refine fK fun a w1 ra ea z1 f1=>fK fun b w2 rb eb z2 f2=> ?_
 have ra:=ra.ext f2
 simp only [sx,ra.cell]
 refine fP rb rfl rfl fun w3 r3 f3 z3=> ?_
 simp only [List.getElem?_cons_zero,List.getElem?_cons_succ,fA,fC,r3.cell]
 exact⟨by trivial,(f1.trans f2).new (f3 (·=b) rfl) fun x hx e=>by omega⟩
def mG:T7->T4|(q0,q1,q2,q3,q4,q5,q6,())=>(q0,q1,q2,q3,())
def nO:T7->T3|(q0,q1,q2,q3,q4,q5,q6,())=>(q4,q5,q6,())
theorem aaD {q0 q1 q2 q3 q4 q5 q6:Int} (w:World):zC q0 q1 q2 q3 q4 q5 q6 w fun r0 r1 r2 r3 w'=>(r0=q0/\r1=q1/\r2=q2/\r3=q3)/\Ext w w':=by
 apply Gj
 refine fK fun a w1 ra ea z1 f1=>fK fun b w2 rb eb z2 f2=> ?_
 have ra:=ra.ext f2
 simp only [sx,ra.cell]
 refine fP rb rfl rfl fun w3 r3 f3 z3=> ?_
 simp only [List.getElem?_cons_zero,List.getElem?_cons_succ,fA,fC,r3.cell,and_self,true_and]
 exact(f1.trans f2).new (f3 (·=b) rfl) fun x hx e=>by omega
theorem aaQ {q0 q1 q2 q3 q4 q5 q6:Int} (w:World):zl q0 q1 q2 q3 q4 q5 q6 w fun r0 r1 r2 w'=>(r0=q4/\r1=q5/\r2=q6)/\Ext w w':=by
 apply Gn
 refine fK fun a w1 ra ea z1 f1=>fK fun b w2 rb eb z2 f2=> ?_
 have ra:=ra.ext f2
 simp only [sx,ra.cell]
 refine fP rb rfl rfl fun w3 r3 f3 z3=> ?_
 simp only [List.getElem?_cons_zero,List.getElem?_cons_succ,fA,fC,r3.cell,and_self,true_and]
 exact(f1.trans f2).new (f3 (·=b) rfl) fun x hx e=>by omega
theorem lV {f:FuncId} {cap:Array Value} {sh:List Shape} {args:List Value} {w:World} {K:Value->World->Prop} (hb:qp Tryz.prog f=true) (h:IV Tryz.prog sh f (args++cap.toList) w K):
  jI Tryz.prog sh (.func (.func f) #[] cap) args w K:=by
 unfold jI
 simp only [hb,cond_true]
 exact h
theorem Xg:MO (.func (.func F6) #[] #[]) (fun x:Int=>Value.int .i64 x) [.one (.int .i64)] (fun _=>True) (fun x=>Value.int .i64 x):=by
 intro x W K _ hK
 refine lV (by kernel_rfl) ?_
 refine Calls.mono (Em (a0:=x) (w:=W) (K:=fun r W'=>r=x/\Ext W W') ?_) ?_
 ·exact⟨rfl,Ext.refl _⟩
 ·rintro e W' ⟨r,he,rfl,hf⟩
  exact⟨r,he,hK W' hf⟩
theorem UW:MO (.func (.func BD) #[] #[]) (fun x:oI=>Value.agg ⟨e16 x⟩) [.agg K16] (fun _=>True) (fun x:oI=>Value.agg ⟨e16 x⟩):=by
 intro x W K _ hK
 obtain⟨p0,p1,p2,p3,p4,p5,p6,p7,p8,p9,p10,p11,p12,p13,p14,p15,⟨⟩⟩:=x
 refine lV (by kernel_rfl) ?_
 refine Calls.mono (aaF W) ?_
 rintro e W' ⟨r0,r1,r2,r3,r4,r5,r6,r7,r8,r9,r10,r11,r12,r13,r14,r15,he,h,hf⟩
 refine⟨r0,r1,r2,r3,r4,r5,r6,r7,r8,r9,r10,r11,r12,r13,r14,r15,he,?_⟩
 have hK:=hK W' hf
 rw [<- h] at hK
 exact hK
theorem ZF:MO (.func (.func Ib) #[] #[]) (fun x:T7=>Value.agg ⟨e7 x⟩) [.agg K4] (fun _=>True) (fun x:T7=>Value.agg ⟨e4 (mG x)⟩):=by
 intro x W K _ hK
 obtain⟨q0,q1,q2,q3,q4,q5,q6,⟨⟩⟩:=x
 refine lV (by kernel_rfl) ?_
 refine Calls.mono (aaD W) ?_
 rintro e W' ⟨r0,r1,r2,r3,he,⟨rfl,rfl,rfl,rfl⟩,hf⟩
 exact⟨r0,r1,r2,r3,he,hK W' hf⟩
theorem ZQ:MO (.func (.func H9) #[] #[]) (fun x:T7=>Value.agg ⟨e7 x⟩) [.agg K3] (fun _=>True) (fun x:T7=>Value.agg ⟨e3 (nO x)⟩):=by
 intro x W K _ hK
 obtain⟨q0,q1,q2,q3,q4,q5,q6,⟨⟩⟩:=x
 refine lV (by kernel_rfl) ?_
 refine Calls.mono (aaQ W) ?_
 rintro e W' ⟨r0,r1,r2,he,⟨rfl,rfl,rfl⟩,hf⟩
 exact⟨r0,r1,r2,he,hK W' hf⟩
theorem VK:MO (.func (.func KR) #[] #[]) (fun x:oI=>Value.agg ⟨e16 x⟩) [.one .bool] (fun _=>True) (fun x:oI=> .bool (!mV x)):=by
 intro x W K _ hK
 obtain⟨p0,p1,p2,p3,p4,p5,p6,p7,p8,p9,p10,p11,p12,p13,p14,p15,⟨⟩⟩:=x
 refine lV (by kernel_rfl) ?_
 refine Calls.mono (I_ (w:=W) (K:=fun r W'=>r= !mV (p0,p1,p2,p3,p4,p5,p6,p7,p8,p9,p10,p11,p12,p13,p14,p15,())/\Ext W W') ?_) ?_
 ·refine fK fun a w1 ra ea z1 f1=> ?_
  simp only [sx,ra.cell]
  refine LQ (LH w1) ?_
  rintro _ w' ⟨rfl,hf⟩
  exact⟨rfl,f1.trans hf⟩
 ·rintro e W' ⟨r,he,rfl,hf⟩
  exact⟨_,he,hK W' hf⟩
theorem Uo:MO (.func (.func Kt) #[] #[]) (fun x:Int=>Value.int .i64 x) [.one .bool] (fun _=>True) (fun x:Int=> .bool (!decide (kX x))):=by
 intro x W K _ hK
 refine lV (by kernel_rfl) ?_
 refine Calls.mono (Ji (a0:=x) (w:=W) (K:=fun r W'=>r= !decide (kX x)/\Ext W W') ?_) ?_
 ·refine vV (yL x W) ?_
  rintro _ w' ⟨rfl,hf⟩
  exact⟨rfl,hf⟩
 ·rintro e W' ⟨r,he,rfl,hf⟩
  exact⟨_,he,hK W' hf⟩
theorem Zp {f0:Nat} {p0 p1 p2 p3 p4 p5 p6 p7 p8 p9 p10 p11 p12 p13 p14 p15:Int} {sw po:b_} {n18 n19 n20 n21 n22 n23 n24 n25 n26 n27 n28 n29 n30 n31 n32 n33 n34:Int} {st:b_} {pl:List Int} (hsl:sw.len<=2^62) (hpl:po.len<=2^62):
  MO (.func (.func KD) #[] #[.pointer (some ⟨f0,0,none⟩)]) (fun x:T7=>Value.agg ⟨e7 x⟩) [.one .bool]
   (fun W=>Row W f0 (.int .u8 p0:: .int .u8 p1:: .int .u8 p2:: .int .u8 p3:: .int .u8 p4:: .int .u8 p5:: .int .u8 p6:: .int .u8 p7:: .int .u8 p8:: .int .u8 p9:: .int .u8 p10:: .int .u8 p11:: .int .u8 p12:: .int .u8 p13:: .int .u8 p14:: .int .u8 p15:: .slice sw.a sw.len sw.cap:: .slice po.a po.len po.cap:: .int .i64 n18:: .int .i64 n19:: .int .i64 n20:: .int .i64 n21:: .int .i64 n22:: .int .i64 n23:: .int .i64 n24:: .int .i64 n25:: .int .i64 n26:: .int .i64 n27:: .int .i64 n28:: .int .i64 n29:: .int .i64 n30:: .int .i64 n31:: .int .i64 n32:: .int .i64 n33:: .int .i64 n34:: .slice st.a st.len st.cap::[])/\kH 1 eI W po pl) (fun x:T7=> .bool (!decide (BA sw.len pl x))):=by
 rintro x W K ⟨hr,hpo⟩ hK
 obtain⟨q0,q1,q2,q3,q4,q5,q6,⟨⟩⟩:=x
 refine lV (by kernel_rfl) ?_
 refine Calls.mono (Jp (f0:=⟨f0,0,none⟩) (w:=W) (K:=fun r W'=>r= !decide (BA sw.len pl (q0,q1,q2,q3,q4,q5,q6,()))/\Ext W W') ?_) ?_
 ·refine fK fun a w1 ra ea z1 f1=> ?_
  have hr:=hr.ext f1
  simp only [sx,ra.cell,hr.cell]
  refine Py (SG hsl (hpo.ext f1) hpl) ?_
  rintro _ w' ⟨rfl,hf⟩
  exact⟨rfl,f1.trans hf⟩
 ·rintro e W' ⟨r,he,rfl,hf⟩
  exact⟨_,he,hK W' hf⟩
theorem abf {f0:Nat} {p0 p1 p2 p3 p4 p5 p6 p7 p8 p9 p10 p11 p12 p13 p14 p15:Int} {sw po:b_} {n18 n19 n20 n21 n22 n23 n24 n25 n26 n27 n28 n29 n30 n31 n32 n33 n34:Int} {st:b_}:
  MO (.func (.func Ij) #[] #[.pointer (some ⟨f0,0,none⟩)]) (fun x:Int=>Value.int .i64 x) [.one .bool]
   (fun W=>Row W f0 (.int .u8 p0:: .int .u8 p1:: .int .u8 p2:: .int .u8 p3:: .int .u8 p4:: .int .u8 p5:: .int .u8 p6:: .int .u8 p7:: .int .u8 p8:: .int .u8 p9:: .int .u8 p10:: .int .u8 p11:: .int .u8 p12:: .int .u8 p13:: .int .u8 p14:: .int .u8 p15:: .slice sw.a sw.len sw.cap:: .slice po.a po.len po.cap:: .int .i64 n18:: .int .i64 n19:: .int .i64 n20:: .int .i64 n21:: .int .i64 n22:: .int .i64 n23:: .int .i64 n24:: .int .i64 n25:: .int .i64 n26:: .int .i64 n27:: .int .i64 n28:: .int .i64 n29:: .int .i64 n30:: .int .i64 n31:: .int .i64 n32:: .int .i64 n33:: .int .i64 n34:: .slice st.a st.len st.cap::[])) (fun x:Int=> .bool (decide (x>n20))):=by
 rintro x W K hr hK
 refine lV (by kernel_rfl) ?_
 refine Calls.mono (GV (a0:=x) (f0:=⟨f0,0,none⟩) (w:=W) (K:=fun r W'=>r=decide (x>n20)/\Ext W W') ?_) ?_
 ·simp only [sx,hr.cell]
  exact⟨by trivial,Ext.refl _⟩
 ·rintro e W' ⟨r,he,rfl,hf⟩
  exact⟨_,he,hK W' hf⟩
end Go.Proofs.CN
namespace Go.Proofs.CN
open Gp
set_option maxRecDepth 100000
theorem Nl {α β:Type} {xs:List α} {k:α->β} {i:Nat} {x:α} (h:xs[i]? =some x):(((xs.map k).map fun y=>(y,())):List (β×Unit))[i]? =some (k x,()):=by
 rw [List.getElem?_map,List.getElem?_map,h];rfl
theorem JC {f0 f1:Nat} {s:b_} {xs:List Int} {fv:Value} {k:Int->Int} (hl:s.len<=2^62) (hk:MO fv (fun x:Int=>Value.int .i64 x) [.one (.int .i64)] (fun _=>True) (fun x=>(fun x:Int=>Value.int .i64 x) (k x))):
  n_ Tryz.prog [.one (.int .i64)] (Value.func (.func BO) #[] #[.pointer (some ⟨f0,0,none⟩),.pointer (some ⟨f1,0,none⟩)]) (fun W=>Row W f0 [.slice s.a s.len s.cap]/\Row W f1 [fv]/\kH 1 eI W s xs) ((xs.map k).map fun y=>(y,())):=by
 refine⟨by kernel_rfl,fun l Q D hC hQ hD hy w h0=> ?_⟩
 refine Calls.mono (AO (a0:= .func (.yield l) #[] #[]) (f0:=⟨f0,0,none⟩) (f1:=⟨f1,0,none⟩) (K:=fun w'=>Q (((xs.map k).map fun y=>(y,())):List (Int×Unit)).length w'\/D w') ?_) (fun e w' h=>h)
 obtain⟨r0,r1,hs⟩:=hC _ _ h0
 simp only [sx,r0.cell]
 refine fE (fun st W=>∃j:Nat,j<=xs.length/\st.1=(j:Int)/\Q j W) (fun st _=>(s.len - st.1).toNat) ⟨0,by omega,rfl,h0⟩ ?_
 rintro⟨i,⟨⟩⟩ W ⟨j,hj,hi,hq⟩ next hnext
 simp only at hi
 subst hi
 obtain⟨r0,r1,hs⟩:=hC _ _ hq
 have hlen:=hs.len
 by_cases hlt:(j:Int)<(s.len:Int)
 ·simp only [hlt,decide_true,cond_true]
  have hx:=List.getElem?_eq_getElem (show j<xs.length by omega)
  generalize xs[j]=x at hx
  have hyx:=Nl (k:=k) hx
  refine jg jB (by omega) hs (by omega) (by rw [Int.toNat_natCast];exact hx) fun a hc=> ?_
  have hkx:=hk x
  dsimp only at hkx
  generalize k x=y at hkx hyx
  obtain x:=x
  have c0:W.cell? (a.add 0)=some (.int .i64 x):=hc 0 _ rfl
  rw [show a.add 0=a from rfl] at c0
  simp only [List.getElem?_cons_zero,fA,fC,S_,c0,r1.cell]
  obtain⟨W1,hW1⟩:∃W1,W1=W:=⟨W,rfl⟩
  subst hW1
  have hq1:=hq
  refine hkx W1 _ trivial fun W2 hf2=> ?_
  have hq2:=hQ _ _ _ hq1 hf2
  obtain y:=y
  refine⟨y,rfl,?_⟩
  refine oK (hy j _ W2 _ hyx hq2 ?_ ?_)
  ·intro W' hq'
   refine⟨true,rfl,?_⟩
   simp only [Bool.not_true,cond_false]
   rw [wrap_i64 (by omega) (by omega)]
   exact hnext _ _ ⟨j+1,by omega,by simp,hq'⟩ (by simp only;omega)
  ·intro W' hd
   exact⟨false,rfl,by simp only [Bool.not_false,cond_true];exact .inr hd⟩
 ·simp only [hlt,decide_false,cond_false]
  have:j=xs.length:=by omega
  subst this
  exact .inl (by simpa using hq)
theorem RD {w:World} {s:b_} {xs:List Int} {fv:Value} {k:Int->Int} (hs:kH 1 eI w s xs) (hl:s.len<=2^62) (ho:gY fv=true) (hk:MO fv (fun x:Int=>Value.int .i64 x) [.one (.int .i64)] (fun _=>True) (fun x=>(fun x:Int=>Value.int .i64 x) (k x))):
  jW s fv w fun v w'=>Ext w w'/\∃C,n_ Tryz.prog [.one (.int .i64)] v C ((xs.map k).map fun y=>(y,()))/\∀W,Ext w' W->C W:=by
 apply Cm
 refine⟨rfl,fK fun a w1 ra ea z1 f1=>⟨ho,fK fun b w2 rb eb z2 f2=> ?_⟩⟩
 exact⟨f1.trans f2,_,JC hl hk,fun W hW=>⟨(ra.ext f2).ext hW,rb.ext hW,((hs.ext f1).ext f2).ext hW⟩⟩
theorem zU {f0 f1:Nat} {s:b_} {xs:List oI} {fv:Value} {k:oI->oI} (hl:s.len<=2^62) (hk:MO fv (fun x:oI=>Value.agg ⟨e16 x⟩) [.agg K16] (fun _=>True) (fun x=>(fun x:oI=>Value.agg ⟨e16 x⟩) (k x))):
  n_ Tryz.prog [.agg K16] (Value.func (.func vY) #[] #[.pointer (some ⟨f0,0,none⟩),.pointer (some ⟨f1,0,none⟩)]) (fun W=>Row W f0 [.slice s.a s.len s.cap]/\Row W f1 [fv]/\kH 16 e16 W s xs) ((xs.map k).map fun y=>(y,())):=by
 refine⟨by kernel_rfl,fun l Q D hC hQ hD hy w h0=> ?_⟩
 refine Calls.mono (vW (a0:= .func (.yield l) #[] #[]) (f0:=⟨f0,0,none⟩) (f1:=⟨f1,0,none⟩) (K:=fun w'=>Q (((xs.map k).map fun y=>(y,())):List (oI×Unit)).length w'\/D w') ?_) (fun e w' h=>h)
 obtain⟨r0,r1,hs⟩:=hC _ _ h0
 simp only [sx,r0.cell]
 refine fE (fun st W=>∃j:Nat,j<=xs.length/\st.1=(j:Int)/\Q j W) (fun st _=>(s.len - st.1).toNat) ⟨0,by omega,rfl,h0⟩ ?_
 rintro⟨i,⟨⟩⟩ W ⟨j,hj,hi,hq⟩ next hnext
 simp only at hi
 subst hi
 obtain⟨r0,r1,hs⟩:=hC _ _ hq
 have hlen:=hs.len
 by_cases hlt:(j:Int)<(s.len:Int)
 ·simp only [hlt,decide_true,cond_true]
  have hx:=List.getElem?_eq_getElem (show j<xs.length by omega)
  generalize xs[j]=x at hx
  have hyx:=Nl (k:=k) hx
  refine jg oW (by omega) hs (by omega) (by rw [Int.toNat_natCast];exact hx) fun a hc=> ?_
  have hkx:=hk x
  dsimp only at hkx
  generalize k x=y at hkx hyx
  obtain⟨x0,x1,x2,x3,x4,x5,x6,x7,x8,x9,x10,x11,x12,x13,x14,x15,⟨⟩⟩:=x
  have c0:W.cell? (a.add 0)=some (.int .u8 x0):=hc 0 _ rfl;have c1:W.cell? (a.add 1)=some (.int .u8 x1):=hc 1 _ rfl;have c2:W.cell? (a.add 2)=some (.int .u8 x2):=hc 2 _ rfl;have c3:W.cell? (a.add 3)=some (.int .u8 x3):=hc 3 _ rfl;have c4:W.cell? (a.add 4)=some (.int .u8 x4):=hc 4 _ rfl;have c5:W.cell? (a.add 5)=some (.int .u8 x5):=hc 5 _ rfl;have c6:W.cell? (a.add 6)=some (.int .u8 x6):=hc 6 _ rfl;have c7:W.cell? (a.add 7)=some (.int .u8 x7):=hc 7 _ rfl;have c8:W.cell? (a.add 8)=some (.int .u8 x8):=hc 8 _ rfl;have c9:W.cell? (a.add 9)=some (.int .u8 x9):=hc 9 _ rfl;have c10:W.cell? (a.add 10)=some (.int .u8 x10):=hc 10 _ rfl;have c11:W.cell? (a.add 11)=some (.int .u8 x11):=hc 11 _ rfl;have c12:W.cell? (a.add 12)=some (.int .u8 x12):=hc 12 _ rfl;have c13:W.cell? (a.add 13)=some (.int .u8 x13):=hc 13 _ rfl;have c14:W.cell? (a.add 14)=some (.int .u8 x14):=hc 14 _ rfl;have c15:W.cell? (a.add 15)=some (.int .u8 x15):=hc 15 _ rfl
  simp only [fA,fC,c0,c1,c2,c3,c4,c5,c6,c7,c8,c9,c10,c11,c12,c13,c14,c15]
  refine Cc rfl rfl fun t W1 rt et zt ft=> ?_
  have r1:=r1.ext ft
  have hq1:=hQ _ _ _ hq ft
  simp only [sx,r1.cell,rt.cell]
  refine hkx W1 _ trivial fun W2 hf2=> ?_
  have hq2:=hQ _ _ _ hq1 hf2
  obtain⟨y0,y1,y2,y3,y4,y5,y6,y7,y8,y9,y10,y11,y12,y13,y14,y15,⟨⟩⟩:=y
  refine⟨y0,y1,y2,y3,y4,y5,y6,y7,y8,y9,y10,y11,y12,y13,y14,y15,rfl,?_⟩
  refine oK (hy j _ W2 _ hyx hq2 ?_ ?_)
  ·intro W' hq'
   refine⟨true,rfl,?_⟩
   simp only [Bool.not_true,cond_false]
   rw [wrap_i64 (by omega) (by omega)]
   exact hnext _ _ ⟨j+1,by omega,by simp,hq'⟩ (by simp only;omega)
  ·intro W' hd
   exact⟨false,rfl,by simp only [Bool.not_false,cond_true];exact .inr hd⟩
 ·simp only [hlt,decide_false,cond_false]
  have:j=xs.length:=by omega
  subst this
  exact .inl (by simpa using hq)
theorem Ep {w:World} {s:b_} {xs:List oI} {fv:Value} {k:oI->oI} (hs:kH 16 e16 w s xs) (hl:s.len<=2^62) (ho:gY fv=true) (hk:MO fv (fun x:oI=>Value.agg ⟨e16 x⟩) [.agg K16] (fun _=>True) (fun x=>(fun x:oI=>Value.agg ⟨e16 x⟩) (k x))):
  iO s fv w fun v w'=>Ext w w'/\∃C,n_ Tryz.prog [.agg K16] v C ((xs.map k).map fun y=>(y,()))/\∀W,Ext w' W->C W:=by
 apply wR
 refine⟨rfl,fK fun a w1 ra ea z1 f1=>⟨ho,fK fun b w2 rb eb z2 f2=> ?_⟩⟩
 exact⟨f1.trans f2,_,zU hl hk,fun W hW=>⟨(ra.ext f2).ext hW,rb.ext hW,((hs.ext f1).ext f2).ext hW⟩⟩
theorem wK {f0 f1:Nat} {s:b_} {xs:List T7} {fv:Value} {k:T7->T4} (hl:s.len<=2^62) (hk:MO fv (fun x:T7=>Value.agg ⟨e7 x⟩) [.agg K4] (fun _=>True) (fun x=>(fun x:T4=>Value.agg ⟨e4 x⟩) (k x))):
  n_ Tryz.prog [.agg K4] (Value.func (.func tC) #[] #[.pointer (some ⟨f0,0,none⟩),.pointer (some ⟨f1,0,none⟩)]) (fun W=>Row W f0 [.slice s.a s.len s.cap]/\Row W f1 [fv]/\kH 7 e7 W s xs) ((xs.map k).map fun y=>(y,())):=by
 refine⟨by kernel_rfl,fun l Q D hC hQ hD hy w h0=> ?_⟩
 refine Calls.mono (qZ (a0:= .func (.yield l) #[] #[]) (f0:=⟨f0,0,none⟩) (f1:=⟨f1,0,none⟩) (K:=fun w'=>Q (((xs.map k).map fun y=>(y,())):List (T4×Unit)).length w'\/D w') ?_) (fun e w' h=>h)
 obtain⟨r0,r1,hs⟩:=hC _ _ h0
 simp only [sx,r0.cell]
 refine fE (fun st W=>∃j:Nat,j<=xs.length/\st.1=(j:Int)/\Q j W) (fun st _=>(s.len - st.1).toNat) ⟨0,by omega,rfl,h0⟩ ?_
 rintro⟨i,⟨⟩⟩ W ⟨j,hj,hi,hq⟩ next hnext
 simp only at hi
 subst hi
 obtain⟨r0,r1,hs⟩:=hC _ _ hq
 have hlen:=hs.len
 by_cases hlt:(j:Int)<(s.len:Int)
 ·simp only [hlt,decide_true,cond_true]
  have hx:=List.getElem?_eq_getElem (show j<xs.length by omega)
  generalize xs[j]=x at hx
  have hyx:=Nl (k:=k) hx
  refine jg vP (by omega) hs (by omega) (by rw [Int.toNat_natCast];exact hx) fun a hc=> ?_
  have hkx:=hk x
  dsimp only at hkx
  generalize k x=y at hkx hyx
  obtain⟨x0,x1,x2,x3,x4,x5,x6,⟨⟩⟩:=x
  have c0:W.cell? (a.add 0)=some (.int .i64 x0):=hc 0 _ rfl;have c1:W.cell? (a.add 1)=some (.int .i64 x1):=hc 1 _ rfl;have c2:W.cell? (a.add 2)=some (.int .i64 x2):=hc 2 _ rfl;have c3:W.cell? (a.add 3)=some (.int .i64 x3):=hc 3 _ rfl;have c4:W.cell? (a.add 4)=some (.int .i64 x4):=hc 4 _ rfl;have c5:W.cell? (a.add 5)=some (.int .i64 x5):=hc 5 _ rfl;have c6:W.cell? (a.add 6)=some (.int .i64 x6):=hc 6 _ rfl
  simp only [fA,fC,c0,c1,c2,c3,c4,c5,c6]
  refine Cc rfl rfl fun t W1 rt et zt ft=> ?_
  have r1:=r1.ext ft
  have hq1:=hQ _ _ _ hq ft
  simp only [sx,r1.cell,rt.cell]
  refine hkx W1 _ trivial fun W2 hf2=> ?_
  have hq2:=hQ _ _ _ hq1 hf2
  obtain⟨y0,y1,y2,y3,⟨⟩⟩:=y
  refine⟨y0,y1,y2,y3,rfl,?_⟩
  refine oK (hy j _ W2 _ hyx hq2 ?_ ?_)
  ·intro W' hq'
   refine⟨true,rfl,?_⟩
   simp only [Bool.not_true,cond_false]
   rw [wrap_i64 (by omega) (by omega)]
   exact hnext _ _ ⟨j+1,by omega,by simp,hq'⟩ (by simp only;omega)
  ·intro W' hd
   exact⟨false,rfl,by simp only [Bool.not_false,cond_true];exact .inr hd⟩
 ·simp only [hlt,decide_false,cond_false]
  have:j=xs.length:=by omega
  subst this
  exact .inl (by simpa using hq)
theorem z_ {w:World} {s:b_} {xs:List T7} {fv:Value} {k:T7->T4} (hs:kH 7 e7 w s xs) (hl:s.len<=2^62) (ho:gY fv=true) (hk:MO fv (fun x:T7=>Value.agg ⟨e7 x⟩) [.agg K4] (fun _=>True) (fun x=>(fun x:T4=>Value.agg ⟨e4 x⟩) (k x))):
  iC s fv w fun v w'=>Ext w w'/\∃C,n_ Tryz.prog [.agg K4] v C ((xs.map k).map fun y=>(y,()))/\∀W,Ext w' W->C W:=by
 apply uj
 refine⟨rfl,fK fun a w1 ra ea z1 f1=>⟨ho,fK fun b w2 rb eb z2 f2=> ?_⟩⟩
 exact⟨f1.trans f2,_,wK hl hk,fun W hW=>⟨(ra.ext f2).ext hW,rb.ext hW,((hs.ext f1).ext f2).ext hW⟩⟩
theorem wH {f0 f1:Nat} {s:b_} {xs:List T7} {fv:Value} {k:T7->T3} (hl:s.len<=2^62) (hk:MO fv (fun x:T7=>Value.agg ⟨e7 x⟩) [.agg K3] (fun _=>True) (fun x=>(fun x:T3=>Value.agg ⟨e3 x⟩) (k x))):
  n_ Tryz.prog [.agg K3] (Value.func (.func sS) #[] #[.pointer (some ⟨f0,0,none⟩),.pointer (some ⟨f1,0,none⟩)]) (fun W=>Row W f0 [.slice s.a s.len s.cap]/\Row W f1 [fv]/\kH 7 e7 W s xs) ((xs.map k).map fun y=>(y,())):=by
 refine⟨by kernel_rfl,fun l Q D hC hQ hD hy w h0=> ?_⟩
 refine Calls.mono (rJ (a0:= .func (.yield l) #[] #[]) (f0:=⟨f0,0,none⟩) (f1:=⟨f1,0,none⟩) (K:=fun w'=>Q (((xs.map k).map fun y=>(y,())):List (T3×Unit)).length w'\/D w') ?_) (fun e w' h=>h)
 obtain⟨r0,r1,hs⟩:=hC _ _ h0
 simp only [sx,r0.cell]
 refine fE (fun st W=>∃j:Nat,j<=xs.length/\st.1=(j:Int)/\Q j W) (fun st _=>(s.len - st.1).toNat) ⟨0,by omega,rfl,h0⟩ ?_
 rintro⟨i,⟨⟩⟩ W ⟨j,hj,hi,hq⟩ next hnext
 simp only at hi
 subst hi
 obtain⟨r0,r1,hs⟩:=hC _ _ hq
 have hlen:=hs.len
 by_cases hlt:(j:Int)<(s.len:Int)
 ·simp only [hlt,decide_true,cond_true]
  have hx:=List.getElem?_eq_getElem (show j<xs.length by omega)
  generalize xs[j]=x at hx
  have hyx:=Nl (k:=k) hx
  refine jg vP (by omega) hs (by omega) (by rw [Int.toNat_natCast];exact hx) fun a hc=> ?_
  have hkx:=hk x
  dsimp only at hkx
  generalize k x=y at hkx hyx
  obtain⟨x0,x1,x2,x3,x4,x5,x6,⟨⟩⟩:=x
  have c0:W.cell? (a.add 0)=some (.int .i64 x0):=hc 0 _ rfl;have c1:W.cell? (a.add 1)=some (.int .i64 x1):=hc 1 _ rfl;have c2:W.cell? (a.add 2)=some (.int .i64 x2):=hc 2 _ rfl;have c3:W.cell? (a.add 3)=some (.int .i64 x3):=hc 3 _ rfl;have c4:W.cell? (a.add 4)=some (.int .i64 x4):=hc 4 _ rfl;have c5:W.cell? (a.add 5)=some (.int .i64 x5):=hc 5 _ rfl;have c6:W.cell? (a.add 6)=some (.int .i64 x6):=hc 6 _ rfl
  simp only [fA,fC,c0,c1,c2,c3,c4,c5,c6]
  refine Cc rfl rfl fun t W1 rt et zt ft=> ?_
  have r1:=r1.ext ft
  have hq1:=hQ _ _ _ hq ft
  simp only [sx,r1.cell,rt.cell]
  refine hkx W1 _ trivial fun W2 hf2=> ?_
  have hq2:=hQ _ _ _ hq1 hf2
  obtain⟨y0,y1,y2,⟨⟩⟩:=y
  refine⟨y0,y1,y2,rfl,?_⟩
  refine oK (hy j _ W2 _ hyx hq2 ?_ ?_)
  ·intro W' hq'
   refine⟨true,rfl,?_⟩
   simp only [Bool.not_true,cond_false]
   rw [wrap_i64 (by omega) (by omega)]
   exact hnext _ _ ⟨j+1,by omega,by simp,hq'⟩ (by simp only;omega)
  ·intro W' hd
   exact⟨false,rfl,by simp only [Bool.not_false,cond_true];exact .inr hd⟩
 ·simp only [hlt,decide_false,cond_false]
  have:j=xs.length:=by omega
  subst this
  exact .inl (by simpa using hq)
theorem zV {w:World} {s:b_} {xs:List T7} {fv:Value} {k:T7->T3} (hs:kH 7 e7 w s xs) (hl:s.len<=2^62) (ho:gY fv=true) (hk:MO fv (fun x:T7=>Value.agg ⟨e7 x⟩) [.agg K3] (fun _=>True) (fun x=>(fun x:T3=>Value.agg ⟨e3 x⟩) (k x))):
  iy s fv w fun v w'=>Ext w w'/\∃C,n_ Tryz.prog [.agg K3] v C ((xs.map k).map fun y=>(y,()))/\∀W,Ext w' W->C W:=by
 apply tX
 refine⟨rfl,fK fun a w1 ra ea z1 f1=>⟨ho,fK fun b w2 rb eb z2 f2=> ?_⟩⟩
 exact⟨f1.trans f2,_,wH hl hk,fun W hW=>⟨(ra.ext f2).ext hW,rb.ext hW,((hs.ext f1).ext f2).ext hW⟩⟩
def wL (p:oI) (n:Nat) (sl:List oI) (pl:List Int) (tl:List T7):Bool:=
 mV p && (!(sl.any fun x=> !mV x) && (!(pl.any fun x=> !decide (kX x)) && !(tl.any fun x=> !decide (BA n pl x))))
theorem Zz {w:World} {p0 p1 p2 p3 p4 p5 p6 p7 p8 p9 p10 p11 p12 p13 p14 p15:Int} {sw po:b_} {n18 n19 n20 n21 n22 n23 n24 n25 n26 n27 n28 n29 n30 n31 n32 n33 n34:Int} {st:b_} {sl:List oI} {pl:List Int} {tl:List T7} (hsw:kH 16 e16 w sw sl) (hpo:kH 1 eI w po pl) (hst:kH 7 e7 w st tl) (lsw:sw.len<=2^62) (lpo:po.len<=2^62) (lst:st.len<=2^62):
  qG p0 p1 p2 p3 p4 p5 p6 p7 p8 p9 p10 p11 p12 p13 p14 p15 sw po n18 n19 n20 n21 n22 n23 n24 n25 n26 n27 n28 n29 n30 n31 n32 n33 n34 st w fun r w'=>r=wL (p0,p1,p2,p3,p4,p5,p6,p7,p8,p9,p10,p11,p12,p13,p14,p15,()) sw.len sl pl tl/\Ext w w':=by
 apply MN
 refine fK fun a w1 ra ea z1 f1=> ?_
 simp -zeta only [sx,ra.cell]
 intro J4
 have hJ4:∀b W,Ext w1 W->b= !(mV (p0,p1,p2,p3,p4,p5,p6,p7,p8,p9,p10,p11,p12,p13,p14,p15,()) && !(sl.any fun x=> !mV x))->J4 b W:=by
  intro b W hx hb
  simp -zeta only [J4]
  cases b
  ·simp -zeta only [cond_false]
   intro J7
   have hJ7:∀b W',Ext W W'->b= !(!(pl.any fun x=> !decide (kX x)) && !(tl.any fun x=> !decide (BA sw.len pl x)))->J7 b W':=by
    intro b2 W' hx' hb2
    simp only [J7]
    have e1:(mV (p0,p1,p2,p3,p4,p5,p6,p7,p8,p9,p10,p11,p12,p13,p14,p15,()) && !(sl.any fun x=> !mV x))=true:=by rw [<- Bool.not_not (mV _ && _),<- hb];rfl
    have xx:=(f1.trans hx).trans hx'
    have hr:wL (p0,p1,p2,p3,p4,p5,p6,p7,p8,p9,p10,p11,p12,p13,p14,p15,()) sw.len sl pl tl= !b2:=by
     unfold wL
     rw [<- Bool.and_assoc,e1,hb2,Bool.true_and,Bool.not_not]
    rw [hr]
    cases b2
    ·exact⟨rfl,xx⟩
    ·exact⟨rfl,xx⟩
   have raW:=ra.ext hx
   simp -zeta only [List.getElem?_cons_zero,List.getElem?_cons_succ,fA,fG,raW.cell]
   refine nZ (Ox ((hpo.ext f1).ext hx) lpo Uo fun _ _=>trivial) ?_
   rintro _ w' ⟨rfl,hf⟩
   cases hp:pl.any fun x=> !decide (kX x)
   ·have ra':=raW.ext hf
    simp -zeta only [cond_false,cond_false,List.getElem?_cons_zero,List.getElem?_cons_succ,fA,fG,ra'.cell]
    refine oG (VJ (((hst.ext f1).ext hx).ext hf) lst (Zp lsw lpo) fun W hW=>⟨ra'.ext hW,(((hpo.ext f1).ext hx).ext hf).ext hW⟩) ?_
    rintro _ w'' ⟨rfl,hf'⟩
    exact hJ7 _ _ (hf.trans hf') (by rw [hp];simp)
   ·simp -zeta only [cond_true]
    exact hJ7 _ _ hf (by rw [hp];simp)
  ·simp only [cond_true]
   have e1:(mV (p0,p1,p2,p3,p4,p5,p6,p7,p8,p9,p10,p11,p12,p13,p14,p15,()) && !(sl.any fun x=> !mV x))=false:=by rw [<- Bool.not_not (mV _ && _),<- hb];rfl
   refine⟨?_,f1.trans hx⟩
   unfold wL
   rw [<- Bool.and_assoc,e1,Bool.false_and]
 refine LQ (LH _) ?_
 rintro _ w' ⟨rfl,hf⟩
 cases hp:mV (p0,p1,p2,p3,p4,p5,p6,p7,p8,p9,p10,p11,p12,p13,p14,p15,())
 ·simp -zeta only [Bool.not_false,cond_true]
  exact hJ4 _ _ hf (by rw [hp];simp)
 ·have ra':=ra.ext hf
  simp -zeta only [Bool.not_true,cond_false,cond_false,List.getElem?_cons_zero,List.getElem?_cons_succ,fA,fG,ra'.cell]
  refine qY (Uh ((hsw.ext f1).ext hf) lsw VK fun _ _=>trivial) ?_
  rintro _ w'' ⟨rfl,hf'⟩
  exact hJ4 _ _ (hf.trans hf') (by rw [hp];simp)
end Go.Proofs.CN
