import Derived.Test.YtcmnjlhbgjhbcaaGreatDoorW5
set_option maxRecDepth 100000
open List (any_append any_cons any_nil getElem?_cons_succ getElem?_cons_zero getElem?_eq_getElem getElem?_map getElem_mem map_take take_of_length_le)
open Int (toNat_natCast)
open Bool (decide_and not_eq_true)
namespace Gp.Cfg
theorem nG {α:Type} {l:List α}:l.Nodup↔∀(i:Nat) x,l[i]? =some x->x∉l.take i:=by
 unfold List.Nodup;rw[List.pairwise_iff_getElem];constructor
 ·intro h i x hx hm;obtain⟨hi,rfl⟩:=List.getElem?_eq_some_iff.1 hx;obtain⟨j,hj,he⟩:=List.mem_take_iff_getElem.1 hm;exact h j i (by omega) hi (by omega) he
 ·intro h i j hi hj hlt he;exact h j l[j] (getElem?_eq_getElem hj) (List.mem_take_iff_getElem.2 ⟨i,by omega,he⟩)
theorem AO {α:Type} {l:List α} {a:α}:(l++[a]).Nodup↔l.Nodup/\a∉l:=by
 rw[List.nodup_append];constructor
 ·rintro⟨h1,_,h3⟩;exact⟨h1,λhm=>h3 a hm a (by simp) rfl⟩
 ·rintro⟨h1,h2⟩;exact⟨h1,by simp,λx hx y hy e=>by simp only[List.mem_singleton] at hy;subst hy;subst e;exact h2 hx⟩
theorem FD {α β:Type} {f:α->β} {l:List α}:(l.map f).Nodup↔∀(i:Nat) x,l[i]? =some x->∀y∈l.take i,f y≠f x:=by
 rw[nG];constructor
 ·intro h i x hx y hy he;refine h i (f x) (by rw[getElem?_map,hx];rfl) ?_;rw[<- map_take];exact List.mem_map.2 ⟨y,hy,he⟩
 ·intro h i x hx hm;rw[getElem?_map] at hx
  cases hl:l[i]? with
  |none=>rw[hl] at hx;cases hx
  |some z=>
   rw[hl] at hx;simp only[Option.map_some,Option.some.injEq] at hx;subst hx;rw[<- map_take] at hm;obtain⟨y,hy,he⟩:=List.mem_map.1 hm;exact h i z hl y hy he
theorem take_snoc {α:Type} {l:List α} {i:Nat} {x:α} (h:l[i]? =some x):l.take (i+1)=l.take i++[x]:=by
 rw[List.take_add_one,h];rfl
theorem acX {α:Type} (sw:α->Int) {l:List α} {n:Nat} {q:Int} (hq:1<=q) (hr:∀x∈l,0<=sw x/\sw x<(n:Int)):
  (∀k:Nat,k<n->((l.countP λy=>sw y==(k:Int):Nat):Int)<=q)↔∀(i:Nat) x,l[i]? =some x->1+(((l.take i).countP λy=>sw y==sw x:Nat):Int)<=q:=by
 constructor
 ·intro h i x hx;have hm:=hr x (List.mem_of_getElem? hx);have:=h (sw x).toNat (by omega);rw[show (((sw x).toNat:Nat):Int)=sw x by omega] at this;have hs:(l.take (i+1)).countP (λy=>sw y==sw x)<=l.countP λy=>sw y==sw x:=(List.take_sublist _ _).countP_le;rw[take_snoc hx,List.countP_append] at hs;simp only[List.countP_singleton,beq_self_eq_true,if_true] at hs;omega
 ·intro h k _;have key:∀m:Nat,m<=l.length->(((l.take m).countP λy=>sw y==(k:Int):Nat):Int)<=q:=by
   intro m
   induction m with
   |zero=>intro _;simp;omega
   |succ m ih=>
    intro hm;have hx:=getElem?_eq_getElem (show m<l.length by omega);rw[take_snoc hx,List.countP_append,List.countP_singleton];have h1:=h m _ hx;have h2:=ih (by omega);by_cases he:sw l[m]=(k:Int)
    ·rw[he] at h1;rw[if_pos (by simpa using he)];omega
    ·rw[if_neg (by simpa using he)];omega
  have:=key l.length (Nat.le_refl _)
  rwa [List.take_length] at this
structure Fine {α β γ:Type} (fi:α->β) (fo:α->γ) (sw:α->Int) (q:Int) (l:List α) (i:Nat) (x:α):Prop where
 one:∀y∈l.take i,fi y≠fi x/\fo y≠fo x
 few:1+(((l.take i).countP λy=>sw y==sw x:Nat):Int)<=q
theorem YI {α β γ:Type} {fi:α->β} {fo:α->γ} (sw:α->Int) {l:List α} {n:Nat} {q:Int} (hq:1<=q) (hr:∀x∈l,0<=sw x/\sw x<(n:Int)):
  (∀(i:Nat) x,l[i]? =some x->Fine fi fo sw q l i x)↔((l.map fi).Nodup/\(l.map fo).Nodup/\∀k:Nat,k<n->((l.countP λy=>sw y==(k:Int):Nat):Int)<=q):=by
 rw[FD,FD,acX sw hq hr];constructor
 ·intro h;exact⟨λi x hx y hy=>((h i x hx).one y hy).1,λi x hx y hy=>((h i x hx).one y hy).2,λi x hx=>(h i x hx).few⟩
 ·rintro⟨h1,h2,h3⟩ i x hx;exact⟨λy hy=>⟨h1 i x hx y hy,h2 i x hx y hy⟩,h3 i x hx⟩
end Gp.Cfg
namespace Go.Proofs.CN
open Gp
abbrev eI (x:Int):List Value:=[.int .i64 x]
theorem qG (x:Int):(eI x).length=1:=rfl
theorem SlN_ix {α:Type} {n:Nat} {f:α->List Value} {w:World} {s:eY} {xs:List α} (hn:∀x,(f x).length=n) (hn0:0<n) (h:lV n f w s xs) {i:Int} {K:Addr->Prop} {x:α} (h0:0<=i) (hx:xs[i.toNat]? =some x)
  (hK:∀a:Addr,(∀j v,(f x)[j]? =some v->w.cell? (a.add j)=some v)->K a):iP s n i K:=by
 obtain⟨a,ha,hc⟩:=h.at_ hn hn0 hx;have hlt:=(List.getElem?_eq_some_iff.1 hx).1;obtain⟨sa,sl,sc⟩:=s;simp only at ha;subst ha;have hl:sl=xs.length:=h.len;refine(wF ..).2 ⟨h0,by omega,hK _ λj v hj=> ?_⟩;rw[<- hc j v hj];congr 1;obtain⟨b,o,t⟩:=a;unfold Addr.add;by_cases h1:i.toNat * n=0<;>by_cases h2:j=0<;>simp[h1,h2,Nat.add_assoc]
def idx {α:Type} (xs:List α) (x:α) (r:Int):Prop:=(∃i:Nat,r=(i:Int)/\xs[i]? =some x/\x∉xs.take i)\/(r= -1/\x∉xs)
theorem ak4 {α:Type} {xs:List α} {x:α} {r:Int} (h:idx xs x r):r>=0↔x∈xs:=by
 rcases h with ⟨i,rfl,h1,_⟩|⟨rfl,h1⟩
 ·exact⟨λ_=>List.mem_of_getElem? h1,λ_=>by omega⟩
 ·exact⟨λh=>by omega,λh=>absurd h h1⟩
theorem afo {w:World} {s:eY} {xs:List Int} (hs:lV 1 eI w s xs) (hl:s.len<=2^62) (x:Int):jl s x w λr w'=>idx xs x r/\w'=w:=by
 apply uJ;refine fZ (λst W=>∃j:Nat,j<=xs.length/\st.1=(j:Int)/\W=w/\x∉xs.take j) (λst _=>(s.len - st.1).toNat) ⟨0,by omega,rfl,rfl,by simp⟩ ?_;rintro⟨i,⟨⟩⟩ W ⟨j,hj,hi,hw,hm⟩ next u
 simp only at hi;subst hi;subst hw;have hlen:=hs.len;by_cases z:(j:Int)<(s.len:Int)
 ·simp only[z,decide_true,cond_true];have hx:=getElem?_eq_getElem (show j<xs.length by omega);refine SlN_ix qG (by omega) hs (by omega) (by rw[toNat_natCast];exact hx) λa hc=> ?_;have c0:=hc 0 _ rfl;rw[show a.add 0=a from rfl] at c0;simp only[sx,c0];by_cases he:x=xs[j]
  ·rw[show (x==xs[j])=true by simpa using he,cond_true];exact⟨.inl ⟨j,rfl,by rw[hx,<- he],hm⟩,by trivial⟩
  ·rw[show (x==xs[j])=false by simpa using he,cond_false];rw[wrap_i64 (by omega) (by omega)];refine u _ _ ⟨j+1,by omega,by simp,rfl,?_⟩ (by simp only;omega);rw[Gp.Cfg.take_snoc hx,List.mem_append,List.mem_singleton];exact λh=>h.elim hm he
 ·simp only[z,decide_false,cond_false];refine⟨.inr ⟨rfl,?_⟩,by trivial⟩
  rwa [take_of_length_le (by omega)] at hm
theorem BI {w:World} {s:eY} {xs:List Int} (hs:lV 1 eI w s xs) (hl:s.len<=2^62) (x:Int):gQ s x w λr w'=>r=decide (x∈xs)/\w'=w:=by
 apply qJ;refine uG (afo hs hl x) ?_;rintro r w' ⟨h,hw⟩;exact⟨by simp only[decide_eq_decide];exact ak4 h,hw⟩
def lN (a:Int):Prop:=16777216<=a/\a<3758096384/\a / 16777216≠127
instance (a:Int):Decidable (lN a):=inferInstanceAs (Decidable (_/\_/\_))
theorem U6 {a:Int} (h:0<=a) (h2:a<4294967296):abZ a↔lN a:=by
 obtain⟨n,rfl⟩:∃n:Nat,a=(n:Int):=⟨a.toNat,by omega⟩;unfold abZ lN;rw[show (0:Int)=((0:Nat):Int) from rfl,show (2130706432:Int)=((2130706432:Nat):Int) from rfl,show (3758096384:Int)=((3758096384:Nat):Int) from rfl,
  show (24:Int)=((24:Nat):Int) from rfl,show (29:Int)=((29:Nat):Int) from rfl,BP (by omega),BP (by omega),BP (by omega),BP (by omega),BP (by omega)]
 simp only[T_,decide_eq_false_iff_not];omega
theorem D_ (a:Int) (w:World):ku a w λr w'=>r=decide (lN a)/\Ext w w':=by
 by_cases hA:abZ a
 ·refine qV (Py hA w) ?_;rintro _ w' ⟨rfl,hf⟩;exact⟨(decide_eq_true ((U6 hA.1 hA.2.1).1 hA)).symm,hf⟩
 apply Ef;refine nC (tK a _) ?_;rintro _ w' ⟨rfl,hw⟩;subst hw;by_cases hr:0<=a/\a<4294967296
 ·have hF:¬lN a:=λh=>hA ((U6 hr.1 hr.2).2 h);simp only[hr,and_self,decide_true,Bool.not_true,cond_false];refine fP λt w1 r1 e1 z1 f1=> ?_;refine NW (K:=λr w2=>r=true/\Ext w1 w2) ?_ ?_
  ·apply FX;refine fZ (λst W=>∃j:Nat,j<=3/\st.1=(j:Int)/\Ext w1 W/\(0<j->(jy .i64 a 24==jy .i64 0 24)=false)/\(1<j->(jy .i64 a 24==jy .i64 2130706432 24)=false)/\(2<j->(jy .i64 a 29==jy .i64 3758096384 29)=false)) (λst _=>(3 - st.1).toNat)
    ⟨0,by omega,rfl,Ext.refl _,by omega,by omega,by omega⟩ ?_
   rintro⟨i,⟨⟩⟩ W ⟨j,hj,hi,hx,g1,g2,g3⟩ next u
   simp only at hi;subst hi;have r:=r1.ext hx;by_cases z:j<3
   ·have hl:((j:Int)<((3:Nat):Int)):=by omega
    have I:∃x y:Int,0<=y/\y<=32/\W.cell? ⟨t,j * 2,none⟩=some (.int .i64 x)/\W.cell? ⟨t,j * 2+1,none⟩=some (.int .i64 y)/\
      (((jy .i64 a (32 - y)==jy .i64 x (32 - y))=false)->(0<j+1->(jy .i64 a 24==jy .i64 0 24)=false)/\(1<j+1->(jy .i64 a 24==jy .i64 2130706432 24)=false)/\(2<j+1->(jy .i64 a 29==jy .i64 3758096384 29)=false)):=by
     match j,z,g1,g2,g3 with
     |0,_,_,_,_=>exact⟨0,8,by omega,by omega,r.cell 0,r.cell 1,λh=>⟨λ_=>h,by omega,by omega⟩⟩
     |1,_,g1,_,_=>exact⟨2130706432,8,by omega,by omega,r.cell 2,r.cell 3,λh=>⟨λ_=>g1 (by omega),λ_=>h,by omega⟩⟩
     |2,_,g1,g2,_=>exact⟨3758096384,3,by omega,by omega,r.cell 4,r.cell 5,λh=>⟨λ_=>g1 (by omega),λ_=>g2 (by omega),λ_=>h⟩⟩
    obtain⟨x,y,hy,hy2,c0,c1,hg⟩:=I;simp only[sx,hl,decide_true,toNat_natCast,c0,c1];refine⟨by first|trivial|omega,by first|trivial|omega,?_⟩
    refine uP rfl rfl λb w3 r3 e3 z3 x3=> ?_;simp only[sx,r3.cell];refine vH (Yb hy hy2 _) ?_;rintro _ w4 ⟨rfl,x4⟩;by_cases hs:(jy .i64 a (32 - y)==jy .i64 x (32 - y))=true
    ·simp only[hs,hr,and_self,decide_true,Bool.and_true,cond_true];exact⟨by trivial,(hx.trans x3).trans x4⟩
    ·have hs:(jy .i64 a (32 - y)==jy .i64 x (32 - y))=false:=by simpa only [not_eq_true] using hs
     obtain⟨g1,g2,g3⟩:=hg hs;simp only[hs,Bool.and_false,cond_false];rw[wrap_i64 (by omega) (by omega)];exact u _ _ ⟨j+1,by omega,by simp,(hx.trans x3).trans x4,g1,g2,g3⟩ (by simp only;omega)
   ·exact absurd ⟨hr.1,hr.2,g1 (by omega),g2 (by omega),g3 (by omega)⟩ hA
  ·rintro _ w2 ⟨rfl,f2⟩;exact⟨by simp[hF],f1.trans f2⟩
 ·simp only[hr,decide_false,Bool.not_false,cond_true];have hF:¬lN a:=λh=>hr (by unfold lN at h;omega);exact⟨by simp[hF],Ext.refl _⟩
theorem Oy (a:Int) (w:World):qP a w λr w'=>r=decide (lN a)/\w'=w:=by
 apply Us;simp -zeta only;intro J;have hJ:∀b,b=decide (lN a)->J b:=λb hb=>⟨hb,by trivial⟩;clear_value J;by_cases h1:a>=16777216
 ·by_cases h2:a<3758096384
  ·simp only[h1,h2,decide_true,cond_true];refine⟨by decide,hJ _ ?_⟩;rw[Int.tdiv_eq_ediv_of_nonneg (by omega),wrap_i64 (by omega) (by omega)];unfold lN;by_cases h3:a / 16777216=127<;>simp[h1,h2,h3]
  ·simp only[h1,h2,decide_true,decide_false,cond_true,cond_false];exact hJ _ (by unfold lN;simp[h2])
 ·simp only[h1,decide_false,cond_false];exact hJ _ (by unfold lN;simp[h1])
theorem xH (n lo hi:Int) (w:World):iZ n lo hi w λr w'=>r=decide (lo<=n/\n<=hi)/\Ext w w':=by
 apply JC;refine fP λt w1 r1 e1 z1 f1=> ?_;simp only[sx,r1.cell];by_cases h:lo<=n
 ·simp only[h,decide_true,cond_true,true_and];exact f1
 ·simp only[h,decide_false,cond_false,false_and];exact⟨by trivial,f1⟩
theorem amT (n lo hi:Int) (w:World):gX n lo hi w λr w'=>r=decide (lo<=n/\n<=hi)/\w'=w:=by
 apply Zi;by_cases h:lo<=n
 ·have h':n>=lo:=h;simp only[h,decide_true,cond_true,true_and,and_self]
 ·have h':¬n>=lo:=h;simp only[h,decide_false,cond_false,false_and,and_self]
def Y5 (m:Int):Prop:=m=0\/(536<=m/\m<=65535)
instance (m:Int):Decidable (Y5 m):=inferInstanceAs (Decidable (_\/_))
theorem agc (m:Int) (w:World):qA m w λr w'=>r=decide (Y5 m)/\Ext w w':=by
 apply Pe;by_cases h:m=0
 ·subst h;simp only[beq_self_eq_true,cond_true];exact⟨by simp[Y5],Ext.refl _⟩
 ·rw[show (m==0)=false by simpa using h];simp only[cond_false];refine lM (xH _ _ _ _) ?_;rintro _ w' ⟨rfl,hf⟩;exact⟨by simp[Y5,h],hf⟩
theorem aa7 (n:Int) (w:World):qy n w λr w'=>r=decide (n=1\/n=6\/n=17)/\Ext w w':=by
 apply O_;refine fP λt w1 r1 e1 z1 f1=> ?_;have hs:lV 1 eI w1 ⟨some ⟨t,0,none⟩,3,3⟩ [1,6,17]:=(jB.row (xs:=[(1:Int),6,17]) (f:=eI) (n:=1) r1).sl qG (by omega);refine iO (BI hs (by simp) n) ?_;rintro _ w2 ⟨rfl,hw⟩;subst hw;exact⟨by simp,f1⟩
end Go.Proofs.CN
namespace Go.Proofs.CN
open Gp
abbrev K16:List Kind:=[.int .u8,.int .u8,.int .u8,.int .u8,.int .u8,.int .u8,.int .u8,.int .u8,.int .u8,.int .u8,.int .u8,.int .u8,.int .u8,.int .u8,.int .u8,.int .u8]
abbrev K7:List Kind:=[.int .i64,.int .i64,.int .i64,.int .i64,.int .i64,.int .i64,.int .i64]
abbrev K4:List Kind:=[.int .i64,.int .i64,.int .i64,.int .i64]
abbrev K3:List Kind:=[.int .i64,.int .i64,.int .i64]
abbrev T16:=Int×Int×Int×Int×Int×Int×Int×Int×Int×Int×Int×Int×Int×Int×Int×Int×Unit
abbrev T7:=Int×Int×Int×Int×Int×Int×Int×Unit
abbrev T4:=Int×Int×Int×Int×Unit
abbrev T3:=Int×Int×Int×Unit
abbrev e16 (x:T16):List Value:=QA K16 x
abbrev e7 (x:T7):List Value:=QA K7 x
abbrev e4 (x:T4):List Value:=QA K4 x
abbrev e3 (x:T3):List Value:=QA K3 x
theorem pW (x:T16):(e16 x).length=16:=rfl
theorem wR (x:T7):(e7 x).length=7:=rfl
def Tc {α:Type} (v:Value) (ev:α->Value) (sh:List Shape) (C:b_) (r:α->Value):Prop:=
 ∀x W (K:Value->b_),C W->(∀W',Ext W W'->K (r x) W')->iY Tryz.prog sh v [ev x] W K
theorem ahx {w:World} {s:eY} {xs:List Int} {v:Value} {p:Int->Bool} {C:b_} (hs:lV 1 eI w s xs) (hl:s.len<=2^62) (hp:Tc v (λx:Int=>Value.int .i64 x) [.one .bool] C λx=> .bool (p x)) (hC:∀W,Ext w W->C W):
  jf s v w λr w'=>(r>=0↔xs.any p=true)/\Ext w w':=by
 apply zo;refine fZ (λst W=>∃j:Nat,j<=xs.length/\st.1=(j:Int)/\Ext w W/\(xs.take j).any p=false) (λst _=>(s.len - st.1).toNat) ⟨0,by omega,rfl,Ext.refl _,by simp⟩ ?_;rintro⟨i,⟨⟩⟩ W ⟨j,hj,hi,hw,hm⟩ next u
 simp only at hi;subst hi;have hlen:=hs.len;by_cases I:(j:Int)<(s.len:Int)
 ·simp only[I,decide_true,cond_true];have hx:=getElem?_eq_getElem (show j<xs.length by omega);have J:=Gp.Cfg.take_snoc hx;have z:=getElem_mem (show j<xs.length by omega);generalize xs[j]=x at hx J z;refine SlN_ix qG (by omega) (hs.ext hw) (by omega) (by rw[toNat_natCast];exact hx) λa hc=> ?_;have hp:=hp x;dsimp only at hp;by_cases he:p x=true
  ·rw[he] at hp;obtain x:=x;have c0:=hc 0 _ rfl;rw[show a.add 0=a from rfl] at c0;simp only[sx,c0];refine hp W _ (hC W hw) λW' hf=>⟨true,rfl,?_⟩;simp only[cond_true];exact⟨⟨λ_=>List.any_eq_true.2 ⟨_,z,he⟩,λ_=>by omega⟩,hw.trans hf⟩
  ·have he:p x=false:=by simpa only [not_eq_true] using he
   rw[he] at hp;obtain x:=x;have c0:=hc 0 _ rfl;rw[show a.add 0=a from rfl] at c0;simp only[sx,c0];refine hp W _ (hC W hw) λW' hf=>⟨false,rfl,?_⟩;simp only[cond_false];rw[wrap_i64 (by omega) (by omega)];refine u _ _ ⟨j+1,by omega,by simp,hw.trans hf,?_⟩ (by simp only;omega);rw[J,any_append,hm,any_cons,he,any_nil];rfl
 ·simp only[I,decide_false,cond_false];rw[take_of_length_le (by omega)] at hm;exact⟨⟨λh=>by omega,λh=>by rw[hm] at h;cases h⟩,hw⟩
theorem Qu {w:World} {s:eY} {xs:List Int} {v:Value} {p:Int->Bool} {C:b_} (hs:lV 1 eI w s xs) (hl:s.len<=2^62) (hp:Tc v (λx:Int=>Value.int .i64 x) [.one .bool] C λx=> .bool (p x)) (hC:∀W,Ext w W->C W):
  iK s v w λr w'=>r=xs.any p/\Ext w w':=by
 apply w_;refine zf (ahx hs hl hp hC) ?_;rintro r w' ⟨h,hf⟩;refine⟨?_,hf⟩
 cases hb:xs.any p with
 |true=>exact decide_eq_true (h.2 hb)
 |false=>exact decide_eq_false λhh=>by rw[h.1 hh] at hb;cases hb
theorem afn {w:World} {s:eY} {xs:List T16} {v:Value} {p:T16->Bool} {C:b_} (hs:lV 16 e16 w s xs) (hl:s.len<=2^62) (hp:Tc v (λx:T16=>Value.agg ⟨e16 x⟩) [.one .bool] C λx=> .bool (p x)) (hC:∀W,Ext w W->C W):
  iJ s v w λr w'=>(r>=0↔xs.any p=true)/\Ext w w':=by
 apply tH;refine fZ (λst W=>∃j:Nat,j<=xs.length/\st.1=(j:Int)/\Ext w W/\(xs.take j).any p=false) (λst _=>(s.len - st.1).toNat) ⟨0,by omega,rfl,Ext.refl _,by simp⟩ ?_;rintro⟨i,⟨⟩⟩ W ⟨j,hj,hi,hw,hm⟩ next u
 simp only at hi;subst hi;have hlen:=hs.len;by_cases ab:(j:Int)<(s.len:Int)
 ·simp only[ab,decide_true,cond_true];have hx:=getElem?_eq_getElem (show j<xs.length by omega);have ac:=Gp.Cfg.take_snoc hx;have z:=getElem_mem (show j<xs.length by omega);generalize xs[j]=x at hx ac z;refine SlN_ix pW (by omega) (hs.ext hw) (by omega) (by rw[toNat_natCast];exact hx) λa hc=> ?_;have hp:=hp x;dsimp only at hp;by_cases he:p x=true
  ·rw[he] at hp;obtain⟨x0,x1,x2,x3,x4,x5,x6,x7,x8,x9,ae,af,ag,ah,ai,aj,⟨⟩⟩:=x;have c0:=hc 0 _ rfl;have c1:=hc 1 _ rfl;have c2:=hc 2 _ rfl;have c3:=hc 3 _ rfl;have c4:=hc 4 _ rfl;have c5:=hc 5 _ rfl;have c6:=hc 6 _ rfl;have c7:=hc 7 _ rfl;have c8:=hc 8 _ rfl;have c9:=hc 9 _ rfl;have I:=hc 10 _ rfl;have J:=hc 11 _ rfl;have U:=hc 12 _ rfl;have Y:=hc 13 _ rfl;have Z:=hc 14 _ rfl;have aa:=hc 15 _ rfl
   skip
   simp only[sx,c0,c1,c2,c3,c4,c5,c6,c7,c8,c9,I,J,U,Y,Z,aa];refine hp W _ (hC W hw) λW' hf=>⟨true,rfl,?_⟩;simp only[cond_true];exact⟨⟨λ_=>List.any_eq_true.2 ⟨_,z,he⟩,λ_=>by omega⟩,hw.trans hf⟩
  ·have he:p x=false:=by simpa only [not_eq_true] using he
   rw[he] at hp;obtain⟨x0,x1,x2,x3,x4,x5,x6,x7,x8,x9,ae,af,ag,ah,ai,aj,⟨⟩⟩:=x;have c0:=hc 0 _ rfl;have c1:=hc 1 _ rfl;have c2:=hc 2 _ rfl;have c3:=hc 3 _ rfl;have c4:=hc 4 _ rfl;have c5:=hc 5 _ rfl;have c6:=hc 6 _ rfl;have c7:=hc 7 _ rfl;have c8:=hc 8 _ rfl;have c9:=hc 9 _ rfl;have I:=hc 10 _ rfl;have J:=hc 11 _ rfl;have U:=hc 12 _ rfl;have Y:=hc 13 _ rfl;have Z:=hc 14 _ rfl;have aa:=hc 15 _ rfl
   skip
   simp only[sx,c0,c1,c2,c3,c4,c5,c6,c7,c8,c9,I,J,U,Y,Z,aa];refine hp W _ (hC W hw) λW' hf=>⟨false,rfl,?_⟩;simp only[cond_false];rw[wrap_i64 (by omega) (by omega)];refine u _ _ ⟨j+1,by omega,by simp,hw.trans hf,?_⟩ (by simp only;omega);rw[ac,any_append,hm,any_cons,he,any_nil];rfl
 ·simp only[ab,decide_false,cond_false];rw[take_of_length_le (by omega)] at hm;exact⟨⟨λh=>by omega,λh=>by rw[hm] at h;cases h⟩,hw⟩
theorem Yv {w:World} {s:eY} {xs:List T16} {v:Value} {p:T16->Bool} {C:b_} (hs:lV 16 e16 w s xs) (hl:s.len<=2^62) (hp:Tc v (λx:T16=>Value.agg ⟨e16 x⟩) [.one .bool] C λx=> .bool (p x)) (hC:∀W,Ext w W->C W):
  iw s v w λr w'=>r=xs.any p/\Ext w w':=by
 apply qI;refine sV (afn hs hl hp hC) ?_;rintro r w' ⟨h,hf⟩;refine⟨?_,hf⟩
 cases hb:xs.any p with
 |true=>exact decide_eq_true (h.2 hb)
 |false=>exact decide_eq_false λhh=>by rw[h.1 hh] at hb;cases hb
theorem ahy {w:World} {s:eY} {xs:List T7} {v:Value} {p:T7->Bool} {C:b_} (hs:lV 7 e7 w s xs) (hl:s.len<=2^62) (hp:Tc v (λx:T7=>Value.agg ⟨e7 x⟩) [.one .bool] C λx=> .bool (p x)) (hC:∀W,Ext w W->C W):
  gY s v w λr w'=>(r>=0↔xs.any p=true)/\Ext w w':=by
 apply pz;refine fZ (λst W=>∃j:Nat,j<=xs.length/\st.1=(j:Int)/\Ext w W/\(xs.take j).any p=false) (λst _=>(s.len - st.1).toNat) ⟨0,by omega,rfl,Ext.refl _,by simp⟩ ?_;rintro⟨i,⟨⟩⟩ W ⟨j,hj,hi,hw,hm⟩ next u
 simp only at hi;subst hi;have hlen:=hs.len;by_cases I:(j:Int)<(s.len:Int)
 ·simp only[I,decide_true,cond_true];have hx:=getElem?_eq_getElem (show j<xs.length by omega);have J:=Gp.Cfg.take_snoc hx;have z:=getElem_mem (show j<xs.length by omega);generalize xs[j]=x at hx J z;refine SlN_ix wR (by omega) (hs.ext hw) (by omega) (by rw[toNat_natCast];exact hx) λa hc=> ?_;have hp:=hp x;dsimp only at hp;by_cases he:p x=true
  ·rw[he] at hp;obtain⟨x0,x1,x2,x3,x4,x5,x6,⟨⟩⟩:=x;have c0:=hc 0 _ rfl;have c1:=hc 1 _ rfl;have c2:=hc 2 _ rfl;have c3:=hc 3 _ rfl;have c4:=hc 4 _ rfl;have c5:=hc 5 _ rfl;have c6:=hc 6 _ rfl
   skip
   simp only[sx,c0,c1,c2,c3,c4,c5,c6];refine hp W _ (hC W hw) λW' hf=>⟨true,rfl,?_⟩;simp only[cond_true];exact⟨⟨λ_=>List.any_eq_true.2 ⟨_,z,he⟩,λ_=>by omega⟩,hw.trans hf⟩
  ·have he:p x=false:=by simpa only [not_eq_true] using he
   rw[he] at hp;obtain⟨x0,x1,x2,x3,x4,x5,x6,⟨⟩⟩:=x;have c0:=hc 0 _ rfl;have c1:=hc 1 _ rfl;have c2:=hc 2 _ rfl;have c3:=hc 3 _ rfl;have c4:=hc 4 _ rfl;have c5:=hc 5 _ rfl;have c6:=hc 6 _ rfl
   skip
   simp only[sx,c0,c1,c2,c3,c4,c5,c6];refine hp W _ (hC W hw) λW' hf=>⟨false,rfl,?_⟩;simp only[cond_false];rw[wrap_i64 (by omega) (by omega)];refine u _ _ ⟨j+1,by omega,by simp,hw.trans hf,?_⟩ (by simp only;omega);rw[J,any_append,hm,any_cons,he,any_nil];rfl
 ·simp only[I,decide_false,cond_false];rw[take_of_length_le (by omega)] at hm;exact⟨⟨λh=>by omega,λh=>by rw[hm] at h;cases h⟩,hw⟩
theorem aao {w:World} {s:eY} {xs:List T7} {v:Value} {p:T7->Bool} {C:b_} (hs:lV 7 e7 w s xs) (hl:s.len<=2^62) (hp:Tc v (λx:T7=>Value.agg ⟨e7 x⟩) [.one .bool] C λx=> .bool (p x)) (hC:∀W,Ext w W->C W):
  gU s v w λr w'=>r=xs.any p/\Ext w w':=by
 apply oG;refine o_ (ahy hs hl hp hC) ?_;rintro r w' ⟨h,hf⟩;refine⟨?_,hf⟩
 cases hb:xs.any p with
 |true=>exact decide_eq_true (h.2 hb)
 |false=>exact decide_eq_false λhh=>by rw[h.1 hh] at hb;cases hb
end Go.Proofs.CN
namespace Go.Proofs.CN
open Gp
instance :DecidableEq T16:=(@instDecidableEqProd Int _ inferInstance (@instDecidableEqProd Int _ inferInstance (@instDecidableEqProd Int _ inferInstance (@instDecidableEqProd Int _ inferInstance (@instDecidableEqProd Int _ inferInstance (@instDecidableEqProd Int _ inferInstance (@instDecidableEqProd Int _ inferInstance (@instDecidableEqProd Int _ inferInstance (@instDecidableEqProd Int _ inferInstance (@instDecidableEqProd Int _ inferInstance (@instDecidableEqProd Int _ inferInstance (@instDecidableEqProd Int _ inferInstance (@instDecidableEqProd Int _ inferInstance (@instDecidableEqProd Int _ inferInstance (@instDecidableEqProd Int _ inferInstance (@instDecidableEqProd Int _ inferInstance inferInstance))))))))))))))))
instance :DecidableEq T7:=(@instDecidableEqProd Int _ inferInstance (@instDecidableEqProd Int _ inferInstance (@instDecidableEqProd Int _ inferInstance (@instDecidableEqProd Int _ inferInstance (@instDecidableEqProd Int _ inferInstance (@instDecidableEqProd Int _ inferInstance (@instDecidableEqProd Int _ inferInstance inferInstance)))))))
instance :DecidableEq T4:=(@instDecidableEqProd Int _ inferInstance (@instDecidableEqProd Int _ inferInstance (@instDecidableEqProd Int _ inferInstance (@instDecidableEqProd Int _ inferInstance inferInstance))))
instance :DecidableEq T3:=(@instDecidableEqProd Int _ inferInstance (@instDecidableEqProd Int _ inferInstance (@instDecidableEqProd Int _ inferInstance inferInstance)))
theorem akT (a b:T16):DJ Tryz.prog 16 23 (.agg ⟨e16 a⟩) (.agg ⟨e16 b⟩)=some (decide (a=b)):=by
 obtain⟨a0,a1,a2,a3,a4,a5,a6,a7,a8,a9,j,u,a12,z,I,J,⟨⟩⟩:=a;obtain⟨b0,b1,b2,b3,b4,b5,b6,b7,b8,b9,U,Y,Z,aa,ab,ac,⟨⟩⟩:=b;have h:DJ Tryz.prog 16 23 (.agg ⟨e16 (a0,a1,a2,a3,a4,a5,a6,a7,a8,a9,j,u,a12,z,I,J,())⟩) (.agg ⟨e16 (b0,b1,b2,b3,b4,b5,b6,b7,b8,b9,U,Y,Z,aa,ab,ac,())⟩)=some ((a0==b0) && ((a1==b1) && ((a2==b2) && ((a3==b3) && ((a4==b4) && ((a5==b5) && ((a6==b6) && ((a7==b7) && ((a8==b8) && ((a9==b9) && ((j==U) && ((u==Y) && ((a12==Z) && ((z==aa) && ((I==ab) && ((J==ac) && true)))))))))))))))):=by kernel_rfl
 rw[h];simp[T_,decide_and]
theorem eq4 (a b:T4):DJ Tryz.prog 16 117 (.agg ⟨e4 a⟩) (.agg ⟨e4 b⟩)=some (decide (a=b)):=by
 obtain⟨a0,a1,a2,a3,⟨⟩⟩:=a;obtain⟨b0,b1,b2,b3,⟨⟩⟩:=b;have h:DJ Tryz.prog 16 117 (.agg ⟨e4 (a0,a1,a2,a3,())⟩) (.agg ⟨e4 (b0,b1,b2,b3,())⟩)=some ((a0==b0) && ((a1==b1) && ((a2==b2) && ((a3==b3) && true)))):=by kernel_rfl
 rw[h];simp[T_,decide_and]
theorem eq3 (a b:T3):DJ Tryz.prog 16 119 (.agg ⟨e3 a⟩) (.agg ⟨e3 b⟩)=some (decide (a=b)):=by
 obtain⟨a0,a1,a2,⟨⟩⟩:=a;obtain⟨b0,b1,b2,⟨⟩⟩:=b;have h:DJ Tryz.prog 16 119 (.agg ⟨e3 (a0,a1,a2,())⟩) (.agg ⟨e3 (b0,b1,b2,())⟩)=some ((a0==b0) && ((a1==b1) && ((a2==b2) && true))):=by kernel_rfl
 rw[h];simp[T_,decide_and]
theorem aiS (a:T16):nS Tryz.prog 23 (.agg ⟨e16 a⟩)=true:=by unfold nS;rw[akT];rfl
theorem amW (a:T4):nS Tryz.prog 117 (.agg ⟨e4 a⟩)=true:=by unfold nS;rw[eq4];rfl
theorem amV (a:T3):nS Tryz.prog 119 (.agg ⟨e3 a⟩)=true:=by unfold nS;rw[eq3];rfl
theorem eq1 (a b:Int):DJ Tryz.prog 16 3 (.int .i64 a) (.int .i64 b)=some (decide (a=b)):=eqP a b
theorem key1 (a:Int):nS Tryz.prog 3 (.int .i64 a)=true:=ahK a
theorem alP {w:World} {v:Value} {C:b_} {ys:List Int} (hv:lX Tryz.prog [.one (.int .i64)] v C (ys.map λy=>(y,()))) (hC:∀W,Ext w W->C W):
  lD v w λr w'=>(r=true↔¬ys.Nodup)/\Ext w w':=by
 apply H9;refine fP λa w1 ra ea z1 f1=>Vx λw2 m2 z2 f2=>fP λb w3 rb eb z3 f3=> ?_;refine gB rb rfl (by simp) λw4 rb f4 z4=> ?_;simp only[List.set_cons_zero] at rb;have ra4:=((ra.ext f2).ext f3).fr (f4 (·=b) rfl) (by omega);have m4:=((m2 _ (λx:Int=>Value.int .i64 x)).ext f3).fr (f4 (·=b) rfl) (by omega);have x4:Ext w w4:=((f1.trans f2).trans f3).new (f4 (·=b) rfl) λx hx e=>by omega
 clear f4;generalize hm:w1.heap.size=m at *;refine tN hv (λi W=>Row W a [.bool false]/\Row W b [.map (some m)]/\yF (λx:Int=>Value.int .i64 x) W m (ys.take i)/\(ys.take i).Nodup/\Ext w W)
  (λe W=>e= .ret/\Row W a [.bool true]/\¬ys.Nodup/\Ext w W) (by simp) ?_ ?_ ?_ ?_ ?_ ?_ ?_ ?_ ?_
 ·exact λW hx _=>⟨ra4.ext hx,rb.ext hx,m4.ext hx,by simp,x4.trans hx⟩
 ·rintro i W ⟨_,_,_,_,h⟩;exact hC W h
 ·rintro i W W' ⟨h1,h2,h3,h4,h5⟩ hf;have lq:jU none w4=w4.heap.size+1:=rfl;rw[lq] at hf;exact⟨h1.fr hf (by omega),h2.fr hf (by omega),h3.fr hf (by omega),h4,h5.new hf λx hx e=>by omega⟩
 ·rintro e W W' ⟨h1,h2,h3,h4⟩ hf;have lq:jU none w4=w4.heap.size+1:=rfl;rw[lq] at hf;exact⟨h1,h2.fr hf (by omega),h3,h4.new hf λx hx e=>by omega⟩
 ·exact λe W hJ=> .inl hJ.1
 ·rintro i ⟨y,⟨⟩⟩ W Kb hx ⟨h1,h2,h3,h4,h5⟩ z hn hj;obtain⟨y',hy',he⟩:=Option.map_eq_some_iff.1 (by rw[getElem?_map] at hx;exact hx);have I:y'=y:=congrArg Prod.fst he;subst I;clear he;have u:=Gp.Cfg.take_snoc hy';have lq:jU none w4=w4.heap.size+1:=rfl;rw[lq] at z hn hj ⊢;refine⟨rfl,?_⟩;have fc:=fV.refl (fF W (w4.heap.size+1)) (·=a);have fc2:=fV.refl (fF W (w4.heap.size+1)) (·=m);have fb:fV W (fF W (w4.heap.size+1)) (·=w4.heap.size+1):=fV.fF W _;generalize hW3:fF W (w4.heap.size+1)=W3 at fc fc2 fb hn hj ⊢
  skip
  have k1:=h1.fr fb (by omega);have k2:=h2.fr fb (by omega);have k3:=h3.fr fb (by omega);have k5:Ext w W3:=h5.new fb λx hx e=>by omega
  simp only[sx,k2.cell];refine J8 k3 eq1 y' (key1 _) ?_;by_cases j:y'∈ys.take i
  ·simp only[j,decide_true,cond_true];refine gB k1 rfl (by simp) λW4 q1 g1 z4=> ?_;simp only[List.set_cons_zero] at q1;refine hj .ret W4 (·=a) (fc.trans (g1 (·=a) rfl) λ_ _ e=>e) (λx hx1 hx2 e=>by omega) ⟨rfl,q1,λJ=>Gp.Cfg.nG.1 J i _ hy' j,k5.new (g1 (·=a) rfl) λx hx e=>by omega⟩
  ·simp only[j,decide_false,cond_false];refine J_ k3 eq1 _ (key1 _) j λW4 q3 g3 z4=> ?_;refine hn W4 (·=m) (fc2.trans g3 λ_ _ e=>e) (λx hx1 hx2 e=>by omega) ⟨k1.fr g3 (by omega),k2.fr g3 (by omega),?_,?_,k5.new g3 λx hx e=>by omega⟩
   ·rw[u];exact q3
   ·rw[u,Gp.Cfg.AO];exact⟨h4,j⟩
 ·rintro W ⟨h1,h2,h3,h4,h5⟩ hm';have hm':=hm' rfl;rw[take_of_length_le (by simp)] at h4;refine gB h1 rfl (by simp) λW4 q1 g1 z4=> ?_;simp only[List.set_cons_zero] at q1;refine⟨by rw[<- hm'];exact(g1 (·=a) rfl).same _ (by have:=(Array.getElem?_eq_some_iff.1 hm').1;omega) (by omega),?_⟩;have q2:=q1.fr (fV.jh W4 w4.heap.size (.deferred none)) (by omega);simp only[sx,q2.cell];exact⟨by simp[h4],(h5.new (g1 (·=a) rfl) λx hx e=>by omega).new (fV.jh W4 w4.heap.size (.deferred none)) λx hx e=>by have:=x4.size;omega⟩
 ·rintro W ⟨_,h1,h2,h3⟩ hm';have hm':=hm' rfl;refine⟨hm',?_⟩;have q2:=h1.fr (fV.jh W w4.heap.size (.deferred none)) (by omega);simp only[sx,q2.cell];exact⟨by simp[h2],h3.new (fV.jh W w4.heap.size (.deferred none)) λx hx e=>by have:=x4.size;omega⟩
 ·rintro id W ⟨h1,_⟩
  cases h1
theorem aiC {w:World} {v:Value} {C:b_} {ys:List T16} (hv:lX Tryz.prog [.agg K16] v C (ys.map λy=>(y,()))) (hC:∀W,Ext w W->C W):
  jK v w λr w'=>(r=true↔¬ys.Nodup)/\Ext w w':=by
 apply Dw;refine fP λa w1 ra ea z1 f1=>Vx λw2 m2 z2 f2=>fP λb w3 rb eb z3 f3=> ?_;refine gB rb rfl (by simp) λw4 rb f4 z4=> ?_;simp only[List.set_cons_zero] at rb;have ra4:=((ra.ext f2).ext f3).fr (f4 (·=b) rfl) (by omega);have m4:=((m2 _ (λx:T16=>Value.agg ⟨e16 x⟩)).ext f3).fr (f4 (·=b) rfl) (by omega);have x4:Ext w w4:=((f1.trans f2).trans f3).new (f4 (·=b) rfl) λx hx e=>by omega
 clear f4;generalize hm:w1.heap.size=m at *;refine tN hv (λi W=>Row W a [.bool false]/\Row W b [.map (some m)]/\yF (λx:T16=>Value.agg ⟨e16 x⟩) W m (ys.take i)/\(ys.take i).Nodup/\Ext w W)
  (λe W=>e= .ret/\Row W a [.bool true]/\¬ys.Nodup/\Ext w W) (by simp) ?_ ?_ ?_ ?_ ?_ ?_ ?_ ?_ ?_
 ·exact λW hx _=>⟨ra4.ext hx,rb.ext hx,m4.ext hx,by simp,x4.trans hx⟩
 ·rintro i W ⟨_,_,_,_,h⟩;exact hC W h
 ·rintro i W W' ⟨h1,h2,h3,h4,h5⟩ hf;have lq:jU none w4=w4.heap.size+1:=rfl;rw[lq] at hf;exact⟨h1.fr hf (by omega),h2.fr hf (by omega),h3.fr hf (by omega),h4,h5.new hf λx hx e=>by omega⟩
 ·rintro e W W' ⟨h1,h2,h3,h4⟩ hf;have lq:jU none w4=w4.heap.size+1:=rfl;rw[lq] at hf;exact⟨h1,h2.fr hf (by omega),h3,h4.new hf λx hx e=>by omega⟩
 ·exact λe W hJ=> .inl hJ.1
 ·rintro i ⟨y,⟨⟩⟩ W Kb hx ⟨h1,h2,h3,h4,h5⟩ u hn hj;obtain⟨y',hy',he⟩:=Option.map_eq_some_iff.1 (by rw[getElem?_map] at hx;exact hx);have ab:y'=y:=congrArg Prod.fst he;subst ab;clear he;have z:=Gp.Cfg.take_snoc hy';have lq:jU none w4=w4.heap.size+1:=rfl;rw[lq] at u hn hj ⊢;refine uP rfl rfl λt W2 rt et zt ft=> ?_;refine⟨(ft λ_=>False).same _ u (by simp),?_⟩;have fc:fV (fF W (w4.heap.size+1)) (fF W2 (w4.heap.size+1)) (λ_=>False):=BA (ft _) _;have fc:Ext (fF W (w4.heap.size+1)) (fF W2 (w4.heap.size+1)):=fc.new (by simp);have fc:=fc (·=a);have fc2:=BA (ft (·=m)) (w4.heap.size+1);have fb:fV W (fF W2 (w4.heap.size+1)) (·=w4.heap.size+1):=ft.fr (fV.fF W2 _);have rt3:Row (fF W2 (w4.heap.size+1)) t _:=rt.fr (fV.fF W2 _) (by omega);generalize fF W2 (w4.heap.size+1)=W3 at fc fc2 fb rt3 ⊢;obtain⟨y0,y1,y2,y3,y4,y5,y6,y7,y8,y9,I,J,U,Y,Z,aa,⟨⟩⟩:=y';have k1:=h1.fr fb (by omega);have k2:=h2.fr fb (by omega);have k3:=h3.fr fb (by omega);have k5:Ext w W3:=h5.new fb λx hx e=>by omega
  simp only[sx,k2.cell,rt3.cell];refine J8 k3 akT (y0,y1,y2,y3,y4,y5,y6,y7,y8,y9,I,J,U,Y,Z,aa,()) (aiS _) ?_;by_cases j:(y0,y1,y2,y3,y4,y5,y6,y7,y8,y9,I,J,U,Y,Z,aa,())∈ys.take i
  ·simp only[j,decide_true,cond_true];refine gB k1 rfl (by simp) λW4 q1 g1 z4=> ?_;simp only[List.set_cons_zero] at q1;refine hj .ret W4 (·=a) (fc.trans (g1 (·=a) rfl) λ_ _ e=>e) (λx hx1 hx2 e=>by omega) ⟨rfl,q1,λac=>Gp.Cfg.nG.1 ac i _ hy' j,k5.new (g1 (·=a) rfl) λx hx e=>by omega⟩
  ·simp only[j,decide_false,cond_false];refine J_ k3 akT _ (aiS _) j λW4 q3 g3 z4=> ?_;refine hn W4 (·=m) (fc2.trans g3 λ_ _ e=>e) (λx hx1 hx2 e=>by omega) ⟨k1.fr g3 (by omega),k2.fr g3 (by omega),?_,?_,k5.new g3 λx hx e=>by omega⟩
   ·rw[z];exact q3
   ·rw[z,Gp.Cfg.AO];exact⟨h4,j⟩
 ·rintro W ⟨h1,h2,h3,h4,h5⟩ hm';have hm':=hm' rfl;rw[take_of_length_le (by simp)] at h4;refine gB h1 rfl (by simp) λW4 q1 g1 z4=> ?_;simp only[List.set_cons_zero] at q1;refine⟨by rw[<- hm'];exact(g1 (·=a) rfl).same _ (by have:=(Array.getElem?_eq_some_iff.1 hm').1;omega) (by omega),?_⟩;have q2:=q1.fr (fV.jh W4 w4.heap.size (.deferred none)) (by omega);simp only[sx,q2.cell];exact⟨by simp[h4],(h5.new (g1 (·=a) rfl) λx hx e=>by omega).new (fV.jh W4 w4.heap.size (.deferred none)) λx hx e=>by have:=x4.size;omega⟩
 ·rintro W ⟨_,h1,h2,h3⟩ hm';have hm':=hm' rfl;refine⟨hm',?_⟩;have q2:=h1.fr (fV.jh W w4.heap.size (.deferred none)) (by omega);simp only[sx,q2.cell];exact⟨by simp[h2],h3.new (fV.jh W w4.heap.size (.deferred none)) λx hx e=>by have:=x4.size;omega⟩
 ·rintro id W ⟨h1,_⟩
  cases h1
theorem alR {w:World} {v:Value} {C:b_} {ys:List T4} (hv:lX Tryz.prog [.agg K4] v C (ys.map λy=>(y,()))) (hC:∀W,Ext w W->C W):
  jq v w λr w'=>(r=true↔¬ys.Nodup)/\Ext w w':=by
 apply Bh;refine fP λa w1 ra ea z1 f1=>Vx λw2 m2 z2 f2=>fP λb w3 rb eb z3 f3=> ?_;refine gB rb rfl (by simp) λw4 rb f4 z4=> ?_;simp only[List.set_cons_zero] at rb;have ra4:=((ra.ext f2).ext f3).fr (f4 (·=b) rfl) (by omega);have m4:=((m2 _ (λx:T4=>Value.agg ⟨e4 x⟩)).ext f3).fr (f4 (·=b) rfl) (by omega);have x4:Ext w w4:=((f1.trans f2).trans f3).new (f4 (·=b) rfl) λx hx e=>by omega
 clear f4;generalize hm:w1.heap.size=m at *;refine tN hv (λi W=>Row W a [.bool false]/\Row W b [.map (some m)]/\yF (λx:T4=>Value.agg ⟨e4 x⟩) W m (ys.take i)/\(ys.take i).Nodup/\Ext w W)
  (λe W=>e= .ret/\Row W a [.bool true]/\¬ys.Nodup/\Ext w W) (by simp) ?_ ?_ ?_ ?_ ?_ ?_ ?_ ?_ ?_
 ·exact λW hx _=>⟨ra4.ext hx,rb.ext hx,m4.ext hx,by simp,x4.trans hx⟩
 ·rintro i W ⟨_,_,_,_,h⟩;exact hC W h
 ·rintro i W W' ⟨h1,h2,h3,h4,h5⟩ hf;have lq:jU none w4=w4.heap.size+1:=rfl;rw[lq] at hf;exact⟨h1.fr hf (by omega),h2.fr hf (by omega),h3.fr hf (by omega),h4,h5.new hf λx hx e=>by omega⟩
 ·rintro e W W' ⟨h1,h2,h3,h4⟩ hf;have lq:jU none w4=w4.heap.size+1:=rfl;rw[lq] at hf;exact⟨h1,h2.fr hf (by omega),h3,h4.new hf λx hx e=>by omega⟩
 ·exact λe W hJ=> .inl hJ.1
 ·rintro i ⟨y,⟨⟩⟩ W Kb hx ⟨h1,h2,h3,h4,h5⟩ u hn hj;obtain⟨y',hy',he⟩:=Option.map_eq_some_iff.1 (by rw[getElem?_map] at hx;exact hx);have I:y'=y:=congrArg Prod.fst he;subst I;clear he;have z:=Gp.Cfg.take_snoc hy';have lq:jU none w4=w4.heap.size+1:=rfl;rw[lq] at u hn hj ⊢;refine uP rfl rfl λt W2 rt et zt ft=> ?_;refine⟨(ft λ_=>False).same _ u (by simp),?_⟩;have fc:fV (fF W (w4.heap.size+1)) (fF W2 (w4.heap.size+1)) (λ_=>False):=BA (ft _) _;have fc:Ext (fF W (w4.heap.size+1)) (fF W2 (w4.heap.size+1)):=fc.new (by simp);have fc:=fc (·=a);have fc2:=BA (ft (·=m)) (w4.heap.size+1);have fb:fV W (fF W2 (w4.heap.size+1)) (·=w4.heap.size+1):=ft.fr (fV.fF W2 _);have rt3:Row (fF W2 (w4.heap.size+1)) t _:=rt.fr (fV.fF W2 _) (by omega);generalize fF W2 (w4.heap.size+1)=W3 at fc fc2 fb rt3 ⊢;obtain⟨y0,y1,y2,y3,⟨⟩⟩:=y';have k1:=h1.fr fb (by omega);have k2:=h2.fr fb (by omega);have k3:=h3.fr fb (by omega);have k5:Ext w W3:=h5.new fb λx hx e=>by omega
  simp only[sx,k2.cell,rt3.cell];refine J8 k3 eq4 (y0,y1,y2,y3,()) (amW _) ?_;by_cases j:(y0,y1,y2,y3,())∈ys.take i
  ·simp only[j,decide_true,cond_true];refine gB k1 rfl (by simp) λW4 q1 g1 z4=> ?_;simp only[List.set_cons_zero] at q1;refine hj .ret W4 (·=a) (fc.trans (g1 (·=a) rfl) λ_ _ e=>e) (λx hx1 hx2 e=>by omega) ⟨rfl,q1,λJ=>Gp.Cfg.nG.1 J i _ hy' j,k5.new (g1 (·=a) rfl) λx hx e=>by omega⟩
  ·simp only[j,decide_false,cond_false];refine J_ k3 eq4 _ (amW _) j λW4 q3 g3 z4=> ?_;refine hn W4 (·=m) (fc2.trans g3 λ_ _ e=>e) (λx hx1 hx2 e=>by omega) ⟨k1.fr g3 (by omega),k2.fr g3 (by omega),?_,?_,k5.new g3 λx hx e=>by omega⟩
   ·rw[z];exact q3
   ·rw[z,Gp.Cfg.AO];exact⟨h4,j⟩
 ·rintro W ⟨h1,h2,h3,h4,h5⟩ hm';have hm':=hm' rfl;rw[take_of_length_le (by simp)] at h4;refine gB h1 rfl (by simp) λW4 q1 g1 z4=> ?_;simp only[List.set_cons_zero] at q1;refine⟨by rw[<- hm'];exact(g1 (·=a) rfl).same _ (by have:=(Array.getElem?_eq_some_iff.1 hm').1;omega) (by omega),?_⟩;have q2:=q1.fr (fV.jh W4 w4.heap.size (.deferred none)) (by omega);simp only[sx,q2.cell];exact⟨by simp[h4],(h5.new (g1 (·=a) rfl) λx hx e=>by omega).new (fV.jh W4 w4.heap.size (.deferred none)) λx hx e=>by have:=x4.size;omega⟩
 ·rintro W ⟨_,h1,h2,h3⟩ hm';have hm':=hm' rfl;refine⟨hm',?_⟩;have q2:=h1.fr (fV.jh W w4.heap.size (.deferred none)) (by omega);simp only[sx,q2.cell];exact⟨by simp[h2],h3.new (fV.jh W w4.heap.size (.deferred none)) λx hx e=>by have:=x4.size;omega⟩
 ·rintro id W ⟨h1,_⟩
  cases h1
theorem alQ {w:World} {v:Value} {C:b_} {ys:List T3} (hv:lX Tryz.prog [.agg K3] v C (ys.map λy=>(y,()))) (hC:∀W,Ext w W->C W):
  jr v w λr w'=>(r=true↔¬ys.Nodup)/\Ext w w':=by
 apply Bj;refine fP λa w1 ra ea z1 f1=>Vx λw2 m2 z2 f2=>fP λb w3 rb eb z3 f3=> ?_;refine gB rb rfl (by simp) λw4 rb f4 z4=> ?_;simp only[List.set_cons_zero] at rb;have ra4:=((ra.ext f2).ext f3).fr (f4 (·=b) rfl) (by omega);have m4:=((m2 _ (λx:T3=>Value.agg ⟨e3 x⟩)).ext f3).fr (f4 (·=b) rfl) (by omega);have x4:Ext w w4:=((f1.trans f2).trans f3).new (f4 (·=b) rfl) λx hx e=>by omega
 clear f4;generalize hm:w1.heap.size=m at *;refine tN hv (λi W=>Row W a [.bool false]/\Row W b [.map (some m)]/\yF (λx:T3=>Value.agg ⟨e3 x⟩) W m (ys.take i)/\(ys.take i).Nodup/\Ext w W)
  (λe W=>e= .ret/\Row W a [.bool true]/\¬ys.Nodup/\Ext w W) (by simp) ?_ ?_ ?_ ?_ ?_ ?_ ?_ ?_ ?_
 ·exact λW hx _=>⟨ra4.ext hx,rb.ext hx,m4.ext hx,by simp,x4.trans hx⟩
 ·rintro i W ⟨_,_,_,_,h⟩;exact hC W h
 ·rintro i W W' ⟨h1,h2,h3,h4,h5⟩ hf;have lq:jU none w4=w4.heap.size+1:=rfl;rw[lq] at hf;exact⟨h1.fr hf (by omega),h2.fr hf (by omega),h3.fr hf (by omega),h4,h5.new hf λx hx e=>by omega⟩
 ·rintro e W W' ⟨h1,h2,h3,h4⟩ hf;have lq:jU none w4=w4.heap.size+1:=rfl;rw[lq] at hf;exact⟨h1,h2.fr hf (by omega),h3,h4.new hf λx hx e=>by omega⟩
 ·exact λe W hJ=> .inl hJ.1
 ·rintro i ⟨y,⟨⟩⟩ W Kb hx ⟨h1,h2,h3,h4,h5⟩ u hn hj;obtain⟨y',hy',he⟩:=Option.map_eq_some_iff.1 (by rw[getElem?_map] at hx;exact hx);have I:y'=y:=congrArg Prod.fst he;subst I;clear he;have z:=Gp.Cfg.take_snoc hy';have lq:jU none w4=w4.heap.size+1:=rfl;rw[lq] at u hn hj ⊢;refine uP rfl rfl λt W2 rt et zt ft=> ?_;refine⟨(ft λ_=>False).same _ u (by simp),?_⟩;have fc:fV (fF W (w4.heap.size+1)) (fF W2 (w4.heap.size+1)) (λ_=>False):=BA (ft _) _;have fc:Ext (fF W (w4.heap.size+1)) (fF W2 (w4.heap.size+1)):=fc.new (by simp);have fc:=fc (·=a);have fc2:=BA (ft (·=m)) (w4.heap.size+1);have fb:fV W (fF W2 (w4.heap.size+1)) (·=w4.heap.size+1):=ft.fr (fV.fF W2 _);have rt3:Row (fF W2 (w4.heap.size+1)) t _:=rt.fr (fV.fF W2 _) (by omega);generalize fF W2 (w4.heap.size+1)=W3 at fc fc2 fb rt3 ⊢;obtain⟨y0,y1,y2,⟨⟩⟩:=y';have k1:=h1.fr fb (by omega);have k2:=h2.fr fb (by omega);have k3:=h3.fr fb (by omega);have k5:Ext w W3:=h5.new fb λx hx e=>by omega
  simp only[sx,k2.cell,rt3.cell];refine J8 k3 eq3 (y0,y1,y2,()) (amV _) ?_;by_cases j:(y0,y1,y2,())∈ys.take i
  ·simp only[j,decide_true,cond_true];refine gB k1 rfl (by simp) λW4 q1 g1 z4=> ?_;simp only[List.set_cons_zero] at q1;refine hj .ret W4 (·=a) (fc.trans (g1 (·=a) rfl) λ_ _ e=>e) (λx hx1 hx2 e=>by omega) ⟨rfl,q1,λJ=>Gp.Cfg.nG.1 J i _ hy' j,k5.new (g1 (·=a) rfl) λx hx e=>by omega⟩
  ·simp only[j,decide_false,cond_false];refine J_ k3 eq3 _ (amV _) j λW4 q3 g3 z4=> ?_;refine hn W4 (·=m) (fc2.trans g3 λ_ _ e=>e) (λx hx1 hx2 e=>by omega) ⟨k1.fr g3 (by omega),k2.fr g3 (by omega),?_,?_,k5.new g3 λx hx e=>by omega⟩
   ·rw[z];exact q3
   ·rw[z,Gp.Cfg.AO];exact⟨h4,j⟩
 ·rintro W ⟨h1,h2,h3,h4,h5⟩ hm';have hm':=hm' rfl;rw[take_of_length_le (by simp)] at h4;refine gB h1 rfl (by simp) λW4 q1 g1 z4=> ?_;simp only[List.set_cons_zero] at q1;refine⟨by rw[<- hm'];exact(g1 (·=a) rfl).same _ (by have:=(Array.getElem?_eq_some_iff.1 hm').1;omega) (by omega),?_⟩;have q2:=q1.fr (fV.jh W4 w4.heap.size (.deferred none)) (by omega);simp only[sx,q2.cell];exact⟨by simp[h4],(h5.new (g1 (·=a) rfl) λx hx e=>by omega).new (fV.jh W4 w4.heap.size (.deferred none)) λx hx e=>by have:=x4.size;omega⟩
 ·rintro W ⟨_,h1,h2,h3⟩ hm';have hm':=hm' rfl;refine⟨hm',?_⟩;have q2:=h1.fr (fV.jh W w4.heap.size (.deferred none)) (by omega);simp only[sx,q2.cell];exact⟨by simp[h2],h3.new (fV.jh W w4.heap.size (.deferred none)) λx hx e=>by have:=x4.size;omega⟩
 ·rintro id W ⟨h1,_⟩
  cases h1
end Go.Proofs.CN
namespace Go.Proofs.CN
open Gp
def aki:T16->Bool
 |(x0,x1,x2,x3,x4,x5,x6,x7,x8,x9,x10,x11,x12,x13,x14,x15,())=>((x0==0) && ((x1==0) && ((x2==0) && ((x3==0) && ((x4==0) && ((x5==0) && ((x6==0) && ((x7==0) && ((x8==0) && ((x9==0) && ((x10==0) && ((x11==0) && ((x12==0) && ((x13==0) && ((x14==0) && ((x15==0) && true))))))))))))))))
def mX (x:T16):Bool:= !(aki x) && (x.1 !=255)
theorem OA {p0 p1 p2 p3 p4 p5 p6 p7 p8 p9 j u z I J U:Int} (w:World):wJ p0 p1 p2 p3 p4 p5 p6 p7 p8 p9 j u z I J U w λr w'=>r=mX (p0,p1,p2,p3,p4,p5,p6,p7,p8,p9,j,u,z,I,J,U,())/\Ext w w':=by
 apply Zj;refine fP λa w1 ra ea z1 f1=>fP λb w2 rb eb z2 f2=> ?_;have ra:=ra.ext f2;simp only[sx,ra.cell,rb.cell];have he:∀c:Bool,c=aki (p0,p1,p2,p3,p4,p5,p6,p7,p8,p9,j,u,z,I,J,U,())->((bif !c then (0:Int)<=0/\(0:Int)<16/\((p0 !=255)=mX (p0,p1,p2,p3,p4,p5,p6,p7,p8,p9,j,u,z,I,J,U,())/\Ext w w2) else (false=mX (p0,p1,p2,p3,p4,p5,p6,p7,p8,p9,j,u,z,I,J,U,())/\Ext w w2))):=by
  intro c hc;unfold mX;rw[<- hc]
  cases c
  ·exact⟨by omega,by omega,by simp,f1.trans f2⟩
  ·exact⟨by simp,f1.trans f2⟩
 exact he _ rfl
theorem Sj {p0 p1 p2 p3 p4 p5 p6 p7 p8 p9 j u z I J U:Int} (w:World):qQ p0 p1 p2 p3 p4 p5 p6 p7 p8 p9 j u z I J U w λr w'=>r=mX (p0,p1,p2,p3,p4,p5,p6,p7,p8,p9,j,u,z,I,J,U,())/\Ext w w':=by
 apply Ut;refine fP λa w1 ra ea z1 f1=> ?_;simp only[sx,ra.cell];have he:∀c:Bool,c=aki (p0,p1,p2,p3,p4,p5,p6,p7,p8,p9,j,u,z,I,J,U,())->((bif !c then (0:Int)<=0/\(0:Int)<16/\((p0 !=255)=mX (p0,p1,p2,p3,p4,p5,p6,p7,p8,p9,j,u,z,I,J,U,())/\Ext w w1) else (false=mX (p0,p1,p2,p3,p4,p5,p6,p7,p8,p9,j,u,z,I,J,U,())/\Ext w w1))):=by
  intro c hc;unfold mX;rw[<- hc]
  cases c
  ·exact⟨by omega,by omega,by simp,f1⟩
  ·exact⟨by simp,f1⟩
 exact he _ rfl
def DF (n:Nat) (pl:List Int):T7->Prop
 |(q0,q1,q2,q3,q4,q5,q6,())=>((0<=q3/\q3<=65535)/\(0<=q6/\q6<=65535))/\(lN q2/\q5∈pl)/\((q1=1\/q1=6\/q1=17)/\q1=q4)/\(0<=q0/\q0<=(n:Int) - 1)
instance (n:Nat) (pl:List Int) (x:T7):Decidable (DF n pl x):=by
 obtain⟨q0,q1,q2,q3,q4,q5,q6,⟨⟩⟩:=x;exact inferInstanceAs (Decidable (_/\_/\_/\_))
theorem aiA {w:World} {p0 p1 p2 p3 p4 p5 p6 p7 p8 p9 z I J U Y Z:Int} {sw po:eY} {n18 n19 n20 n21 n22 n23 n24 n25 n26 n27 n28 n29 n30 n31 n32 n33 n34:Int} {st:eY} {q0 q1 q2 q3 q4 q5 q6:Int} {pl:List Int} (hsl:sw.len<=2^62) (aa:lV 1 eI w po pl) (ab:po.len<=2^62):
  sD p0 p1 p2 p3 p4 p5 p6 p7 p8 p9 z I J U Y Z sw po n18 n19 n20 n21 n22 n23 n24 n25 n26 n27 n28 n29 n30 n31 n32 n33 n34 st q0 q1 q2 q3 q4 q5 q6 w λr w'=>r=decide (DF sw.len pl (q0,q1,q2,q3,q4,q5,q6,()))/\Ext w w':=by
 apply Rz;refine fP λa w1 ra ea z1 f1=>fP λb w2 rb eb z2 f2=> ?_;have ra:=ra.ext f2;have x2:=f1.trans f2;clear f1 f2;simp -zeta only[sx,rb.cell];intro J7;have hJ7:∀c1 W,Ext w2 W->c1=decide ((0<=q3/\q3<=65535)/\(0<=q6/\q6<=65535))->J7 c1 W:=by
  intro c1 W hx h1;have ra:=ra.ext hx;have rb:=rb.ext hx;simp -zeta only[J7];intro j;have hJ10:∀c2 W',Ext W W'->c2=decide (lN q2/\q5∈pl)->j c2 W':=by
   intro c2 W' hx' h2;have ra:=ra.ext hx';have rb:=rb.ext hx';simp -zeta only[j];intro u;have hJ13:∀c3 W'',Ext W' W''->c3=decide ((q1=1\/q1=6\/q1=17)/\q1=q4)->u c3 W'':=by
    intro c3 W'' hx'' h3;have ra:=ra.ext hx'';have rb:=rb.ext hx'';simp only[u,getElem?_cons_zero,getElem?_cons_succ,fC,fE,fD,ra.cell,rb.cell];have xx:=((x2.trans hx).trans hx').trans hx'';have fin:∀c4:Bool,c4=(decide ((0<=q3/\q3<=65535)/\(0<=q6/\q6<=65535)) && (decide (lN q2/\q5∈pl) && (decide ((q1=1\/q1=6\/q1=17)/\q1=q4) && decide (0<=q0/\q0<=(sw.len:Int) - 1))))->c4=decide (DF sw.len pl (q0,q1,q2,q3,q4,q5,q6,())):=by
     intro c4 h;rw[h,<- decide_and,<- decide_and,<- decide_and];rfl
    rw[<- h1,<- h2,<- h3] at fin
    cases c1
    ·exact⟨fin _ (by simp),xx⟩
    ·cases c2
     ·exact⟨fin _ (by simp),xx⟩
     ·cases c3
      ·exact⟨fin _ (by simp),xx⟩
      ·simp only[cond_true];rw[wrap_i64 (by omega) (by omega)];refine lM (xH _ _ _ _) ?_;rintro _ w' ⟨rfl,hf⟩;exact⟨fin _ (by simp),xx.trans hf⟩
   simp -zeta only[getElem?_cons_zero,getElem?_cons_succ,fC,fD,rb.cell];refine OV (aa7 _ _) ?_;rintro _ w' ⟨rfl,hf⟩;have rb:=rb.ext hf;by_cases hp:(q1=1\/q1=6\/q1=17)
   ·simp -zeta only[hp,decide_true,cond_true,cond_true,getElem?_cons_zero,getElem?_cons_succ,fC,fD,rb.cell];exact hJ13 _ _ hf (by rw[T_,decide_eq_decide];exact⟨λh=>⟨hp,h⟩,λh=>h.2⟩)
   ·simp -zeta only[hp,decide_false,cond_false];exact hJ13 _ _ hf (decide_eq_false λh=>hp h.1).symm
  simp -zeta only[getElem?_cons_zero,getElem?_cons_succ,fC,fD,rb.cell];refine qV (D_ _ _) ?_;rintro _ w' ⟨rfl,hf⟩;have rb:=rb.ext hf;have ra:=ra.ext hf;by_cases hp:lN q2
  ·simp -zeta only[hp,decide_true,cond_true,cond_true,getElem?_cons_zero,getElem?_cons_succ,fC,fE,fD,rb.cell,ra.cell];refine iO (BI (((aa.ext x2).ext hx).ext hf) ab _) ?_;rintro _ w'' ⟨rfl,hw⟩;subst hw;exact hJ10 _ _ hf (by simp[hp])
  ·simp -zeta only[hp,decide_false,cond_false];exact hJ10 _ _ hf (by simp[hp])
 refine lM (xH _ _ _ _) ?_;rintro _ w' ⟨rfl,hf⟩;have rb:=rb.ext hf;by_cases hp:(0<=q3/\q3<=65535)
 ·simp -zeta only[hp,and_self,decide_true,cond_true,cond_true,getElem?_cons_zero,getElem?_cons_succ,fC,fD,rb.cell];refine lM (xH _ _ _ _) ?_;rintro _ w'' ⟨rfl,hf'⟩;exact hJ7 _ _ (hf.trans hf') (by simp[hp])
 ·simp -zeta only[hp,decide_false,cond_false];exact hJ7 _ _ hf (by simp[hp])
theorem afs {p0 p1 p2 p3 p4 p5 p6 p7 p8 p9 j u z I J U:Int} (w:World):uy p0 p1 p2 p3 p4 p5 p6 p7 p8 p9 j u z I J U w λr0 r1 r2 r3 r4 r5 r6 r7 r8 r9 Y Z aa ab ac ae w'=>((r0,r1,r2,r3,r4,r5,r6,r7,r8,r9,Y,Z,aa,ab,ac,ae,()):T16)=(p0,p1,p2,p3,p4,p5,p6,p7,p8,p9,j,u,z,I,J,U,())/\Ext w w':=by
 apply CJ;refine fP λa w1 ra ea z1 f1=>fP λb w2 rb eb z2 f2=> ?_;have ra:=ra.ext f2;simp only[sx,ra.cell];refine fK rb rfl rfl λw3 r3 f3 z3=> ?_;simp only[getElem?_cons_zero,getElem?_cons_succ,fC,fD,r3.cell];exact⟨by trivial,(f1.trans f2).new (f3 (·=b) rfl) λx hx e=>by omega⟩
def lY:T7->T4|(q0,q1,q2,q3,q4,q5,q6,())=>(q0,q1,q2,q3,())
def oH:T7->T3|(q0,q1,q2,q3,q4,q5,q6,())=>(q4,q5,q6,())
theorem afp {q0 q1 q2 q3 q4 q5 q6:Int} (w:World):zZ q0 q1 q2 q3 q4 q5 q6 w λr0 r1 r2 r3 w'=>(r0=q0/\r1=q1/\r2=q2/\r3=q3)/\Ext w w':=by
 apply HY;refine fP λa w1 ra ea z1 f1=>fP λb w2 rb eb z2 f2=> ?_;have ra:=ra.ext f2;simp only[sx,ra.cell];refine fK rb rfl rfl λw3 r3 f3 z3=> ?_;simp only[getElem?_cons_zero,getElem?_cons_succ,fC,fD,r3.cell,and_self,true_and];exact(f1.trans f2).new (f3 (·=b) rfl) λx hx e=>by omega
theorem afX {q0 q1 q2 q3 q4 q5 q6:Int} (w:World):z_ q0 q1 q2 q3 q4 q5 q6 w λr0 r1 r2 w'=>(r0=q4/\r1=q5/\r2=q6)/\Ext w w':=by
 apply H6;refine fP λa w1 ra ea z1 f1=>fP λb w2 rb eb z2 f2=> ?_;have ra:=ra.ext f2;simp only[sx,ra.cell];refine fK rb rfl rfl λw3 r3 f3 z3=> ?_;simp only[getElem?_cons_zero,getElem?_cons_succ,fC,fD,r3.cell,and_self,true_and];exact(f1.trans f2).new (f3 (·=b) rfl) λx hx e=>by omega
theorem sQ {f:FuncId} {cap:Array Value} {sh:List Shape} {args:List Value} {w:World} {K:Value->b_} (hb:jZ Tryz.prog f=true) (h:EM Tryz.prog sh f (args++cap.toList) w K):
  iY Tryz.prog sh (.func (.func f) #[] cap) args w K:=by
 unfold iY;simp only[hb,cond_true];exact h
theorem aaB:Tc (.func (.func Hz) #[] #[]) (λx:Int=>Value.int .i64 x) [.one (.int .i64)] (λ_=>True) (λx=>Value.int .i64 x):=by
 intro x W K _ hK;refine sQ (by kernel_rfl) ?_;refine Calls.mono (FT (a0:=x) (w:=W) (K:=λr W'=>r=x/\Ext W W') ?_) ?_
 ·exact⟨rfl,Ext.refl _⟩
 ·rintro e W' ⟨r,he,rfl,hf⟩;exact⟨r,he,hK W' hf⟩
theorem YK:Tc (.func (.func Du) #[] #[]) (λx:T16=>Value.agg ⟨e16 x⟩) [.agg K16] (λ_=>True) (λx:T16=>Value.agg ⟨e16 x⟩):=by
 intro x W K _ hK;obtain⟨p0,p1,p2,p3,p4,p5,p6,p7,p8,p9,p10,p11,p12,p13,p14,p15,⟨⟩⟩:=x;refine sQ (by kernel_rfl) ?_;refine Calls.mono (afs W) ?_;rintro e W' ⟨r0,r1,r2,r3,r4,r5,r6,r7,r8,r9,j,u,z,I,J,U,he,h,hf⟩;refine⟨r0,r1,r2,r3,r4,r5,r6,r7,r8,r9,j,u,z,I,J,U,he,?_⟩;have hK:=hK W' hf;rw[<- h] at hK;exact hK
theorem ae_:Tc (.func (.func Jv) #[] #[]) (λx:T7=>Value.agg ⟨e7 x⟩) [.agg K4] (λ_=>True) (λx:T7=>Value.agg ⟨e4 (lY x)⟩):=by
 intro x W K _ hK;obtain⟨q0,q1,q2,q3,q4,q5,q6,⟨⟩⟩:=x;refine sQ (by kernel_rfl) ?_;refine Calls.mono (afp W) ?_;rintro e W' ⟨r0,r1,r2,r3,he,⟨rfl,rfl,rfl,rfl⟩,hf⟩;exact⟨r0,r1,r2,r3,he,hK W' hf⟩
theorem afa:Tc (.func (.func Jw) #[] #[]) (λx:T7=>Value.agg ⟨e7 x⟩) [.agg K3] (λ_=>True) (λx:T7=>Value.agg ⟨e3 (oH x)⟩):=by
 intro x W K _ hK;obtain⟨q0,q1,q2,q3,q4,q5,q6,⟨⟩⟩:=x;refine sQ (by kernel_rfl) ?_;refine Calls.mono (afX W) ?_;rintro e W' ⟨r0,r1,r2,he,⟨rfl,rfl,rfl⟩,hf⟩;exact⟨r0,r1,r2,he,hK W' hf⟩
theorem aaA:Tc (.func (.func Nc) #[] #[]) (λx:T16=>Value.agg ⟨e16 x⟩) [.one .bool] (λ_=>True) (λx:T16=> .bool (!mX x)):=by
 intro x W K _ hK;obtain⟨p0,p1,p2,p3,p4,p5,p6,p7,p8,p9,j,u,z,I,J,U,⟨⟩⟩:=x;refine sQ (by kernel_rfl) ?_;refine Calls.mono (LD (w:=W) (K:=λr W'=>r= !mX (p0,p1,p2,p3,p4,p5,p6,p7,p8,p9,j,u,z,I,J,U,())/\Ext W W') ?_) ?_
 ·refine fP λa w1 ra ea z1 f1=> ?_;simp only[sx,ra.cell];refine NZ (OA w1) ?_;rintro _ w' ⟨rfl,hf⟩;exact⟨rfl,f1.trans hf⟩
 ·rintro e W' ⟨r,he,rfl,hf⟩;exact⟨_,he,hK W' hf⟩
theorem YL:Tc (.func (.func Nh) #[] #[]) (λx:Int=>Value.int .i64 x) [.one .bool] (λ_=>True) (λx:Int=> .bool (!decide (lN x))):=by
 intro x W K _ hK;refine sQ (by kernel_rfl) ?_;refine Calls.mono (LG (a0:=x) (w:=W) (K:=λr W'=>r= !decide (lN x)/\Ext W W') ?_) ?_
 ·refine qV (D_ x W) ?_;rintro _ w' ⟨rfl,hf⟩;exact⟨rfl,hf⟩
 ·rintro e W' ⟨r,he,rfl,hf⟩;exact⟨_,he,hK W' hf⟩
theorem afc {f0:Nat} {p0 p1 p2 p3 p4 p5 p6 p7 p8 p9 j u z I J U:Int} {sw po:eY} {n18 n19 n20 n21 n22 n23 n24 n25 n26 n27 n28 n29 n30 n31 n32 n33 n34:Int} {st:eY} {pl:List Int} (Y:sw.len<=2^62) (Z:po.len<=2^62):
  Tc (.func (.func Nj) #[] #[.pointer (some ⟨f0,0,none⟩)]) (λx:T7=>Value.agg ⟨e7 x⟩) [.one .bool]
   (λW=>Row W f0 (.int .u8 p0:: .int .u8 p1:: .int .u8 p2:: .int .u8 p3:: .int .u8 p4:: .int .u8 p5:: .int .u8 p6:: .int .u8 p7:: .int .u8 p8:: .int .u8 p9:: .int .u8 j:: .int .u8 u:: .int .u8 z:: .int .u8 I:: .int .u8 J:: .int .u8 U:: .slice sw.a sw.len sw.cap:: .slice po.a po.len po.cap:: .int .i64 n18:: .int .i64 n19:: .int .i64 n20:: .int .i64 n21:: .int .i64 n22:: .int .i64 n23:: .int .i64 n24:: .int .i64 n25:: .int .i64 n26:: .int .i64 n27:: .int .i64 n28:: .int .i64 n29:: .int .i64 n30:: .int .i64 n31:: .int .i64 n32:: .int .i64 n33:: .int .i64 n34:: .slice st.a st.len st.cap::[])/\lV 1 eI W po pl) (λx:T7=> .bool (!decide (DF sw.len pl x))):=by
 rintro x W K ⟨hr,aa⟩ hK;obtain⟨q0,q1,q2,q3,q4,q5,q6,⟨⟩⟩:=x;refine sQ (by kernel_rfl) ?_;refine Calls.mono (LH (f0:=⟨f0,0,none⟩) (w:=W) (K:=λr W'=>r= !decide (DF sw.len pl (q0,q1,q2,q3,q4,q5,q6,()))/\Ext W W') ?_) ?_
 ·refine fP λa w1 ra ea z1 f1=> ?_;have hr:=hr.ext f1;simp only[sx,ra.cell,hr.cell];refine Qj (aiA Y (aa.ext f1) Z) ?_;rintro _ w' ⟨rfl,hf⟩;exact⟨rfl,f1.trans hf⟩
 ·rintro e W' ⟨r,he,rfl,hf⟩;exact⟨_,he,hK W' hf⟩
theorem ahm {f0:Nat} {p0 p1 p2 p3 p4 p5 p6 p7 p8 p9 j u z I J U:Int} {sw po:eY} {n18 n19 n20 n21 n22 n23 n24 n25 n26 n27 n28 n29 n30 n31 n32 n33 n34:Int} {st:eY}:
  Tc (.func (.func Jy) #[] #[.pointer (some ⟨f0,0,none⟩)]) (λx:Int=>Value.int .i64 x) [.one .bool]
   (λW=>Row W f0 (.int .u8 p0:: .int .u8 p1:: .int .u8 p2:: .int .u8 p3:: .int .u8 p4:: .int .u8 p5:: .int .u8 p6:: .int .u8 p7:: .int .u8 p8:: .int .u8 p9:: .int .u8 j:: .int .u8 u:: .int .u8 z:: .int .u8 I:: .int .u8 J:: .int .u8 U:: .slice sw.a sw.len sw.cap:: .slice po.a po.len po.cap:: .int .i64 n18:: .int .i64 n19:: .int .i64 n20:: .int .i64 n21:: .int .i64 n22:: .int .i64 n23:: .int .i64 n24:: .int .i64 n25:: .int .i64 n26:: .int .i64 n27:: .int .i64 n28:: .int .i64 n29:: .int .i64 n30:: .int .i64 n31:: .int .i64 n32:: .int .i64 n33:: .int .i64 n34:: .slice st.a st.len st.cap::[])) (λx:Int=> .bool (decide (x>n20))):=by
 rintro x W K hr hK;refine sQ (by kernel_rfl) ?_;refine Calls.mono (H7 (a0:=x) (f0:=⟨f0,0,none⟩) (w:=W) (K:=λr W'=>r=decide (x>n20)/\Ext W W') ?_) ?_
 ·simp only[sx,hr.cell];exact⟨by trivial,Ext.refl _⟩
 ·rintro e W' ⟨r,he,rfl,hf⟩;exact⟨_,he,hK W' hf⟩
end Go.Proofs.CN
namespace Go.Proofs.CN
open Gp
theorem PG {α β:Type} {xs:List α} {k:α->β} {i:Nat} {x:α} (h:xs[i]? =some x):(((xs.map k).map λy=>(y,())):List (β×Unit))[i]? =some (k x,()):=by
 rw[getElem?_map,getElem?_map,h];rfl
theorem KW {f0 f1:Nat} {s:eY} {xs:List Int} {fv:Value} {k:Int->Int} (hl:s.len<=2^62) (hk:Tc fv (λx:Int=>Value.int .i64 x) [.one (.int .i64)] (λ_=>True) (λx=>(λx:Int=>Value.int .i64 x) (k x))):
  lX Tryz.prog [.one (.int .i64)] (Value.func (.func Dt) #[] #[.pointer (some ⟨f0,0,none⟩),.pointer (some ⟨f1,0,none⟩)]) (λW=>Row W f0 [.slice s.a s.len s.cap]/\Row W f1 [fv]/\lV 1 eI W s xs) ((xs.map k).map λy=>(y,())):=by
 refine⟨by kernel_rfl,λl Q D hC hQ hD hy w h0=> ?_⟩;refine Calls.mono (CG (a0:= .func (.yield l) #[] #[]) (f0:=⟨f0,0,none⟩) (f1:=⟨f1,0,none⟩) (K:=λw'=>Q (((xs.map k).map λy=>(y,())):List (Int×Unit)).length w'\/D w') ?_) (λe w' h=>h);obtain⟨r0,r1,hs⟩:=hC _ _ h0;simp only[sx,r0.cell];refine fZ (λst W=>∃j:Nat,j<=xs.length/\st.1=(j:Int)/\Q j W) (λst _=>(s.len - st.1).toNat) ⟨0,by omega,rfl,h0⟩ ?_;rintro⟨i,⟨⟩⟩ W ⟨j,hj,hi,hq⟩ next u
 simp only at hi;subst hi;obtain⟨r0,r1,hs⟩:=hC _ _ hq;have hlen:=hs.len;by_cases I:(j:Int)<(s.len:Int)
 ·simp only[I,decide_true,cond_true];have hx:=getElem?_eq_getElem (show j<xs.length by omega);generalize xs[j]=x at hx;have J:=PG (k:=k) hx;refine SlN_ix qG (by omega) hs (by omega) (by rw[toNat_natCast];exact hx) λa hc=> ?_;have z:=hk x;dsimp only at z;generalize k x=y at z J;obtain x:=x;have c0:W.cell? (a.add 0)=some (.int .i64 x):=hc 0 _ rfl;rw[show a.add 0=a from rfl] at c0;simp only[getElem?_cons_zero,fC,fD,Wp,c0,r1.cell];obtain⟨W1,hW1⟩:∃W1,W1=W:=⟨W,rfl⟩;subst hW1;have hq1:=hq;refine z W1 _ trivial λW2 hf2=> ?_;have hq2:=hQ _ _ _ hq1 hf2;obtain y:=y;refine⟨y,rfl,?_⟩;refine kC (hy j _ W2 _ J hq2 ?_ ?_)
  ·intro W' hq';refine⟨true,rfl,?_⟩;simp only[Bool.not_true,cond_false];rw[wrap_i64 (by omega) (by omega)];exact u _ _ ⟨j+1,by omega,by simp,hq'⟩ (by simp only;omega)
  ·intro W' hd;exact⟨false,rfl,by simp only[Bool.not_false,cond_true];exact .inr hd⟩
 ·simp only[I,decide_false,cond_false];have:j=xs.length:=by omega
  subst this;exact .inl (by simpa using hq)
theorem Wx {w:World} {s:eY} {xs:List Int} {fv:Value} {k:Int->Int} (hs:lV 1 eI w s xs) (hl:s.len<=2^62) (ho:iC fv=true) (hk:Tc fv (λx:Int=>Value.int .i64 x) [.one (.int .i64)] (λ_=>True) (λx=>(λx:Int=>Value.int .i64 x) (k x))):
  jV s fv w λv w'=>Ext w w'/\∃C,lX Tryz.prog [.one (.int .i64)] v C ((xs.map k).map λy=>(y,()))/\∀W,Ext w' W->C W:=by
 apply Ee;refine⟨rfl,fP λa w1 ra ea z1 f1=>⟨ho,fP λb w2 rb eb z2 f2=> ?_⟩⟩;exact⟨f1.trans f2,_,KW hl hk,λW hW=>⟨(ra.ext f2).ext hW,rb.ext hW,((hs.ext f1).ext f2).ext hW⟩⟩
theorem Bg {f0 f1:Nat} {s:eY} {xs:List T16} {fv:Value} {k:T16->T16} (hl:s.len<=2^62) (hk:Tc fv (λx:T16=>Value.agg ⟨e16 x⟩) [.agg K16] (λ_=>True) (λx=>(λx:T16=>Value.agg ⟨e16 x⟩) (k x))):
  lX Tryz.prog [.agg K16] (Value.func (.func wo) #[] #[.pointer (some ⟨f0,0,none⟩),.pointer (some ⟨f1,0,none⟩)]) (λW=>Row W f0 [.slice s.a s.len s.cap]/\Row W f1 [fv]/\lV 16 e16 W s xs) ((xs.map k).map λy=>(y,())):=by
 refine⟨by kernel_rfl,λl Q D hC hQ hD hy w h0=> ?_⟩;refine Calls.mono (vP (a0:= .func (.yield l) #[] #[]) (f0:=⟨f0,0,none⟩) (f1:=⟨f1,0,none⟩) (K:=λw'=>Q (((xs.map k).map λy=>(y,())):List (T16×Unit)).length w'\/D w') ?_) (λe w' h=>h);obtain⟨r0,r1,hs⟩:=hC _ _ h0;simp only[sx,r0.cell];refine fZ (λst W=>∃j:Nat,j<=xs.length/\st.1=(j:Int)/\Q j W) (λst _=>(s.len - st.1).toNat) ⟨0,by omega,rfl,h0⟩ ?_;rintro⟨i,⟨⟩⟩ W ⟨j,hj,hi,hq⟩ next u
 simp only at hi;subst hi;obtain⟨r0,r1,hs⟩:=hC _ _ hq;have hlen:=hs.len;by_cases I:(j:Int)<(s.len:Int)
 ·simp only[I,decide_true,cond_true];have hx:=getElem?_eq_getElem (show j<xs.length by omega);generalize xs[j]=x at hx;have J:=PG (k:=k) hx;refine SlN_ix pW (by omega) hs (by omega) (by rw[toNat_natCast];exact hx) λa hc=> ?_;have z:=hk x;dsimp only at z;generalize k x=y at z J;obtain⟨x0,x1,x2,x3,x4,x5,x6,x7,x8,x9,U,Y,Z,aa,ab,ac,⟨⟩⟩:=x;have c0:W.cell? (a.add 0)=some (.int .u8 x0):=hc 0 _ rfl;have c1:W.cell? (a.add 1)=some (.int .u8 x1):=hc 1 _ rfl;have c2:W.cell? (a.add 2)=some (.int .u8 x2):=hc 2 _ rfl;have c3:W.cell? (a.add 3)=some (.int .u8 x3):=hc 3 _ rfl;have c4:W.cell? (a.add 4)=some (.int .u8 x4):=hc 4 _ rfl;have c5:W.cell? (a.add 5)=some (.int .u8 x5):=hc 5 _ rfl;have c6:W.cell? (a.add 6)=some (.int .u8 x6):=hc 6 _ rfl;have c7:W.cell? (a.add 7)=some (.int .u8 x7):=hc 7 _ rfl;have c8:W.cell? (a.add 8)=some (.int .u8 x8):=hc 8 _ rfl;have c9:W.cell? (a.add 9)=some (.int .u8 x9):=hc 9 _ rfl;have ae:W.cell? (a.add 10)=some (.int .u8 U):=hc 10 _ rfl;have af:W.cell? (a.add 11)=some (.int .u8 Y):=hc 11 _ rfl;have ag:W.cell? (a.add 12)=some (.int .u8 Z):=hc 12 _ rfl;have ah:W.cell? (a.add 13)=some (.int .u8 aa):=hc 13 _ rfl;have ai:W.cell? (a.add 14)=some (.int .u8 ab):=hc 14 _ rfl;have aj:W.cell? (a.add 15)=some (.int .u8 ac):=hc 15 _ rfl;simp only[fC,fD,c0,c1,c2,c3,c4,c5,c6,c7,c8,c9,ae,af,ag,ah,ai,aj];refine uP rfl rfl λt W1 rt et zt ft=> ?_;have r1:=r1.ext ft;have hq1:=hQ _ _ _ hq ft;simp only[sx,r1.cell,rt.cell];refine z W1 _ trivial λW2 hf2=> ?_;have hq2:=hQ _ _ _ hq1 hf2;obtain⟨y0,y1,y2,y3,y4,y5,y6,y7,y8,y9,ak,al,am,an,ao,aq,⟨⟩⟩:=y;refine⟨y0,y1,y2,y3,y4,y5,y6,y7,y8,y9,ak,al,am,an,ao,aq,rfl,?_⟩;refine kC (hy j _ W2 _ J hq2 ?_ ?_)
  ·intro W' hq';refine⟨true,rfl,?_⟩;simp only[Bool.not_true,cond_false];rw[wrap_i64 (by omega) (by omega)];exact u _ _ ⟨j+1,by omega,by simp,hq'⟩ (by simp only;omega)
  ·intro W' hd;exact⟨false,rfl,by simp only[Bool.not_false,cond_true];exact .inr hd⟩
 ·simp only[I,decide_false,cond_false];have:j=xs.length:=by omega
  subst this;exact .inl (by simpa using hq)
theorem Fz {w:World} {s:eY} {xs:List T16} {fv:Value} {k:T16->T16} (hs:lV 16 e16 w s xs) (hl:s.len<=2^62) (ho:iC fv=true) (hk:Tc fv (λx:T16=>Value.agg ⟨e16 x⟩) [.agg K16] (λ_=>True) (λx=>(λx:T16=>Value.agg ⟨e16 x⟩) (k x))):
  iR s fv w λv w'=>Ext w w'/\∃C,lX Tryz.prog [.agg K16] v C ((xs.map k).map λy=>(y,()))/\∀W,Ext w' W->C W:=by
 apply wZ;refine⟨rfl,fP λa w1 ra ea z1 f1=>⟨ho,fP λb w2 rb eb z2 f2=> ?_⟩⟩;exact⟨f1.trans f2,_,Bg hl hk,λW hW=>⟨(ra.ext f2).ext hW,rb.ext hW,((hs.ext f1).ext f2).ext hW⟩⟩
theorem wS {f0 f1:Nat} {s:eY} {xs:List T7} {fv:Value} {k:T7->T4} (hl:s.len<=2^62) (hk:Tc fv (λx:T7=>Value.agg ⟨e7 x⟩) [.agg K4] (λ_=>True) (λx=>(λx:T4=>Value.agg ⟨e4 x⟩) (k x))):
  lX Tryz.prog [.agg K4] (Value.func (.func rQ) #[] #[.pointer (some ⟨f0,0,none⟩),.pointer (some ⟨f1,0,none⟩)]) (λW=>Row W f0 [.slice s.a s.len s.cap]/\Row W f1 [fv]/\lV 7 e7 W s xs) ((xs.map k).map λy=>(y,())):=by
 refine⟨by kernel_rfl,λl Q D hC hQ hD hy w h0=> ?_⟩;refine Calls.mono (rC (a0:= .func (.yield l) #[] #[]) (f0:=⟨f0,0,none⟩) (f1:=⟨f1,0,none⟩) (K:=λw'=>Q (((xs.map k).map λy=>(y,())):List (T4×Unit)).length w'\/D w') ?_) (λe w' h=>h);obtain⟨r0,r1,hs⟩:=hC _ _ h0;simp only[sx,r0.cell];refine fZ (λst W=>∃j:Nat,j<=xs.length/\st.1=(j:Int)/\Q j W) (λst _=>(s.len - st.1).toNat) ⟨0,by omega,rfl,h0⟩ ?_;rintro⟨i,⟨⟩⟩ W ⟨j,hj,hi,hq⟩ next u
 simp only at hi;subst hi;obtain⟨r0,r1,hs⟩:=hC _ _ hq;have hlen:=hs.len;by_cases I:(j:Int)<(s.len:Int)
 ·simp only[I,decide_true,cond_true];have hx:=getElem?_eq_getElem (show j<xs.length by omega);generalize xs[j]=x at hx;have J:=PG (k:=k) hx;refine SlN_ix wR (by omega) hs (by omega) (by rw[toNat_natCast];exact hx) λa hc=> ?_;have z:=hk x;dsimp only at z;generalize k x=y at z J;obtain⟨x0,x1,x2,x3,x4,x5,x6,⟨⟩⟩:=x;have c0:W.cell? (a.add 0)=some (.int .i64 x0):=hc 0 _ rfl;have c1:W.cell? (a.add 1)=some (.int .i64 x1):=hc 1 _ rfl;have c2:W.cell? (a.add 2)=some (.int .i64 x2):=hc 2 _ rfl;have c3:W.cell? (a.add 3)=some (.int .i64 x3):=hc 3 _ rfl;have c4:W.cell? (a.add 4)=some (.int .i64 x4):=hc 4 _ rfl;have c5:W.cell? (a.add 5)=some (.int .i64 x5):=hc 5 _ rfl;have c6:W.cell? (a.add 6)=some (.int .i64 x6):=hc 6 _ rfl;simp only[fC,fD,c0,c1,c2,c3,c4,c5,c6];refine uP rfl rfl λt W1 rt et zt ft=> ?_;have r1:=r1.ext ft;have hq1:=hQ _ _ _ hq ft;simp only[sx,r1.cell,rt.cell];refine z W1 _ trivial λW2 hf2=> ?_;have hq2:=hQ _ _ _ hq1 hf2;obtain⟨y0,y1,y2,y3,⟨⟩⟩:=y;refine⟨y0,y1,y2,y3,rfl,?_⟩;refine kC (hy j _ W2 _ J hq2 ?_ ?_)
  ·intro W' hq';refine⟨true,rfl,?_⟩;simp only[Bool.not_true,cond_false];rw[wrap_i64 (by omega) (by omega)];exact u _ _ ⟨j+1,by omega,by simp,hq'⟩ (by simp only;omega)
  ·intro W' hd;exact⟨false,rfl,by simp only[Bool.not_false,cond_true];exact .inr hd⟩
 ·simp only[I,decide_false,cond_false];have:j=xs.length:=by omega
  subst this;exact .inl (by simpa using hq)
theorem Bc {w:World} {s:eY} {xs:List T7} {fv:Value} {k:T7->T4} (hs:lV 7 e7 w s xs) (hl:s.len<=2^62) (ho:iC fv=true) (hk:Tc fv (λx:T7=>Value.agg ⟨e7 x⟩) [.agg K4] (λ_=>True) (λx=>(λx:T4=>Value.agg ⟨e4 x⟩) (k x))):
  iH s fv w λv w'=>Ext w w'/\∃C,lX Tryz.prog [.agg K4] v C ((xs.map k).map λy=>(y,()))/\∀W,Ext w' W->C W:=by
 apply tq;refine⟨rfl,fP λa w1 ra ea z1 f1=>⟨ho,fP λb w2 rb eb z2 f2=> ?_⟩⟩;exact⟨f1.trans f2,_,wS hl hk,λW hW=>⟨(ra.ext f2).ext hW,rb.ext hW,((hs.ext f1).ext f2).ext hW⟩⟩
theorem wU {f0 f1:Nat} {s:eY} {xs:List T7} {fv:Value} {k:T7->T3} (hl:s.len<=2^62) (hk:Tc fv (λx:T7=>Value.agg ⟨e7 x⟩) [.agg K3] (λ_=>True) (λx=>(λx:T3=>Value.agg ⟨e3 x⟩) (k x))):
  lX Tryz.prog [.agg K3] (Value.func (.func rU) #[] #[.pointer (some ⟨f0,0,none⟩),.pointer (some ⟨f1,0,none⟩)]) (λW=>Row W f0 [.slice s.a s.len s.cap]/\Row W f1 [fv]/\lV 7 e7 W s xs) ((xs.map k).map λy=>(y,())):=by
 refine⟨by kernel_rfl,λl Q D hC hQ hD hy w h0=> ?_⟩;refine Calls.mono (rD (a0:= .func (.yield l) #[] #[]) (f0:=⟨f0,0,none⟩) (f1:=⟨f1,0,none⟩) (K:=λw'=>Q (((xs.map k).map λy=>(y,())):List (T3×Unit)).length w'\/D w') ?_) (λe w' h=>h);obtain⟨r0,r1,hs⟩:=hC _ _ h0;simp only[sx,r0.cell];refine fZ (λst W=>∃j:Nat,j<=xs.length/\st.1=(j:Int)/\Q j W) (λst _=>(s.len - st.1).toNat) ⟨0,by omega,rfl,h0⟩ ?_;rintro⟨i,⟨⟩⟩ W ⟨j,hj,hi,hq⟩ next u
 simp only at hi;subst hi;obtain⟨r0,r1,hs⟩:=hC _ _ hq;have hlen:=hs.len;by_cases I:(j:Int)<(s.len:Int)
 ·simp only[I,decide_true,cond_true];have hx:=getElem?_eq_getElem (show j<xs.length by omega);generalize xs[j]=x at hx;have J:=PG (k:=k) hx;refine SlN_ix wR (by omega) hs (by omega) (by rw[toNat_natCast];exact hx) λa hc=> ?_;have z:=hk x;dsimp only at z;generalize k x=y at z J;obtain⟨x0,x1,x2,x3,x4,x5,x6,⟨⟩⟩:=x;have c0:W.cell? (a.add 0)=some (.int .i64 x0):=hc 0 _ rfl;have c1:W.cell? (a.add 1)=some (.int .i64 x1):=hc 1 _ rfl;have c2:W.cell? (a.add 2)=some (.int .i64 x2):=hc 2 _ rfl;have c3:W.cell? (a.add 3)=some (.int .i64 x3):=hc 3 _ rfl;have c4:W.cell? (a.add 4)=some (.int .i64 x4):=hc 4 _ rfl;have c5:W.cell? (a.add 5)=some (.int .i64 x5):=hc 5 _ rfl;have c6:W.cell? (a.add 6)=some (.int .i64 x6):=hc 6 _ rfl;simp only[fC,fD,c0,c1,c2,c3,c4,c5,c6];refine uP rfl rfl λt W1 rt et zt ft=> ?_;have r1:=r1.ext ft;have hq1:=hQ _ _ _ hq ft;simp only[sx,r1.cell,rt.cell];refine z W1 _ trivial λW2 hf2=> ?_;have hq2:=hQ _ _ _ hq1 hf2;obtain⟨y0,y1,y2,⟨⟩⟩:=y;refine⟨y0,y1,y2,rfl,?_⟩;refine kC (hy j _ W2 _ J hq2 ?_ ?_)
  ·intro W' hq';refine⟨true,rfl,?_⟩;simp only[Bool.not_true,cond_false];rw[wrap_i64 (by omega) (by omega)];exact u _ _ ⟨j+1,by omega,by simp,hq'⟩ (by simp only;omega)
  ·intro W' hd;exact⟨false,rfl,by simp only[Bool.not_false,cond_true];exact .inr hd⟩
 ·simp only[I,decide_false,cond_false];have:j=xs.length:=by omega
  subst this;exact .inl (by simpa using hq)
theorem Bd {w:World} {s:eY} {xs:List T7} {fv:Value} {k:T7->T3} (hs:lV 7 e7 w s xs) (hl:s.len<=2^62) (ho:iC fv=true) (hk:Tc fv (λx:T7=>Value.agg ⟨e7 x⟩) [.agg K3] (λ_=>True) (λx=>(λx:T3=>Value.agg ⟨e3 x⟩) (k x))):
  iI s fv w λv w'=>Ext w w'/\∃C,lX Tryz.prog [.agg K3] v C ((xs.map k).map λy=>(y,()))/\∀W,Ext w' W->C W:=by
 apply tC;refine⟨rfl,fP λa w1 ra ea z1 f1=>⟨ho,fP λb w2 rb eb z2 f2=> ?_⟩⟩;exact⟨f1.trans f2,_,wU hl hk,λW hW=>⟨(ra.ext f2).ext hW,rb.ext hW,((hs.ext f1).ext f2).ext hW⟩⟩
def xg (p:T16) (n:Nat) (sl:List T16) (pl:List Int) (tl:List T7):Bool:=
 mX p && (!(sl.any λx=> !mX x) && (!(pl.any λx=> !decide (lN x)) && !(tl.any λx=> !decide (DF n pl x))))
theorem afY {w:World} {p0 p1 p2 p3 p4 p5 p6 p7 p8 p9 j u z I J U:Int} {sw po:eY} {n18 n19 n20 n21 n22 n23 n24 n25 n26 n27 n28 n29 n30 n31 n32 n33 n34:Int} {st:eY} {sl:List T16} {pl:List Int} {tl:List T7} (Z:lV 16 e16 w sw sl) (Y:lV 1 eI w po pl) (aa:lV 7 e7 w st tl) (lsw:sw.len<=2^62) (lpo:po.len<=2^62) (lst:st.len<=2^62):
  qx p0 p1 p2 p3 p4 p5 p6 p7 p8 p9 j u z I J U sw po n18 n19 n20 n21 n22 n23 n24 n25 n26 n27 n28 n29 n30 n31 n32 n33 n34 st w λr w'=>r=xg (p0,p1,p2,p3,p4,p5,p6,p7,p8,p9,j,u,z,I,J,U,()) sw.len sl pl tl/\Ext w w':=by
 apply O9;refine fP λa w1 ra ea z1 f1=> ?_;simp -zeta only[sx,ra.cell];intro J4;have hJ4:∀b W,Ext w1 W->b= !(mX (p0,p1,p2,p3,p4,p5,p6,p7,p8,p9,j,u,z,I,J,U,()) && !(sl.any λx=> !mX x))->J4 b W:=by
  intro b W hx hb;simp -zeta only[J4]
  cases b
  ·simp -zeta only[cond_false];intro J7;have hJ7:∀b W',Ext W W'->b= !(!(pl.any λx=> !decide (lN x)) && !(tl.any λx=> !decide (DF sw.len pl x)))->J7 b W':=by
    intro b2 W' hx' hb2;simp only[J7];have e1:(mX (p0,p1,p2,p3,p4,p5,p6,p7,p8,p9,j,u,z,I,J,U,()) && !(sl.any λx=> !mX x))=true:=by rw[<- Bool.not_not (mX _ && _),<- hb];rfl
    have xx:=(f1.trans hx).trans hx';have hr:xg (p0,p1,p2,p3,p4,p5,p6,p7,p8,p9,j,u,z,I,J,U,()) sw.len sl pl tl= !b2:=by
     unfold xg;rw[<- Bool.and_assoc,e1,hb2,Bool.true_and,Bool.not_not]
    rw[hr]
    cases b2
    ·exact⟨rfl,xx⟩
    ·exact⟨rfl,xx⟩
   have raW:=ra.ext hx;simp -zeta only[getElem?_cons_zero,getElem?_cons_succ,fC,fE,raW.cell];refine oz (Qu ((Y.ext f1).ext hx) lpo YL λ_ _=>trivial) ?_;rintro _ w' ⟨rfl,hf⟩
   cases hp:pl.any λx=> !decide (lN x)
   ·have ra':=raW.ext hf;simp -zeta only[cond_false,cond_false,getElem?_cons_zero,getElem?_cons_succ,fC,fE,ra'.cell];refine ou (aao (((aa.ext f1).ext hx).ext hf) lst (afc lsw lpo) λW hW=>⟨ra'.ext hW,(((Y.ext f1).ext hx).ext hf).ext hW⟩) ?_;rintro _ w'' ⟨rfl,hf'⟩;exact hJ7 _ _ (hf.trans hf') (by rw[hp];simp)
   ·simp -zeta only[cond_true];exact hJ7 _ _ hf (by rw[hp];simp)
  ·simp only[cond_true];have e1:(mX (p0,p1,p2,p3,p4,p5,p6,p7,p8,p9,j,u,z,I,J,U,()) && !(sl.any λx=> !mX x))=false:=by rw[<- Bool.not_not (mX _ && _),<- hb];rfl
   refine⟨?_,f1.trans hx⟩;unfold xg;rw[<- Bool.and_assoc,e1,Bool.false_and]
 refine NZ (OA _) ?_;rintro _ w' ⟨rfl,hf⟩
 cases hp:mX (p0,p1,p2,p3,p4,p5,p6,p7,p8,p9,j,u,z,I,J,U,())
 ·simp -zeta only[Bool.not_false,cond_true];exact hJ4 _ _ hf (by rw[hp];simp)
 ·have ra':=ra.ext hf;simp -zeta only[Bool.not_true,cond_false,cond_false,getElem?_cons_zero,getElem?_cons_succ,fC,fE,ra'.cell];refine qF (Yv ((Z.ext f1).ext hf) lsw aaA λ_ _=>trivial) ?_;rintro _ w'' ⟨rfl,hf'⟩;exact hJ4 _ _ (hf.trans hf') (by rw[hp];simp)
end Go.Proofs.CN
