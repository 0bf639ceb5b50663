import Derived.Test.YtdmbjlliegbpcaaGreatDoorW7
import Derived.Test.YtdmbjlliegbpcaaGreatDoorW5
import Derived.Test.YtdmbjlliegbpcaaGreatDoorW3
import Derived.Test.YtdmbjlliegbpcaaGreatDoorW2
import Derived.Test.YtdmbjlliegbpcaaGreatDoorG27x
open List (any_append any_cons any_nil getElem?_eq_getElem getElem?_map getElem_mem length_cons length_nil length_range map_cons map_id' take_of_length_le)
open Int (toNat_natCast)
open Bool (decide_and not_eq_true)
set_option maxRecDepth 100000
section
namespace Gp.Cfg
theorem Sr {α:Type} {l:List α}:l.Nodup↔∀(i:Nat) x,l[i]? =some x->x∉l.take i:=by
 unfold List.Nodup;rw[List.pairwise_iff_getElem];constructor
 ·intro h i x hx hm;obtain⟨hi,rfl⟩:=List.getElem?_eq_some_iff.1 hx;obtain⟨j,hj,he⟩:=List.mem_take_iff_getElem.1 hm;exact h j i (by omega) hi (by omega) he
 ·intro h i j hi hj hlt he;exact h j l[j] (getElem?_eq_getElem hj) (List.mem_take_iff_getElem.2 ⟨i,by omega,he⟩)
theorem aas {α:Type} {l:List α} {a:α}:(l++[a]).Nodup↔l.Nodup/\a∉l:=by
 rw[List.nodup_append];constructor
 ·rintro⟨h1,_,h3⟩;exact⟨h1,λhm=>h3 a hm a (by simp) rfl⟩
 ·rintro⟨h1,h2⟩;exact⟨h1,by simp,λx hx y hy e=>by simp only[List.mem_singleton] at hy;subst hy;subst e;exact h2 hx⟩
theorem take_snoc {α:Type} {l:List α} {i:Nat} {x:α} (h:l[i]? =some x):l.take (i+1)=l.take i++[x]:=by
 rw[List.take_add_one,h];rfl
end Gp.Cfg
namespace Go.Proofs.CN
open Gp
abbrev eI (x:Int):List Value:=[Β x]
theorem jX (x:Int):(eI x).length=1:=rfl
theorem SlN_ix {α:Type} {n:Nat} {f:α->List Value} {w:θ} {s:fU} {xs:List α} (hn:∀x,(f x).length=n) (hn0:0<n) (h:mQ n f w s xs) {i:Int} {K:Addr->Prop} {x:α} (h0:0<=i) (hx:xs[i.toNat]? =some x)
  (hK:∀a:Addr,(∀j v,(f x)[j]? =some v->w.cell? (a.add j)=some v)->K a):iM s n i K:=by
 obtain⟨a,ha,hc⟩:=h.at_ hn hn0 hx;have hlt:=(List.getElem?_eq_some_iff.1 hx).1;obtain⟨sa,sl,sc⟩:=s;simp only at ha;subst ha;have hl:sl=xs.length:=h.len;refine(uQ ..).2 ⟨h0,by omega,hK _ λj v hj=> ?_⟩;rw[<- hc j v hj];congr 1;obtain⟨b,o,t⟩:=a;unfold Addr.add;by_cases h1:i.toNat * n=0<;>by_cases h2:j=0<;>simp[h1,h2,Nat.add_assoc]
def idx {α:Type} (xs:List α) (x:α) (r:Int):Prop:=(∃i:Nat,r=(i:Int)/\xs[i]? =some x/\x∉xs.take i)\/(r= -1/\x∉xs)
theorem ahH {α:Type} {xs:List α} {x:α} {r:Int} (h:idx xs x r):r>=0↔x∈xs:=by
 rcases h with ⟨i,rfl,h1,_⟩|⟨rfl,h1⟩
 ·exact⟨λ_=>List.mem_of_getElem? h1,λ_=>by omega⟩
 ·exact⟨λh=>by omega,λh=>absurd h h1⟩
theorem aeF {w:θ} {s:fU} {xs:List Int} (hs:mQ 1 eI w s xs) (hl:s.len<=2^62) (x:Int):lZ s x w λr w'=>idx xs x r/\w'=w:=by
 apply uX;refine gX (λst W=>∃j:Nat,j<=xs.length/\st.1=(j:Int)/\W=w/\x∉xs.take j) (λst _=>(s.len - st.1).toNat) ⟨0,by omega,rfl,rfl,by simp⟩ ?_;rintro⟨i,⟨⟩⟩ W ⟨j,hj,hi,hw,hm⟩ next u
 simp only at hi;subst hi;subst hw;have hlen:=hs.len;by_cases I:(j:Int)<(s.len:Int)
 ·simp only[I,decide_true,cond_true];have hx:=getElem?_eq_getElem (show j<xs.length by omega);refine SlN_ix jX (by omega) hs (by omega) (by rw[toNat_natCast];exact hx) λa hc=> ?_;have c0:=hc 0 _ rfl;rw[show a.add 0=a from rfl] at c0;simp only[sx,c0];by_cases he:x=xs[j]
  ·rw[show (x==xs[j])=true by simpa using he,cond_true];exact⟨.inl ⟨j,rfl,by rw[hx,<- he],hm⟩,by trivial⟩
  ·rw[show (x==xs[j])=false by simpa using he,cond_false];rw[Α];refine u _ _ ⟨j+1,by omega,by simp,rfl,?_⟩ (by simp only;omega);rw[Gp.Cfg.take_snoc hx,List.mem_append,List.mem_singleton];exact λh=>h.elim hm he
 ·simp only[I,decide_false,cond_false];refine⟨.inr ⟨rfl,?_⟩,by trivial⟩
  rwa [take_of_length_le (by omega)] at hm
theorem Bq {w:θ} {s:fU} {xs:List Int} (hs:mQ 1 eI w s xs) (hl:s.len<=2^62) (x:Int):iT s x w λr w'=>r=decide (x∈xs)/\w'=w:=by
 apply qU;refine cmS1 (aeF hs hl x) ?_;rintro r w' ⟨h,hw⟩;exact⟨by simp only[decide_eq_decide];exact ahH h,hw⟩
def rZ (a:Int):Prop:=16777216<=a/\a<3758096384/\a / 16777216≠127
instance (a:Int):Decidable (rZ a):=inferInstanceAs (Decidable (_/\_/\_))
theorem VJ {a:Int} (h:0<=a) (h2:a<4294967296):abe a↔rZ a:=by
 obtain⟨n,rfl⟩:∃n:Nat,a=(n:Int):=⟨a.toNat,by omega⟩;unfold abe rZ;rw[show (0:Int)=((0:Nat):Int) from rfl,show (2130706432:Int)=((2130706432:Nat):Int) from rfl,show (3758096384:Int)=((3758096384:Nat):Int) from rfl,
  show (24:Int)=((24:Nat):Int) from rfl,show (29:Int)=((29:Nat):Int) from rfl,xM (by omega),xM (by omega),xM (by omega),xM (by omega),xM (by omega)]
 simp only[aeD,decide_eq_false_iff_not];omega
theorem yY (a:Int) (w:θ):qJ a w λr w'=>r=decide (rZ a)/\Ext w w':=by
 by_cases hA:abe a
 ·refine cmS0 (af5 hA w) ?_;rintro _ w' ⟨rfl,hf⟩;exact⟨(decide_eq_true ((VJ hA.1 hA.2.1).1 hA)).symm,hf⟩
 apply MX;refine cmS0 (DT a _) ?_;rintro _ w' ⟨rfl,hw⟩;subst hw;by_cases hr:0<=a/\a<4294967296
 ·have hF:¬rZ a:=λh=>hA ((VJ hr.1 hr.2).2 h);simp only[hr,and_self,decide_true,Bool.not_true,cond_false];refine gq λt w1 r1 e1 z1 f1=> ?_;refine cmS0 (K:=λr w2=>r=true/\Ext w1 w2) ?_ ?_
  ·apply PG;refine gX (λst W=>∃j:Nat,j<=3/\st.1=(j:Int)/\Ext w1 W/\(0<j->(jH .i64 a 24==jH .i64 0 24)=false)/\(1<j->(jH .i64 a 24==jH .i64 2130706432 24)=false)/\(2<j->(jH .i64 a 29==jH .i64 3758096384 29)=false)) (λst _=>(3 - st.1).toNat)
    ⟨0,by omega,rfl,Ext.refl _,by omega,by omega,by omega⟩ ?_
   rintro⟨i,⟨⟩⟩ W ⟨j,hj,hi,hx,g1,g2,g3⟩ next u
   simp only at hi;subst hi;have r:=r1.ext hx;by_cases I:j<3
   ·have hl:((j:Int)<((3:Nat):Int)):=by omega
    have J:∃x y:Int,0<=y/\y<=32/\W.cell? ⟨t,j * 2,none⟩=some (Β x)/\W.cell? ⟨t,j * 2+1,none⟩=some (Β y)/\
      (((jH .i64 a (32 - y)==jH .i64 x (32 - y))=false)->(0<j+1->(jH .i64 a 24==jH .i64 0 24)=false)/\(1<j+1->(jH .i64 a 24==jH .i64 2130706432 24)=false)/\(2<j+1->(jH .i64 a 29==jH .i64 3758096384 29)=false)):=by
     match j,I,g1,g2,g3 with
     |0,_,_,_,_=>exact⟨0,8,by omega,by omega,r.cell 0,r.cell 1,λh=>⟨λ_=>h,by omega,by omega⟩⟩
     |1,_,g1,_,_=>exact⟨2130706432,8,by omega,by omega,r.cell 2,r.cell 3,λh=>⟨λ_=>g1 (by omega),λ_=>h,by omega⟩⟩
     |2,_,g1,g2,_=>exact⟨3758096384,3,by omega,by omega,r.cell 4,r.cell 5,λh=>⟨λ_=>g1 (by omega),λ_=>g2 (by omega),λ_=>h⟩⟩
    obtain⟨x,y,hy,hy2,c0,c1,hg⟩:=J;simp only[sx,hl,decide_true,toNat_natCast,c0,c1];refine⟨by first|trivial|omega,by first|trivial|omega,?_⟩
    refine DX rfl rfl λb w3 r3 e3 z3 x3=> ?_;simp only[sx,r3.cell];refine cmS0 (YK hy hy2 _) ?_;rintro _ w4 ⟨rfl,x4⟩;by_cases hs:(jH .i64 a (32 - y)==jH .i64 x (32 - y))=true
    ·simp only[hs,hr,and_self,decide_true,Bool.and_true,cond_true];exact⟨by trivial,(hx.trans x3).trans x4⟩
    ·have hs:(jH .i64 a (32 - y)==jH .i64 x (32 - y))=false:=by simpa only [not_eq_true] using hs
     obtain⟨g1,g2,g3⟩:=hg hs;simp only[hs,Bool.and_false,cond_false];rw[Α];exact u _ _ ⟨j+1,by omega,by simp,(hx.trans x3).trans x4,g1,g2,g3⟩ (by simp only;omega)
   ·exact absurd ⟨hr.1,hr.2,g1 (by omega),g2 (by omega),g3 (by omega)⟩ hA
  ·rintro _ w2 ⟨rfl,f2⟩;exact⟨by simp[hF],f1.trans f2⟩
 ·simp only[hr,decide_false,Bool.not_false,cond_true];have hF:¬rZ a:=λh=>hr (by unfold rZ at h;omega);exact⟨by simp[hF],Ext.refl _⟩
theorem xQ (n lo hi:Int) (w:θ):kG n lo hi w λr w'=>r=decide (lo<=n/\n<=hi)/\Ext w w':=by
 apply KT;refine gq λt w1 r1 e1 z1 f1=> ?_;simp only[sx,r1.cell];by_cases h:lo<=n
 ·simp only[h,decide_true,cond_true,true_and];exact f1
 ·simp only[h,decide_false,cond_false,false_and];exact⟨by trivial,f1⟩
def aao (m:Int):Prop:=m=0\/(536<=m/\m<=65535)
instance (m:Int):Decidable (aao m):=inferInstanceAs (Decidable (_\/_))
theorem afi (m:Int) (w:θ):zT m w λr w'=>r=decide (aao m)/\Ext w w':=by
 apply Qe;by_cases h:m=0
 ·subst h;simp only[beq_self_eq_true,cond_true];exact⟨by simp[aao],Ext.refl _⟩
 ·rw[show (m==0)=false by simpa using h];simp only[cond_false];refine cmS0 (xQ _ _ _ _) ?_;rintro _ w' ⟨rfl,hf⟩;exact⟨by simp[aao,h],hf⟩
theorem aaF (n:Int) (w:θ):zS n w λr w'=>r=decide (n=1\/n=6\/n=17)/\Ext w w':=by
 apply Qd;refine gq λt w1 r1 e1 z1 f1=> ?_;have hs:mQ 1 eI w1 ⟨some ⟨t,0,none⟩,3,3⟩ [1,6,17]:=(iV.row (xs:=[(1:Int),6,17]) (f:=eI) (n:=1) r1).sl jX (by omega);refine cmS0 (Bq hs (by simp) n) ?_;rintro _ w2 ⟨rfl,hw⟩;subst hw;exact⟨by simp,f1⟩
end Go.Proofs.CN
namespace Go.Proofs.CN
open Gp
abbrev K16:List Kind:=[.int .u8,.int .u8,.int .u8,.int .u8,.int .u8,.int .u8,.int .u8,.int .u8,.int .u8,.int .u8,.int .u8,.int .u8,.int .u8,.int .u8,.int .u8,.int .u8]
abbrev K7:List Kind:=[.int .i64,.int .i64,.int .i64,.int .i64,.int .i64,.int .i64,.int .i64]
abbrev K4:List Kind:=[.int .i64,.int .i64,.int .i64,.int .i64]
abbrev K3:List Kind:=[.int .i64,.int .i64,.int .i64]
abbrev T16:=Int×Int×Int×Int×Int×Int×Int×Int×Int×Int×Int×Int×Int×Int×Int×Int×Unit
abbrev T7:=Int×Int×Int×Int×Int×Int×Int×Unit
abbrev T4:=Int×Int×Int×Int×Unit
abbrev T3:=Int×Int×Int×Unit
abbrev e16 (x:T16):List Value:=WY K16 x
abbrev e7 (x:T7):List Value:=WY K7 x
abbrev e4 (x:T4):List Value:=WY K4 x
abbrev e3 (x:T3):List Value:=WY K3 x
theorem e16_len (x:T16):(e16 x).length=16:=rfl
theorem Og (x:T7):(e7 x).length=7:=rfl
def Ug {α:Type} (v:Value) (ev:α->Value) (sh:List Shape) (C:b_) (r:α->Value):Prop:=
 ∀x W (K:Value->b_),C W->(∀W',Ext W W'->K (r x) W')->jy υ sh v [ev x] W K
theorem af7 {w:θ} {s:fU} {xs:List Int} {v:Value} {p:Int->Bool} {C:b_} (hs:mQ 1 eI w s xs) (hl:s.len<=2^62) (hp:Ug v (λx:Int=>Β x) [.one .bool] C λx=> .bool (p x)) (hC:∀W,Ext w W->C W):
  mG s v w λr w'=>(r>=0↔xs.any p=true)/\Ext w w':=by
 apply yZ;refine gX (λst W=>∃j:Nat,j<=xs.length/\st.1=(j:Int)/\Ext w W/\(xs.take j).any p=false) (λst _=>(s.len - st.1).toNat) ⟨0,by omega,rfl,Ext.refl _,by simp⟩ ?_;rintro⟨i,⟨⟩⟩ W ⟨j,hj,hi,hw,hm⟩ next u
 simp only at hi;subst hi;have hlen:=hs.len;by_cases J:(j:Int)<(s.len:Int)
 ·simp only[J,decide_true,cond_true];have hx:=getElem?_eq_getElem (show j<xs.length by omega);have N:=Gp.Cfg.take_snoc hx;have I:=getElem_mem (show j<xs.length by omega);generalize xs[j]=x at hx N I;refine SlN_ix jX (by omega) (hs.ext hw) (by omega) (by rw[toNat_natCast];exact hx) λa hc=> ?_;have hp:=hp x;dsimp only at hp;by_cases he:p x=true
  ·rw[he] at hp;obtain x:=x;have c0:=hc 0 _ rfl;rw[show a.add 0=a from rfl] at c0;simp only[sx,c0];refine hp W _ (hC W hw) λW' hf=>⟨true,rfl,?_⟩;simp only[cond_true];exact⟨⟨λ_=>List.any_eq_true.2 ⟨_,I,he⟩,λ_=>by omega⟩,hw.trans hf⟩
  ·have he:p x=false:=by simpa only [not_eq_true] using he
   rw[he] at hp;obtain x:=x;have c0:=hc 0 _ rfl;rw[show a.add 0=a from rfl] at c0;simp only[sx,c0];refine hp W _ (hC W hw) λW' hf=>⟨false,rfl,?_⟩;simp only[cond_false];rw[Α];refine u _ _ ⟨j+1,by omega,by simp,hw.trans hf,?_⟩ (by simp only;omega);rw[N,any_append,hm,any_cons,he,any_nil];rfl
 ·simp only[J,decide_false,cond_false];rw[take_of_length_le (by omega)] at hm;exact⟨⟨λh=>by omega,λh=>by rw[hm] at h;cases h⟩,hw⟩
theorem Rf {w:θ} {s:fU} {xs:List Int} {v:Value} {p:Int->Bool} {C:b_} (hs:mQ 1 eI w s xs) (hl:s.len<=2^62) (hp:Ug v (λx:Int=>Β x) [.one .bool] C λx=> .bool (p x)) (hC:∀W,Ext w W->C W):
  jT s v w λr w'=>r=xs.any p/\Ext w w':=by
 apply w_;refine cmS1 (af7 hs hl hp hC) ?_;rintro r w' ⟨h,hf⟩;refine⟨?_,hf⟩
 cases hb:xs.any p with
 |true=>exact decide_eq_true (h.2 hb)
 |false=>exact decide_eq_false λhh=>by rw[h.1 hh] at hb;cases hb
theorem aeE {w:θ} {s:fU} {xs:List T16} {v:Value} {p:T16->Bool} {C:b_} (hs:mQ 16 e16 w s xs) (hl:s.len<=2^62) (hp:Ug v (λx:T16=>Value.agg ⟨e16 x⟩) [.one .bool] C λx=> .bool (p x)) (hC:∀W,Ext w W->C W):
  ku s v w λr w'=>(r>=0↔xs.any p=true)/\Ext w w':=by
 apply t_;refine gX (λst W=>∃j:Nat,j<=xs.length/\st.1=(j:Int)/\Ext w W/\(xs.take j).any p=false) (λst _=>(s.len - st.1).toNat) ⟨0,by omega,rfl,Ext.refl _,by simp⟩ ?_;rintro⟨i,⟨⟩⟩ W ⟨j,hj,hi,hw,hm⟩ next u
 simp only at hi;subst hi;have hlen:=hs.len;by_cases Z:(j:Int)<(s.len:Int)
 ·simp only[Z,decide_true,cond_true];have hx:=getElem?_eq_getElem (show j<xs.length by omega);have aa:=Gp.Cfg.take_snoc hx;have I:=getElem_mem (show j<xs.length by omega);generalize xs[j]=x at hx aa I;refine SlN_ix e16_len (by omega) (hs.ext hw) (by omega) (by rw[toNat_natCast];exact hx) λa hc=> ?_;have hp:=hp x;dsimp only at hp;by_cases he:p x=true
  ·rw[he] at hp;obtain⟨x0,x1,x2,x3,x4,x5,x6,x7,x8,x9,ac,af,ag,ah,ai,aj,⟨⟩⟩:=x;have c0:=hc 0 _ rfl;have c1:=hc 1 _ rfl;have c2:=hc 2 _ rfl;have c3:=hc 3 _ rfl;have c4:=hc 4 _ rfl;have c5:=hc 5 _ rfl;have c6:=hc 6 _ rfl;have c7:=hc 7 _ rfl;have c8:=hc 8 _ rfl;have c9:=hc 9 _ rfl;have J:=hc 10 _ rfl;have N:=hc 11 _ rfl;have O:=hc 12 _ rfl;have R:=hc 13 _ rfl;have U:=hc 14 _ rfl;have Y:=hc 15 _ rfl
   skip
   simp only[sx,c0,c1,c2,c3,c4,c5,c6,c7,c8,c9,J,N,O,R,U,Y];refine hp W _ (hC W hw) λW' hf=>⟨true,rfl,?_⟩;simp only[cond_true];exact⟨⟨λ_=>List.any_eq_true.2 ⟨_,I,he⟩,λ_=>by omega⟩,hw.trans hf⟩
  ·have he:p x=false:=by simpa only [not_eq_true] using he
   rw[he] at hp;obtain⟨x0,x1,x2,x3,x4,x5,x6,x7,x8,x9,ac,af,ag,ah,ai,aj,⟨⟩⟩:=x;have c0:=hc 0 _ rfl;have c1:=hc 1 _ rfl;have c2:=hc 2 _ rfl;have c3:=hc 3 _ rfl;have c4:=hc 4 _ rfl;have c5:=hc 5 _ rfl;have c6:=hc 6 _ rfl;have c7:=hc 7 _ rfl;have c8:=hc 8 _ rfl;have c9:=hc 9 _ rfl;have J:=hc 10 _ rfl;have N:=hc 11 _ rfl;have O:=hc 12 _ rfl;have R:=hc 13 _ rfl;have U:=hc 14 _ rfl;have Y:=hc 15 _ rfl
   skip
   simp only[sx,c0,c1,c2,c3,c4,c5,c6,c7,c8,c9,J,N,O,R,U,Y];refine hp W _ (hC W hw) λW' hf=>⟨false,rfl,?_⟩;simp only[cond_false];rw[Α];refine u _ _ ⟨j+1,by omega,by simp,hw.trans hf,?_⟩ (by simp only;omega);rw[aa,any_append,hm,any_cons,he,any_nil];rfl
 ·simp only[Z,decide_false,cond_false];rw[take_of_length_le (by omega)] at hm;exact⟨⟨λh=>by omega,λh=>by rw[hm] at h;cases h⟩,hw⟩
theorem YS {w:θ} {s:fU} {xs:List T16} {v:Value} {p:T16->Bool} {C:b_} (hs:mQ 16 e16 w s xs) (hl:s.len<=2^62) (hp:Ug v (λx:T16=>Value.agg ⟨e16 x⟩) [.one .bool] C λx=> .bool (p x)) (hC:∀W,Ext w W->C W):
  jM s v w λr w'=>r=xs.any p/\Ext w w':=by
 apply qR;refine cmS1 (aeE hs hl hp hC) ?_;rintro r w' ⟨h,hf⟩;refine⟨?_,hf⟩
 cases hb:xs.any p with
 |true=>exact decide_eq_true (h.2 hb)
 |false=>exact decide_eq_false λhh=>by rw[h.1 hh] at hb;cases hb
theorem af8 {w:θ} {s:fU} {xs:List T7} {v:Value} {p:T7->Bool} {C:b_} (hs:mQ 7 e7 w s xs) (hl:s.len<=2^62) (hp:Ug v (λx:T7=>Value.agg ⟨e7 x⟩) [.one .bool] C λx=> .bool (p x)) (hC:∀W,Ext w W->C W):
  jE s v w λr w'=>(r>=0↔xs.any p=true)/\Ext w w':=by
 apply pX;refine gX (λst W=>∃j:Nat,j<=xs.length/\st.1=(j:Int)/\Ext w W/\(xs.take j).any p=false) (λst _=>(s.len - st.1).toNat) ⟨0,by omega,rfl,Ext.refl _,by simp⟩ ?_;rintro⟨i,⟨⟩⟩ W ⟨j,hj,hi,hw,hm⟩ next u
 simp only at hi;subst hi;have hlen:=hs.len;by_cases J:(j:Int)<(s.len:Int)
 ·simp only[J,decide_true,cond_true];have hx:=getElem?_eq_getElem (show j<xs.length by omega);have N:=Gp.Cfg.take_snoc hx;have I:=getElem_mem (show j<xs.length by omega);generalize xs[j]=x at hx N I;refine SlN_ix Og (by omega) (hs.ext hw) (by omega) (by rw[toNat_natCast];exact hx) λa hc=> ?_;have hp:=hp x;dsimp only at hp;by_cases he:p x=true
  ·rw[he] at hp;obtain⟨x0,x1,x2,x3,x4,x5,x6,⟨⟩⟩:=x;have c0:=hc 0 _ rfl;have c1:=hc 1 _ rfl;have c2:=hc 2 _ rfl;have c3:=hc 3 _ rfl;have c4:=hc 4 _ rfl;have c5:=hc 5 _ rfl;have c6:=hc 6 _ rfl
   skip
   simp only[sx,c0,c1,c2,c3,c4,c5,c6];refine hp W _ (hC W hw) λW' hf=>⟨true,rfl,?_⟩;simp only[cond_true];exact⟨⟨λ_=>List.any_eq_true.2 ⟨_,I,he⟩,λ_=>by omega⟩,hw.trans hf⟩
  ·have he:p x=false:=by simpa only [not_eq_true] using he
   rw[he] at hp;obtain⟨x0,x1,x2,x3,x4,x5,x6,⟨⟩⟩:=x;have c0:=hc 0 _ rfl;have c1:=hc 1 _ rfl;have c2:=hc 2 _ rfl;have c3:=hc 3 _ rfl;have c4:=hc 4 _ rfl;have c5:=hc 5 _ rfl;have c6:=hc 6 _ rfl
   skip
   simp only[sx,c0,c1,c2,c3,c4,c5,c6];refine hp W _ (hC W hw) λW' hf=>⟨false,rfl,?_⟩;simp only[cond_false];rw[Α];refine u _ _ ⟨j+1,by omega,by simp,hw.trans hf,?_⟩ (by simp only;omega);rw[N,any_append,hm,any_cons,he,any_nil];rfl
 ·simp only[J,decide_false,cond_false];rw[take_of_length_le (by omega)] at hm;exact⟨⟨λh=>by omega,λh=>by rw[hm] at h;cases h⟩,hw⟩
theorem ϧ {w:θ} {s:fU} {xs:List T7} {v:Value} {p:T7->Bool} {C:b_} (hs:mQ 7 e7 w s xs) (hl:s.len<=2^62) (hp:Ug v (λx:T7=>Value.agg ⟨e7 x⟩) [.one .bool] C λx=> .bool (p x)) (hC:∀W,Ext w W->C W):
  jl s v w λr w'=>r=xs.any p/\Ext w w':=by
 apply oL;refine cmS1 (af8 hs hl hp hC) ?_;rintro r w' ⟨h,hf⟩;refine⟨?_,hf⟩
 cases hb:xs.any p with
 |true=>exact decide_eq_true (h.2 hb)
 |false=>exact decide_eq_false λhh=>by rw[h.1 hh] at hb;cases hb
end Go.Proofs.CN
namespace Go.Proofs.CN
open Gp
instance :DecidableEq T16:=(@instDecidableEqProd Int _ inferInstance (@instDecidableEqProd Int _ inferInstance (@instDecidableEqProd Int _ inferInstance (@instDecidableEqProd Int _ inferInstance (@instDecidableEqProd Int _ inferInstance (@instDecidableEqProd Int _ inferInstance (@instDecidableEqProd Int _ inferInstance (@instDecidableEqProd Int _ inferInstance (@instDecidableEqProd Int _ inferInstance (@instDecidableEqProd Int _ inferInstance (@instDecidableEqProd Int _ inferInstance (@instDecidableEqProd Int _ inferInstance (@instDecidableEqProd Int _ inferInstance (@instDecidableEqProd Int _ inferInstance (@instDecidableEqProd Int _ inferInstance (@instDecidableEqProd Int _ inferInstance inferInstance))))))))))))))))
instance :DecidableEq T7:=(@instDecidableEqProd Int _ inferInstance (@instDecidableEqProd Int _ inferInstance (@instDecidableEqProd Int _ inferInstance (@instDecidableEqProd Int _ inferInstance (@instDecidableEqProd Int _ inferInstance (@instDecidableEqProd Int _ inferInstance (@instDecidableEqProd Int _ inferInstance inferInstance)))))))
instance :DecidableEq T4:=(@instDecidableEqProd Int _ inferInstance (@instDecidableEqProd Int _ inferInstance (@instDecidableEqProd Int _ inferInstance (@instDecidableEqProd Int _ inferInstance inferInstance))))
instance :DecidableEq T3:=(@instDecidableEqProd Int _ inferInstance (@instDecidableEqProd Int _ inferInstance (@instDecidableEqProd Int _ inferInstance inferInstance)))
theorem aiC (a b:T16):Fa υ 16 26 (.agg ⟨e16 a⟩) (.agg ⟨e16 b⟩)=some (decide (a=b)):=by
 obtain⟨a0,a1,a2,a3,a4,a5,a6,a7,a8,a9,u,I,J,N,O,R,⟨⟩⟩:=a;obtain⟨b0,b1,b2,b3,b4,b5,b6,b7,b8,b9,U,Y,Z,aa,ac,af,⟨⟩⟩:=b;have h:Fa υ 16 26 (.agg ⟨e16 (a0,a1,a2,a3,a4,a5,a6,a7,a8,a9,u,I,J,N,O,R,())⟩) (.agg ⟨e16 (b0,b1,b2,b3,b4,b5,b6,b7,b8,b9,U,Y,Z,aa,ac,af,())⟩)=some ((a0==b0) && ((a1==b1) && ((a2==b2) && ((a3==b3) && ((a4==b4) && ((a5==b5) && ((a6==b6) && ((a7==b7) && ((a8==b8) && ((a9==b9) && ((u==U) && ((I==Y) && ((J==Z) && ((N==aa) && ((O==ac) && ((R==af) && true)))))))))))))))):=by kernel_rfl
 rw[h];simp[aeD,decide_and]
theorem eq4 (a b:T4):Fa υ 16 54 (.agg ⟨e4 a⟩) (.agg ⟨e4 b⟩)=some (decide (a=b)):=by
 obtain⟨a0,a1,a2,a3,⟨⟩⟩:=a;obtain⟨b0,b1,b2,b3,⟨⟩⟩:=b;have h:Fa υ 16 54 (.agg ⟨e4 (a0,a1,a2,a3,())⟩) (.agg ⟨e4 (b0,b1,b2,b3,())⟩)=some ((a0==b0) && ((a1==b1) && ((a2==b2) && ((a3==b3) && true)))):=by kernel_rfl
 rw[h];simp[aeD,decide_and]
theorem eq3 (a b:T3):Fa υ 16 56 (.agg ⟨e3 a⟩) (.agg ⟨e3 b⟩)=some (decide (a=b)):=by
 obtain⟨a0,a1,a2,⟨⟩⟩:=a;obtain⟨b0,b1,b2,⟨⟩⟩:=b;have h:Fa υ 16 56 (.agg ⟨e3 (a0,a1,a2,())⟩) (.agg ⟨e3 (b0,b1,b2,())⟩)=some ((a0==b0) && ((a1==b1) && ((a2==b2) && true))):=by kernel_rfl
 rw[h];simp[aeD,decide_and]
theorem aiJ (a:T16):ny υ 26 (.agg ⟨e16 a⟩)=true:=by unfold ny;rw[aiC];rfl
theorem agd (a:T4):ny υ 54 (.agg ⟨e4 a⟩)=true:=by unfold ny;rw[eq4];rfl
theorem acy (a:T3):ny υ 56 (.agg ⟨e3 a⟩)=true:=by unfold ny;rw[eq3];rfl
theorem eq1 (a b:Int):Fa υ 16 3 (Β a) (Β b)=some (decide (a=b)):=eqP a b
theorem key1 (a:Int):ny υ 3 (Β a)=true:=agh a
theorem Yj {α:Type} [DecidableEq α] {sh:List Shape} {kt T:TypeId} {f:α->yu sh} {enc:α->Value} (eqE:∀a b,Fa υ 16 kt (enc a) (enc b)=some (decide (a=b))) (keyE:∀a,ny υ kt (enc a)=true) {w:θ} {v:Value} {C:b_} {ys:List α} (hv:oP υ sh v C (ys.map f)) (hC:∀W,Ext w W->C W)
  {body:Addr->Addr->Nat->yu sh->θ->(Exit->b_)->Prop} {K:Bool->b_} (hK:∀r w',(r=true↔¬ys.Nodup)->Ext w w'->K r w')
  (hb:∀(a b m l:Nat) (y:α) (W:θ) (Kb:Exit->b_),Row W b [.map (some m)]->l<W.heap.size->b≠l->(∀W',Ext W W'->qG υ kt .bool (some m) (enc y) (.bool false) (gG W' l) λx=>bif x then St (gG W' l) ⟨a,0,none⟩ (.bool true) λw=>Kb .ret w else og υ kt (some m) (enc y) (.bool true) (gG W' l) λw=>Kb .normal w)->body ⟨a,0,none⟩ ⟨b,0,none⟩ l (f y) W Kb):
  Al w (.cells ⟨[.bool false]⟩ 4) λa3 w2=>Al w2 (.map #[] 0) λ _ w4=>Al w4 (.cells ⟨[.map none]⟩ T) λa7 w6=>St w6 a7 (.map (some w2.heap.size)) λw8=>yI υ none sh v w8 (body a3 a7)
   (λR=>St R a3 (.bool false) λI=>I.heap[w8.heap.size]? =some (.deferred (some []))/\Ld .bool (I.putObj w8.heap.size (.deferred none)) a3 λU=>K U (I.putObj w8.heap.size (.deferred none)))
   (λJ=>J.heap[w8.heap.size]? =some (.deferred (some []))/\Ld .bool (J.putObj w8.heap.size (.deferred none)) a3 λY=>K Y (J.putObj w8.heap.size (.deferred none))) []:=by
 refine gq λa w1 ra ea z1 f1=>ahd λw2 m2 z2 f2=>gq λb w3 rb eb z3 f3=> ?_;refine g_ rb rfl (by simp) λw4 rb f4 z4=> ?_;simp only[List.set_cons_zero] at rb;have ra4:=((ra.ext f2).ext f3).fr (f4 (·=b) rfl) (by omega);have m4:=((m2 _ enc).ext f3).fr (f4 (·=b) rfl) (by omega);have x4:Ext w w4:=((f1.trans f2).trans f3).new (f4 (·=b) rfl) λx hx e=>by omega
 clear f4;generalize hm:w1.heap.size=m at *;have lq:lC none w4=w4.heap.size+1:=rfl;refine wz hv (λi W=>Row W a [.bool false]/\Row W b [.map (some m)]/\xO enc W m (ys.take i)/\(ys.take i).Nodup/\Ext w W)
  (λe W=>e= .ret/\Row W a [.bool true]/\¬ys.Nodup/\Ext w W) (by simp) (λW hx _=>⟨ra4.ext hx,rb.ext hx,m4.ext hx,by simp,x4.trans hx⟩) (λi W h=>hC W h.2.2.2.2) ?_ ?_ (λe W hJ=> .inl hJ.1) ?_ ?_ ?_ (λid W h=>by cases h.1)
 ·rintro i W W' ⟨h1,h2,h3,h4,h5⟩ hf;rw[lq] at hf;exact⟨h1.fr hf (by omega),h2.fr hf (by omega),h3.fr hf (by omega),h4,h5.new hf λx hx e=>by omega⟩
 ·rintro e W W' ⟨h1,h2,h3,h4⟩ hf;rw[lq] at hf;exact⟨h1,h2.fr hf (by omega),h3,h4.new hf λx hx e=>by omega⟩
 ·rintro i y W Kb hx ⟨h1,h2,h3,h4,h5⟩ N hn hj;obtain⟨y',hy',rfl⟩:=Option.map_eq_some_iff.1 (by rw[getElem?_map] at hx;exact hx);have O:=Gp.Cfg.take_snoc hy';rw[lq] at N hn hj ⊢;refine hb a b m _ y' W Kb h2 N (by omega) λW' hW'=> ?_;have fb:gW W' (gG W' (w4.heap.size+1)) (·=w4.heap.size+1):=gW.gG W' _;have fc:∀S:Nat->Prop,gW (gG W (w4.heap.size+1)) (gG W' (w4.heap.size+1)) S:=λS=>Ip (hW' S) _;generalize gG W' (w4.heap.size+1)=W3 at fb fc ⊢;have k1:=(h1.ext hW').fr fb (by omega);have k2:=(h2.ext hW').fr fb (by omega);have k3:=(h3.ext hW').fr fb (by omega);have k5:Ext w W3:=(h5.trans hW').new fb λx hx e=>by omega
  refine adt k3 eqE y' (keyE _) ?_;by_cases u:y'∈ys.take i
  ·simp only[u,decide_true,cond_true];refine g_ k1 rfl (by simp) λW4 q1 g1 z4=> ?_;simp only[List.set_cons_zero] at q1;refine hj .ret W4 (·=a) ((fc _).trans (g1 (·=a) rfl) λ_ _ e=>e) (λx hx1 hx2 e=>by omega) ⟨rfl,q1,λZ=>Gp.Cfg.Sr.1 Z i _ hy' u,k5.new (g1 (·=a) rfl) λx hx e=>by omega⟩
  ·simp only[u,decide_false,cond_false];refine adu k3 eqE _ (keyE _) u λW4 q3 g3 z4=> ?_;refine hn W4 (·=m) ((fc _).trans g3 λ_ _ e=>e) (λx hx1 hx2 e=>by omega) ⟨k1.fr g3 (by omega),k2.fr g3 (by omega),?_,?_,k5.new g3 λx hx e=>by omega⟩
   ·rw[O];exact q3
   ·rw[O,Gp.Cfg.aas];exact⟨h4,u⟩
 ·rintro W ⟨h1,h2,h3,h4,h5⟩ hm';have hm':=hm' rfl;rw[take_of_length_le (by simp)] at h4;refine g_ h1 rfl (by simp) λW4 q1 g1 z4=> ?_;simp only[List.set_cons_zero] at q1;have z5:=x4.size;refine⟨by rw[<- hm'];exact(g1 (·=a) rfl).same _ (by have:=(Array.getElem?_eq_some_iff.1 hm').1;omega) (by omega),Ld_b 0 false (q1.fr (gW.qV W4 w4.heap.size (.deferred none)) (by omega)) ?_⟩;exact hK _ _ (by simp[h4]) ((h5.new (g1 (·=a) rfl) λx hx e=>by omega).new (gW.qV W4 w4.heap.size (.deferred none)) λx hx e=>by omega)
 ·rintro W ⟨_,h1,h2,h3⟩ hm';have z5:=x4.size;refine⟨hm' rfl,Ld_b 0 true (h1.fr (gW.qV W w4.heap.size (.deferred none)) (by omega)) ?_⟩;exact hK _ _ (by simp[h2]) (h3.new (gW.qV W w4.heap.size (.deferred none)) λx hx e=>by omega)
theorem ah6 {w:θ} {v:Value} {C:b_} {ys:List Int} (hv:oP υ [.one ν] v C (ys.map λy=>(y,()))) (hC:∀W,Ext w W->C W):
  uz v w λr w'=>(r=true↔¬ys.Nodup)/\Ext w w':=by
 apply Jj;refine Yj (K:=λr w'=>(r=true↔¬ys.Nodup)/\Ext w w') eq1 key1 hv hC (λ_ _ h1 h2=>⟨h1,h2⟩) λa b m l y W Kb hr hl u h=>⟨rfl,?_⟩;simp only[sx,(hr.fr (gW.gG W l) u).cell];exact h W (Ext.refl W)
theorem agT {w:θ} {v:Value} {C:b_} {ys:List T16} (hv:oP υ [.agg K16] v C (ys.map λy=>(y,()))) (hC:∀W,Ext w W->C W):
  oW v w λr w'=>(r=true↔¬ys.Nodup)/\Ext w w':=by
 apply DI;refine Yj (K:=λr w'=>(r=true↔¬ys.Nodup)/\Ext w w') aiC aiJ hv hC (λ_ _ h1 h2=>⟨h1,h2⟩) λa b m l y W Kb hr hl u h=> ?_;obtain⟨y0,y1,y2,y3,y4,y5,y6,y7,y8,y9,y10,y11,y12,y13,y14,y15,⟨⟩⟩:=y;refine gq λt w1 r1 e1 z1 f1=>gY r1 rfl rfl λw2 r2 f2' z2=> ?_;have f2:Ext W w2:=f1.new (f2' (·=t) rfl) λx hx e=>by omega
 have hl2:=f2.size;refine⟨(f2 λ_=>False).same _ hl (by simp),?_⟩;simp only[sx,((hr.ext f2).fr (gW.gG w2 l) u).cell,(r2.fr (gW.gG w2 l) (by omega)).cell];exact h w2 f2
theorem ah8 {w:θ} {v:Value} {C:b_} {ys:List T4} (hv:oP υ [.agg K4] v C (ys.map λy=>(y,()))) (hC:∀W,Ext w W->C W):
  nJ v w λr w'=>(r=true↔¬ys.Nodup)/\Ext w w':=by
 apply AU;refine Yj (K:=λr w'=>(r=true↔¬ys.Nodup)/\Ext w w') eq4 agd hv hC (λ_ _ h1 h2=>⟨h1,h2⟩) λa b m l y W Kb hr hl u h=> ?_;obtain⟨y0,y1,y2,y3,⟨⟩⟩:=y;refine gq λt w1 r1 e1 z1 f1=>gY r1 rfl rfl λw2 r2 f2' z2=> ?_;have f2:Ext W w2:=f1.new (f2' (·=t) rfl) λx hx e=>by omega
 have hl2:=f2.size;refine⟨(f2 λ_=>False).same _ hl (by simp),?_⟩;simp only[sx,((hr.ext f2).fr (gW.gG w2 l) u).cell,(r2.fr (gW.gG w2 l) (by omega)).cell];exact h w2 f2
theorem ah7 {w:θ} {v:Value} {C:b_} {ys:List T3} (hv:oP υ [.agg K3] v C (ys.map λy=>(y,()))) (hC:∀W,Ext w W->C W):
  nK v w λr w'=>(r=true↔¬ys.Nodup)/\Ext w w':=by
 apply AV;refine Yj (K:=λr w'=>(r=true↔¬ys.Nodup)/\Ext w w') eq3 acy hv hC (λ_ _ h1 h2=>⟨h1,h2⟩) λa b m l y W Kb hr hl u h=> ?_;obtain⟨y0,y1,y2,⟨⟩⟩:=y;refine gq λt w1 r1 e1 z1 f1=>gY r1 rfl rfl λw2 r2 f2' z2=> ?_;have f2:Ext W w2:=f1.new (f2' (·=t) rfl) λx hx e=>by omega
 have hl2:=f2.size;refine⟨(f2 λ_=>False).same _ hl (by simp),?_⟩;simp only[sx,((hr.ext f2).fr (gW.gG w2 l) u).cell,(r2.fr (gW.gG w2 l) (by omega)).cell];exact h w2 f2
end Go.Proofs.CN
namespace Go.Proofs.CN
open Gp
def aiu:T16->Bool
 |(x0,x1,x2,x3,x4,x5,x6,x7,x8,x9,x10,x11,x12,x13,x14,x15,())=>((x0==0) && ((x1==0) && ((x2==0) && ((x3==0) && ((x4==0) && ((x5==0) && ((x6==0) && ((x7==0) && ((x8==0) && ((x9==0) && ((x10==0) && ((x11==0) && ((x12==0) && ((x13==0) && ((x14==0) && ((x15==0) && true))))))))))))))))
def xX (x:T16):Bool:= !(aiu x) && (x.1 !=255)
theorem PS {p0 p1 p2 p3 p4 p5 p6 p7 p8 p9 p10 p11 p12 p13 p14 p15:Int} (w:θ):Ew p0 p1 p2 p3 p4 p5 p6 p7 p8 p9 p10 p11 p12 p13 p14 p15 w λr w'=>r=xX (p0,p1,p2,p3,p4,p5,p6,p7,p8,p9,p10,p11,p12,p13,p14,p15,())/\Ext w w':=by
 apply ZA;refine gq λa w1 ra ea z1 f1=>gq λb w2 rb eb z2 f2=> ?_;have ra:=ra.ext f2;simp only[sx,ra.cell,rb.cell];have he:∀c:Bool,c=aiu (p0,p1,p2,p3,p4,p5,p6,p7,p8,p9,p10,p11,p12,p13,p14,p15,())->((bif !c then (0:Int)<=0/\(0:Int)<16/\((p0 !=255)=xX (p0,p1,p2,p3,p4,p5,p6,p7,p8,p9,p10,p11,p12,p13,p14,p15,())/\Ext w w2) else (false=xX (p0,p1,p2,p3,p4,p5,p6,p7,p8,p9,p10,p11,p12,p13,p14,p15,())/\Ext w w2))):=by
  intro c hc;unfold xX;rw[<- hc]
  cases c
  ·exact⟨by omega,by omega,by simp,f1.trans f2⟩
  ·exact⟨by simp,f1.trans f2⟩
 exact he _ rfl
def NH (n:Nat) (pl:List Int):T7->Prop
 |(q0,q1,q2,q3,q4,q5,q6,())=>((0<=q3/\q3<=65535)/\(0<=q6/\q6<=65535))/\(rZ q2/\q5∈pl)/\((q1=1\/q1=6\/q1=17)/\q1=q4)/\(0<=q0/\q0<=(n:Int) - 1)
instance (n:Nat) (pl:List Int) (x:T7):Decidable (NH n pl x):=by
 obtain⟨q0,q1,q2,q3,q4,q5,q6,⟨⟩⟩:=x;exact inferInstanceAs (Decidable (_/\_/\_/\_))
theorem QB {w:θ} {p0 p1 p2 p3 p4 p5 p6 p7 p8 p9 p10 p11 p12 p13 p14 p15:Int} {sw po:fU} {J N O R U Y Z aa ac af ag ah ai aj ak am an:Int} {st:fU} {q0 q1 q2 q3 q4 q5 q6:Int} {pl:List Int} (hsl:sw.len<=2^62) (ao:mQ 1 eI w po pl) (aq:po.len<=2^62):
  BR p0 p1 p2 p3 p4 p5 p6 p7 p8 p9 p10 p11 p12 p13 p14 p15 sw po J N O R U Y Z aa ac af ag ah ai aj ak am an st q0 q1 q2 q3 q4 q5 q6 w λr w'=>r=decide (NH sw.len pl (q0,q1,q2,q3,q4,q5,q6,()))/\Ext w w':=by
 apply SV;refine gq λa w1 ra ea z1 f1=>gq λb w2 rb eb z2 f2=> ?_;have ra:=ra.ext f2;have x2:=f1.trans f2;clear f1 f2;simp -zeta only[sx,rb.cell];intro J7;have hJ7:∀c1 W,Ext w2 W->c1=decide ((0<=q3/\q3<=65535)/\(0<=q6/\q6<=65535))->J7 c1 W:=by
  intro c1 W hx h1;have ra:=ra.ext hx;have rb:=rb.ext hx;simp -zeta only[J7];intro u;have hJ10:∀c2 W',Ext W W'->c2=decide (rZ q2/\q5∈pl)->u c2 W':=by
   intro c2 W' hx' h2;have ra:=ra.ext hx';have rb:=rb.ext hx';simp -zeta only[u];intro I;have hJ13:∀c3 W'',Ext W' W''->c3=decide ((q1=1\/q1=6\/q1=17)/\q1=q4)->I c3 W'':=by
    intro c3 W'' hx'' h3;have ra:=ra.ext hx'';have rb:=rb.ext hx'';simp only[I,d_,f_,gQ,gJ,ra.cell,rb.cell];have xx:=((x2.trans hx).trans hx').trans hx'';have fin:∀c4:Bool,c4=(decide ((0<=q3/\q3<=65535)/\(0<=q6/\q6<=65535)) && (decide (rZ q2/\q5∈pl) && (decide ((q1=1\/q1=6\/q1=17)/\q1=q4) && decide (0<=q0/\q0<=(sw.len:Int) - 1))))->c4=decide (NH sw.len pl (q0,q1,q2,q3,q4,q5,q6,())):=by
     intro c4 h;rw[h,<- decide_and,<- decide_and,<- decide_and];rfl
    rw[<- h1,<- h2,<- h3] at fin
    cases c1
    ·exact⟨fin _ (by simp),xx⟩
    ·cases c2
     ·exact⟨fin _ (by simp),xx⟩
     ·cases c3
      ·exact⟨fin _ (by simp),xx⟩
      ·simp only[cond_true];rw[Α];refine cmS0 (xQ _ _ _ _) ?_;rintro _ w' ⟨rfl,hf⟩;exact⟨fin _ (by simp),xx.trans hf⟩
   simp -zeta only[d_,f_,gJ,rb.cell];refine cmS0 (aaF _ _) ?_;rintro _ w' ⟨rfl,hf⟩;have rb:=rb.ext hf;by_cases hp:(q1=1\/q1=6\/q1=17)
   ·simp -zeta only[hp,decide_true,cond_true,cond_true,d_,f_,gJ,rb.cell];exact hJ13 _ _ hf (by rw[aeD,decide_eq_decide];exact⟨λh=>⟨hp,h⟩,λh=>h.2⟩)
   ·simp -zeta only[hp,decide_false,cond_false];exact hJ13 _ _ hf (decide_eq_false λh=>hp h.1).symm
  simp -zeta only[d_,f_,gJ,rb.cell];refine cmS0 (yY _ _) ?_;rintro _ w' ⟨rfl,hf⟩;have rb:=rb.ext hf;have ra:=ra.ext hf;by_cases hp:rZ q2
  ·simp -zeta only[hp,decide_true,cond_true,cond_true,d_,f_,gQ,gJ,rb.cell,ra.cell];refine cmS0 (Bq (((ao.ext x2).ext hx).ext hf) aq _) ?_;rintro _ w'' ⟨rfl,hw⟩;subst hw;exact hJ10 _ _ hf (by simp[hp])
  ·simp -zeta only[hp,decide_false,cond_false];exact hJ10 _ _ hf (by simp[hp])
 refine cmS0 (xQ _ _ _ _) ?_;rintro _ w' ⟨rfl,hf⟩;have rb:=rb.ext hf;by_cases hp:(0<=q3/\q3<=65535)
 ·simp -zeta only[hp,and_self,decide_true,cond_true,cond_true,d_,f_,gJ,rb.cell];refine cmS0 (xQ _ _ _ _) ?_;rintro _ w'' ⟨rfl,hf'⟩;exact hJ7 _ _ (hf.trans hf') (by simp[hp])
 ·simp -zeta only[hp,decide_false,cond_false];exact hJ7 _ _ hf (by simp[hp])
theorem aeJ {p0 p1 p2 p3 p4 p5 p6 p7 p8 p9 p10 p11 p12 p13 p14 p15:Int} (w:θ):uT p0 p1 p2 p3 p4 p5 p6 p7 p8 p9 p10 p11 p12 p13 p14 p15 w λr0 r1 r2 r3 r4 r5 r6 r7 r8 r9 u I J N O R w'=>((r0,r1,r2,r3,r4,r5,r6,r7,r8,r9,u,I,J,N,O,R,()):T16)=(p0,p1,p2,p3,p4,p5,p6,p7,p8,p9,p10,p11,p12,p13,p14,p15,())/\Ext w w':=by
 apply CS;refine gq λa w1 ra ea z1 f1=>gq λb w2 rb eb z2 f2=> ?_;have ra:=ra.ext f2;simp only[sx,ra.cell];refine gY rb rfl rfl λw3 r3 f3 z3=> ?_;simp only[d_,f_,gJ,r3.cell];exact⟨by trivial,(f1.trans f2).new (f3 (·=b) rfl) λx hx e=>by omega⟩
def KI:T7->T4|(q0,q1,q2,q3,_,_,_,())=>(q0,q1,q2,q3,())
def TJ:T7->T3|(_,_,_,_,q4,q5,q6,())=>(q4,q5,q6,())
theorem aeG {q0 q1 q2 q3 q4 q5 q6:Int} (w:θ):zN q0 q1 q2 q3 q4 q5 q6 w λr0 r1 r2 r3 w'=>(r0=q0/\r1=q1/\r2=q2/\r3=q3)/\Ext w w':=by
 apply Jg;refine gq λa w1 ra ea z1 f1=>gq λb w2 rb eb z2 f2=> ?_;have ra:=ra.ext f2;simp only[sx,ra.cell];refine gY rb rfl rfl λw3 r3 f3 z3=> ?_;simp only[d_,f_,gJ,r3.cell,and_self,true_and];exact(f1.trans f2).new (f3 (·=b) rfl) λx hx e=>by omega
theorem aeY {q0 q1 q2 q3 q4 q5 q6:Int} (w:θ):zO q0 q1 q2 q3 q4 q5 q6 w λr0 r1 r2 w'=>(r0=q4/\r1=q5/\r2=q6)/\Ext w w':=by
 apply Jh;refine gq λa w1 ra ea z1 f1=>gq λb w2 rb eb z2 f2=> ?_;have ra:=ra.ext f2;simp only[sx,ra.cell];refine gY rb rfl rfl λw3 r3 f3 z3=> ?_;simp only[d_,f_,gJ,r3.cell,and_self,true_and];exact(f1.trans f2).new (f3 (·=b) rfl) λx hx e=>by omega
theorem kV {f:FuncId} {cap:Array Value} {sh:List Shape} {args:List Value} {w:θ} {K:Value->b_} (hb:ni υ f=true) (h:FV υ sh f (args++cap.toList) w K):
  jy υ sh (.func (.func f) #[] cap) args w K:=by
 unfold jy;simp only[hb,cond_true];exact h
theorem ϳ:Ug (.func (.func Jb) #[] #[]) (λx:Int=>Β x) [.one ν] (λ_=>True) (λx=>Β x):=by
 intro x W K _ hK;refine kV (by kernel_rfl) ?_;refine Calls.mono (G7 (a0:=x) (w:=W) (K:=λr W'=>r=x/\Ext W W') ?_) ?_
 ·exact⟨rfl,Ext.refl _⟩
 ·rintro e W' ⟨r,he,rfl,hf⟩;exact⟨r,he,hK W' hf⟩
theorem Y6:Ug (.func (.func DC) #[] #[]) (λx:T16=>Value.agg ⟨e16 x⟩) [.agg K16] (λ_=>True) (λx:T16=>Value.agg ⟨e16 x⟩):=by
 intro x W K _ hK;obtain⟨p0,p1,p2,p3,p4,p5,p6,p7,p8,p9,p10,p11,p12,p13,p14,p15,⟨⟩⟩:=x;refine kV (by kernel_rfl) ?_;refine Calls.mono (aeJ W) ?_;rintro e W' ⟨r0,r1,r2,r3,r4,r5,r6,r7,r8,r9,u,I,J,N,O,R,he,h,hf⟩;refine⟨r0,r1,r2,r3,r4,r5,r6,r7,r8,r9,u,I,J,N,O,R,he,?_⟩;have hK:=hK W' hf;rw[<- h] at hK;exact hK
theorem aen:Ug (.func (.func KL) #[] #[]) (λx:T7=>Value.agg ⟨e7 x⟩) [.agg K4] (λ_=>True) (λx:T7=>Value.agg ⟨e4 (KI x)⟩):=by
 intro x W K _ hK;obtain⟨q0,q1,q2,q3,q4,q5,q6,⟨⟩⟩:=x;refine kV (by kernel_rfl) ?_;refine Calls.mono (aeG W) ?_;rintro e W' ⟨r0,r1,r2,r3,he,⟨rfl,rfl,rfl,rfl⟩,hf⟩;exact⟨r0,r1,r2,r3,he,hK W' hf⟩
theorem aeo:Ug (.func (.func KN) #[] #[]) (λx:T7=>Value.agg ⟨e7 x⟩) [.agg K3] (λ_=>True) (λx:T7=>Value.agg ⟨e3 (TJ x)⟩):=by
 intro x W K _ hK;obtain⟨q0,q1,q2,q3,q4,q5,q6,⟨⟩⟩:=x;refine kV (by kernel_rfl) ?_;refine Calls.mono (aeY W) ?_;rintro e W' ⟨r0,r1,r2,he,⟨rfl,rfl,rfl⟩,hf⟩;exact⟨r0,r1,r2,he,hK W' hf⟩
theorem ϲ:Ug (.func (.func Oy) #[] #[]) (λx:T16=>Value.agg ⟨e16 x⟩) [.one .bool] (λ_=>True) (λx:T16=> .bool (!xX x)):=by
 intro x W K _ hK;obtain⟨p0,p1,p2,p3,p4,p5,p6,p7,p8,p9,p10,p11,p12,p13,p14,p15,⟨⟩⟩:=x;refine kV (by kernel_rfl) ?_;refine Calls.mono (MR (w:=W) (K:=λr W'=>r= !xX (p0,p1,p2,p3,p4,p5,p6,p7,p8,p9,p10,p11,p12,p13,p14,p15,())/\Ext W W') ?_) ?_
 ·refine gq λa w1 ra ea z1 f1=> ?_;simp only[sx,ra.cell];refine cmS0 (PS w1) ?_;rintro _ w' ⟨rfl,hf⟩;exact⟨rfl,f1.trans hf⟩
 ·rintro e W' ⟨r,he,rfl,hf⟩;exact⟨_,he,hK W' hf⟩
theorem Y7:Ug (.func (.func Oz) #[] #[]) (λx:Int=>Β x) [.one .bool] (λ_=>True) (λx:Int=> .bool (!decide (rZ x))):=by
 intro x W K _ hK;refine kV (by kernel_rfl) ?_;refine Calls.mono (MS (a0:=x) (w:=W) (K:=λr W'=>r= !decide (rZ x)/\Ext W W') ?_) ?_
 ·refine cmS0 (yY x W) ?_;rintro _ w' ⟨rfl,hf⟩;exact⟨rfl,hf⟩
 ·rintro e W' ⟨r,he,rfl,hf⟩;exact⟨_,he,hK W' hf⟩
theorem aer {f0:Nat} {p0 p1 p2 p3 p4 p5 p6 p7 p8 p9 p10 p11 p12 p13 p14 p15:Int} {sw po:fU} {u I J N O R U Y Z aa ac af ag ah ai aj ak:Int} {st:fU} {pl:List Int} (am:sw.len<=2^62) (an:po.len<=2^62):
  Ug (.func (.func OA) #[] #[.pointer (some ⟨f0,0,none⟩)]) (λx:T7=>Value.agg ⟨e7 x⟩) [.one .bool]
   (λW=>Row W f0 (.int .u8 p0:: .int .u8 p1:: .int .u8 p2:: .int .u8 p3:: .int .u8 p4:: .int .u8 p5:: .int .u8 p6:: .int .u8 p7:: .int .u8 p8:: .int .u8 p9:: .int .u8 p10:: .int .u8 p11:: .int .u8 p12:: .int .u8 p13:: .int .u8 p14:: .int .u8 p15:: Δ sw:: Δ po:: Β u:: Β I:: Β J:: Β N:: Β O:: Β R:: Β U:: Β Y:: Β Z:: Β aa:: Β ac:: Β af:: Β ag:: Β ah:: Β ai:: Β aj:: Β ak:: Δ st::[])/\mQ 1 eI W po pl) (λx:T7=> .bool (!decide (NH sw.len pl x))):=by
 rintro x W K ⟨hr,ao⟩ hK;obtain⟨q0,q1,q2,q3,q4,q5,q6,⟨⟩⟩:=x;refine kV (by kernel_rfl) ?_;refine Calls.mono (MV (f0:=⟨f0,0,none⟩) (w:=W) (K:=λr W'=>r= !decide (NH sw.len pl (q0,q1,q2,q3,q4,q5,q6,()))/\Ext W W') ?_) ?_
 ·refine gq λa w1 ra ea z1 f1=> ?_;have hr:=hr.ext f1;simp only[sx,ra.cell,hr.cell];refine cmS0 (QB am (ao.ext f1) an) ?_;rintro _ w' ⟨rfl,hf⟩;exact⟨rfl,f1.trans hf⟩
 ·rintro e W' ⟨r,he,rfl,hf⟩;exact⟨_,he,hK W' hf⟩
theorem afX {f0:Nat} {p0 p1 p2 p3 p4 p5 p6 p7 p8 p9 p10 p11 p12 p13 p14 p15:Int} {sw po:fU} {I J u N O R U Y Z aa ac af ag ah ai aj ak:Int} {st:fU}:
  Ug (.func (.func KO) #[] #[.pointer (some ⟨f0,0,none⟩)]) (λx:Int=>Β x) [.one .bool]
   (λW=>Row W f0 (.int .u8 p0:: .int .u8 p1:: .int .u8 p2:: .int .u8 p3:: .int .u8 p4:: .int .u8 p5:: .int .u8 p6:: .int .u8 p7:: .int .u8 p8:: .int .u8 p9:: .int .u8 p10:: .int .u8 p11:: .int .u8 p12:: .int .u8 p13:: .int .u8 p14:: .int .u8 p15:: Δ sw:: Δ po:: Β I:: Β J:: Β u:: Β N:: Β O:: Β R:: Β U:: Β Y:: Β Z:: Β aa:: Β ac:: Β af:: Β ag:: Β ah:: Β ai:: Β aj:: Β ak:: Δ st::[])) (λx:Int=> .bool (decide (x>u))):=by
 rintro x W K hr hK;refine kV (by kernel_rfl) ?_;refine Calls.mono (Ji (a0:=x) (f0:=⟨f0,0,none⟩) (w:=W) (K:=λr W'=>r=decide (x>u)/\Ext W W') ?_) ?_
 ·simp only[sx,hr.cell];exact⟨by trivial,Ext.refl _⟩
 ·rintro e W' ⟨r,he,rfl,hf⟩;exact⟨_,he,hK W' hf⟩
end Go.Proofs.CN
namespace Go.Proofs.CN
open Gp
theorem Qy {α β:Type} {xs:List α} {k:α->β} {i:Nat} {x:α} (h:xs[i]? =some x):(((xs.map k).map λy=>(y,())):List (β×Unit))[i]? =some (k x,()):=by
 rw[getElem?_map,getElem?_map,h];rfl
theorem Me {f0 f1:Nat} {s:fU} {xs:List Int} {fv:Value} {k:Int->Int} (hl:s.len<=2^62) (hk:Ug fv (λx:Int=>Β x) [.one ν] (λ_=>True) (λx=>(λx:Int=>Β x) (k x))):
  oP υ [.one ν] (Value.func (.func Dz) #[] #[.pointer (some ⟨f0,0,none⟩),.pointer (some ⟨f1,0,none⟩)]) (λW=>Row W f0 [Δ s]/\Row W f1 [fv]/\mQ 1 eI W s xs) ((xs.map k).map λy=>(y,())):=by
 refine⟨by kernel_rfl,λl Q D hC hQ hD hy w h0=> ?_⟩;refine Calls.mono (CQ (a0:= .func (.yield l) #[] #[]) (f0:=⟨f0,0,none⟩) (f1:=⟨f1,0,none⟩) (K:=λw'=>Q (((xs.map k).map λy=>(y,())):List (Int×Unit)).length w'\/D w') ?_) (λe w' h=>h);obtain⟨r0,r1,hs⟩:=hC _ _ h0;simp only[sx,r0.cell];refine gX (λst W=>∃j:Nat,j<=xs.length/\st.1=(j:Int)/\Q j W) (λst _=>(s.len - st.1).toNat) ⟨0,by omega,rfl,h0⟩ ?_;rintro⟨i,⟨⟩⟩ W ⟨j,hj,hi,hq⟩ next u
 simp only at hi;subst hi;obtain⟨r0,r1,hs⟩:=hC _ _ hq;have hlen:=hs.len;by_cases J:(j:Int)<(s.len:Int)
 ·simp only[J,decide_true,cond_true];have hx:=getElem?_eq_getElem (show j<xs.length by omega);generalize xs[j]=x at hx;have N:=Qy (k:=k) hx;refine SlN_ix jX (by omega) hs (by omega) (by rw[toNat_natCast];exact hx) λa hc=> ?_;have I:=hk x;dsimp only at I;generalize k x=y at I N;obtain x:=x;have c0:W.cell? (a.add 0)=some (Β x):=hc 0 _ rfl;rw[show a.add 0=a from rfl] at c0;simp only[List.getElem?_cons_zero,f_,gJ,Iy,c0,r1.cell];obtain⟨W1,hW1⟩:∃W1,W1=W:=⟨W,rfl⟩;subst hW1;have hq1:=hq;refine I W1 _ trivial λW2 hf2=> ?_;have hq2:=hQ _ _ _ hq1 hf2;obtain y:=y;refine⟨y,rfl,?_⟩;refine kR (hy j _ W2 _ N hq2 ?_ ?_)
  ·intro W' hq';refine⟨true,rfl,?_⟩;simp only[Bool.not_true,cond_false];rw[Α];exact u _ _ ⟨j+1,by omega,by simp,hq'⟩ (by simp only;omega)
  ·intro W' hd;exact⟨false,rfl,by simp only[Bool.not_false,cond_true];exact .inr hd⟩
 ·simp only[J,decide_false,cond_false];have:j=xs.length:=by omega
  subst this;exact .inl (by simpa using hq)
theorem WX {w:θ} {s:fU} {xs:List Int} {fv:Value} {k:Int->Int} (hs:mQ 1 eI w s xs) (hl:s.len<=2^62) (ho:iL fv=true) (hk:Ug fv (λx:Int=>Β x) [.one ν] (λ_=>True) (λx=>(λx:Int=>Β x) (k x))):
  qc s fv w λv w'=>Ext w w'/\∃C,oP υ [.one ν] v C ((xs.map k).map λy=>(y,()))/\∀W,Ext w' W->C W:=by
 apply EL;refine⟨rfl,gq λa w1 ra ea z1 f1=>⟨ho,gq λb w2 rb eb z2 f2=> ?_⟩⟩;exact⟨f1.trans f2,_,Me hl hk,λW hW=>⟨(ra.ext f2).ext hW,rb.ext hW,((hs.ext f1).ext f2).ext hW⟩⟩
theorem AQ {f0 f1:Nat} {s:fU} {xs:List T16} {fv:Value} {k:T16->T16} (hl:s.len<=2^62) (hk:Ug fv (λx:T16=>Value.agg ⟨e16 x⟩) [.agg K16] (λ_=>True) (λx=>(λx:T16=>Value.agg ⟨e16 x⟩) (k x))):
  oP υ [.agg K16] (Value.func (.func wG) #[] #[.pointer (some ⟨f0,0,none⟩),.pointer (some ⟨f1,0,none⟩)]) (λW=>Row W f0 [Δ s]/\Row W f1 [fv]/\mQ 16 e16 W s xs) ((xs.map k).map λy=>(y,())):=by
 refine⟨by kernel_rfl,λl Q D hC hQ hD hy w h0=> ?_⟩;refine Calls.mono (wo (a0:= .func (.yield l) #[] #[]) (f0:=⟨f0,0,none⟩) (f1:=⟨f1,0,none⟩) (K:=λw'=>Q (((xs.map k).map λy=>(y,())):List (T16×Unit)).length w'\/D w') ?_) (λe w' h=>h);obtain⟨r0,r1,hs⟩:=hC _ _ h0;simp only[sx,r0.cell];refine gX (λst W=>∃j:Nat,j<=xs.length/\st.1=(j:Int)/\Q j W) (λst _=>(s.len - st.1).toNat) ⟨0,by omega,rfl,h0⟩ ?_;rintro⟨i,⟨⟩⟩ W ⟨j,hj,hi,hq⟩ next u
 simp only at hi;subst hi;obtain⟨r0,r1,hs⟩:=hC _ _ hq;have hlen:=hs.len;by_cases J:(j:Int)<(s.len:Int)
 ·simp only[J,decide_true,cond_true];have hx:=getElem?_eq_getElem (show j<xs.length by omega);generalize xs[j]=x at hx;have N:=Qy (k:=k) hx;refine SlN_ix e16_len (by omega) hs (by omega) (by rw[toNat_natCast];exact hx) λa hc=> ?_;have I:=hk x;dsimp only at I;generalize k x=y at I N;obtain⟨x0,x1,x2,x3,x4,x5,x6,x7,x8,x9,O,R,U,Y,Z,aa,⟨⟩⟩:=x;have c0:W.cell? (a.add 0)=some (.int .u8 x0):=hc 0 _ rfl;have c1:W.cell? (a.add 1)=some (.int .u8 x1):=hc 1 _ rfl;have c2:W.cell? (a.add 2)=some (.int .u8 x2):=hc 2 _ rfl;have c3:W.cell? (a.add 3)=some (.int .u8 x3):=hc 3 _ rfl;have c4:W.cell? (a.add 4)=some (.int .u8 x4):=hc 4 _ rfl;have c5:W.cell? (a.add 5)=some (.int .u8 x5):=hc 5 _ rfl;have c6:W.cell? (a.add 6)=some (.int .u8 x6):=hc 6 _ rfl;have c7:W.cell? (a.add 7)=some (.int .u8 x7):=hc 7 _ rfl;have c8:W.cell? (a.add 8)=some (.int .u8 x8):=hc 8 _ rfl;have c9:W.cell? (a.add 9)=some (.int .u8 x9):=hc 9 _ rfl;have ac:W.cell? (a.add 10)=some (.int .u8 O):=hc 10 _ rfl;have af:W.cell? (a.add 11)=some (.int .u8 R):=hc 11 _ rfl;have ag:W.cell? (a.add 12)=some (.int .u8 U):=hc 12 _ rfl;have ah:W.cell? (a.add 13)=some (.int .u8 Y):=hc 13 _ rfl;have ai:W.cell? (a.add 14)=some (.int .u8 Z):=hc 14 _ rfl;have aj:W.cell? (a.add 15)=some (.int .u8 aa):=hc 15 _ rfl;simp only[f_,gJ,c0,c1,c2,c3,c4,c5,c6,c7,c8,c9,ac,af,ag,ah,ai,aj];refine DX rfl rfl λt W1 rt et zt ft=> ?_;have r1:=r1.ext ft;have hq1:=hQ _ _ _ hq ft;simp only[sx,r1.cell,rt.cell];refine I W1 _ trivial λW2 hf2=> ?_;have hq2:=hQ _ _ _ hq1 hf2;obtain⟨y0,y1,y2,y3,y4,y5,y6,y7,y8,y9,ak,am,an,ao,aq,ar,⟨⟩⟩:=y;refine⟨y0,y1,y2,y3,y4,y5,y6,y7,y8,y9,ak,am,an,ao,aq,ar,rfl,?_⟩;refine kR (hy j _ W2 _ N hq2 ?_ ?_)
  ·intro W' hq';refine⟨true,rfl,?_⟩;simp only[Bool.not_true,cond_false];rw[Α];exact u _ _ ⟨j+1,by omega,by simp,hq'⟩ (by simp only;omega)
  ·intro W' hd;exact⟨false,rfl,by simp only[Bool.not_false,cond_true];exact .inr hd⟩
 ·simp only[J,decide_false,cond_false];have:j=xs.length:=by omega
  subst this;exact .inl (by simpa using hq)
theorem Gu {w:θ} {s:fU} {xs:List T16} {fv:Value} {k:T16->T16} (hs:mQ 16 e16 w s xs) (hl:s.len<=2^62) (ho:iL fv=true) (hk:Ug fv (λx:T16=>Value.agg ⟨e16 x⟩) [.agg K16] (λ_=>True) (λx=>(λx:T16=>Value.agg ⟨e16 x⟩) (k x))):
  lH s fv w λv w'=>Ext w w'/\∃C,oP υ [.agg K16] v C ((xs.map k).map λy=>(y,()))/\∀W,Ext w' W->C W:=by
 apply wY;refine⟨rfl,gq λa w1 ra ea z1 f1=>⟨ho,gq λb w2 rb eb z2 f2=> ?_⟩⟩;exact⟨f1.trans f2,_,AQ hl hk,λW hW=>⟨(ra.ext f2).ext hW,rb.ext hW,((hs.ext f1).ext f2).ext hW⟩⟩
theorem wS {f0 f1:Nat} {s:fU} {xs:List T7} {fv:Value} {k:T7->T4} (hl:s.len<=2^62) (hk:Ug fv (λx:T7=>Value.agg ⟨e7 x⟩) [.agg K4] (λ_=>True) (λx=>(λx:T4=>Value.agg ⟨e4 x⟩) (k x))):
  oP υ [.agg K4] (Value.func (.func sU) #[] #[.pointer (some ⟨f0,0,none⟩),.pointer (some ⟨f1,0,none⟩)]) (λW=>Row W f0 [Δ s]/\Row W f1 [fv]/\mQ 7 e7 W s xs) ((xs.map k).map λy=>(y,())):=by
 refine⟨by kernel_rfl,λl Q D hC hQ hD hy w h0=> ?_⟩;refine Calls.mono (rJ (a0:= .func (.yield l) #[] #[]) (f0:=⟨f0,0,none⟩) (f1:=⟨f1,0,none⟩) (K:=λw'=>Q (((xs.map k).map λy=>(y,())):List (T4×Unit)).length w'\/D w') ?_) (λe w' h=>h);obtain⟨r0,r1,hs⟩:=hC _ _ h0;simp only[sx,r0.cell];refine gX (λst W=>∃j:Nat,j<=xs.length/\st.1=(j:Int)/\Q j W) (λst _=>(s.len - st.1).toNat) ⟨0,by omega,rfl,h0⟩ ?_;rintro⟨i,⟨⟩⟩ W ⟨j,hj,hi,hq⟩ next u
 simp only at hi;subst hi;obtain⟨r0,r1,hs⟩:=hC _ _ hq;have hlen:=hs.len;by_cases J:(j:Int)<(s.len:Int)
 ·simp only[J,decide_true,cond_true];have hx:=getElem?_eq_getElem (show j<xs.length by omega);generalize xs[j]=x at hx;have N:=Qy (k:=k) hx;refine SlN_ix Og (by omega) hs (by omega) (by rw[toNat_natCast];exact hx) λa hc=> ?_;have I:=hk x;dsimp only at I;generalize k x=y at I N;obtain⟨x0,x1,x2,x3,x4,x5,x6,⟨⟩⟩:=x;have c0:W.cell? (a.add 0)=some (Β x0):=hc 0 _ rfl;have c1:W.cell? (a.add 1)=some (Β x1):=hc 1 _ rfl;have c2:W.cell? (a.add 2)=some (Β x2):=hc 2 _ rfl;have c3:W.cell? (a.add 3)=some (Β x3):=hc 3 _ rfl;have c4:W.cell? (a.add 4)=some (Β x4):=hc 4 _ rfl;have c5:W.cell? (a.add 5)=some (Β x5):=hc 5 _ rfl;have c6:W.cell? (a.add 6)=some (Β x6):=hc 6 _ rfl;simp only[f_,gJ,c0,c1,c2,c3,c4,c5,c6];refine DX rfl rfl λt W1 rt et zt ft=> ?_;have r1:=r1.ext ft;have hq1:=hQ _ _ _ hq ft;simp only[sx,r1.cell,rt.cell];refine I W1 _ trivial λW2 hf2=> ?_;have hq2:=hQ _ _ _ hq1 hf2;obtain⟨y0,y1,y2,y3,⟨⟩⟩:=y;refine⟨y0,y1,y2,y3,rfl,?_⟩;refine kR (hy j _ W2 _ N hq2 ?_ ?_)
  ·intro W' hq';refine⟨true,rfl,?_⟩;simp only[Bool.not_true,cond_false];rw[Α];exact u _ _ ⟨j+1,by omega,by simp,hq'⟩ (by simp only;omega)
  ·intro W' hd;exact⟨false,rfl,by simp only[Bool.not_false,cond_true];exact .inr hd⟩
 ·simp only[J,decide_false,cond_false];have:j=xs.length:=by omega
  subst this;exact .inl (by simpa using hq)
theorem AO {w:θ} {s:fU} {xs:List T7} {fv:Value} {k:T7->T4} (hs:mQ 7 e7 w s xs) (hl:s.len<=2^62) (ho:iL fv=true) (hk:Ug fv (λx:T7=>Value.agg ⟨e7 x⟩) [.agg K4] (λ_=>True) (λx=>(λx:T4=>Value.agg ⟨e4 x⟩) (k x))):
  jZ s fv w λv w'=>Ext w w'/\∃C,oP υ [.agg K4] v C ((xs.map k).map λy=>(y,()))/\∀W,Ext w' W->C W:=by
 apply tX;refine⟨rfl,gq λa w1 ra ea z1 f1=>⟨ho,gq λb w2 rb eb z2 f2=> ?_⟩⟩;exact⟨f1.trans f2,_,wS hl hk,λW hW=>⟨(ra.ext f2).ext hW,rb.ext hW,((hs.ext f1).ext f2).ext hW⟩⟩
theorem wU {f0 f1:Nat} {s:fU} {xs:List T7} {fv:Value} {k:T7->T3} (hl:s.len<=2^62) (hk:Ug fv (λx:T7=>Value.agg ⟨e7 x⟩) [.agg K3] (λ_=>True) (λx=>(λx:T3=>Value.agg ⟨e3 x⟩) (k x))):
  oP υ [.agg K3] (Value.func (.func sV) #[] #[.pointer (some ⟨f0,0,none⟩),.pointer (some ⟨f1,0,none⟩)]) (λW=>Row W f0 [Δ s]/\Row W f1 [fv]/\mQ 7 e7 W s xs) ((xs.map k).map λy=>(y,())):=by
 refine⟨by kernel_rfl,λl Q D hC hQ hD hy w h0=> ?_⟩;refine Calls.mono (rM (a0:= .func (.yield l) #[] #[]) (f0:=⟨f0,0,none⟩) (f1:=⟨f1,0,none⟩) (K:=λw'=>Q (((xs.map k).map λy=>(y,())):List (T3×Unit)).length w'\/D w') ?_) (λe w' h=>h);obtain⟨r0,r1,hs⟩:=hC _ _ h0;simp only[sx,r0.cell];refine gX (λst W=>∃j:Nat,j<=xs.length/\st.1=(j:Int)/\Q j W) (λst _=>(s.len - st.1).toNat) ⟨0,by omega,rfl,h0⟩ ?_;rintro⟨i,⟨⟩⟩ W ⟨j,hj,hi,hq⟩ next u
 simp only at hi;subst hi;obtain⟨r0,r1,hs⟩:=hC _ _ hq;have hlen:=hs.len;by_cases J:(j:Int)<(s.len:Int)
 ·simp only[J,decide_true,cond_true];have hx:=getElem?_eq_getElem (show j<xs.length by omega);generalize xs[j]=x at hx;have N:=Qy (k:=k) hx;refine SlN_ix Og (by omega) hs (by omega) (by rw[toNat_natCast];exact hx) λa hc=> ?_;have I:=hk x;dsimp only at I;generalize k x=y at I N;obtain⟨x0,x1,x2,x3,x4,x5,x6,⟨⟩⟩:=x;have c0:W.cell? (a.add 0)=some (Β x0):=hc 0 _ rfl;have c1:W.cell? (a.add 1)=some (Β x1):=hc 1 _ rfl;have c2:W.cell? (a.add 2)=some (Β x2):=hc 2 _ rfl;have c3:W.cell? (a.add 3)=some (Β x3):=hc 3 _ rfl;have c4:W.cell? (a.add 4)=some (Β x4):=hc 4 _ rfl;have c5:W.cell? (a.add 5)=some (Β x5):=hc 5 _ rfl;have c6:W.cell? (a.add 6)=some (Β x6):=hc 6 _ rfl;simp only[f_,gJ,c0,c1,c2,c3,c4,c5,c6];refine DX rfl rfl λt W1 rt et zt ft=> ?_;have r1:=r1.ext ft;have hq1:=hQ _ _ _ hq ft;simp only[sx,r1.cell,rt.cell];refine I W1 _ trivial λW2 hf2=> ?_;have hq2:=hQ _ _ _ hq1 hf2;obtain⟨y0,y1,y2,⟨⟩⟩:=y;refine⟨y0,y1,y2,rfl,?_⟩;refine kR (hy j _ W2 _ N hq2 ?_ ?_)
  ·intro W' hq';refine⟨true,rfl,?_⟩;simp only[Bool.not_true,cond_false];rw[Α];exact u _ _ ⟨j+1,by omega,by simp,hq'⟩ (by simp only;omega)
  ·intro W' hd;exact⟨false,rfl,by simp only[Bool.not_false,cond_true];exact .inr hd⟩
 ·simp only[J,decide_false,cond_false];have:j=xs.length:=by omega
  subst this;exact .inl (by simpa using hq)
theorem AP {w:θ} {s:fU} {xs:List T7} {fv:Value} {k:T7->T3} (hs:mQ 7 e7 w s xs) (hl:s.len<=2^62) (ho:iL fv=true) (hk:Ug fv (λx:T7=>Value.agg ⟨e7 x⟩) [.agg K3] (λ_=>True) (λx=>(λx:T3=>Value.agg ⟨e3 x⟩) (k x))):
  j_ s fv w λv w'=>Ext w w'/\∃C,oP υ [.agg K3] v C ((xs.map k).map λy=>(y,()))/\∀W,Ext w' W->C W:=by
 apply tY;refine⟨rfl,gq λa w1 ra ea z1 f1=>⟨ho,gq λb w2 rb eb z2 f2=> ?_⟩⟩;exact⟨f1.trans f2,_,wU hl hk,λW hW=>⟨(ra.ext f2).ext hW,rb.ext hW,((hs.ext f1).ext f2).ext hW⟩⟩
def Az (p:T16) (n:Nat) (sl:List T16) (pl:List Int) (tl:List T7):Bool:=
 xX p && (!(sl.any λx=> !xX x) && (!(pl.any λx=> !decide (rZ x)) && !(tl.any λx=> !decide (NH n pl x))))
theorem ae1 {w:θ} {p0 p1 p2 p3 p4 p5 p6 p7 p8 p9 p10 p11 p12 p13 p14 p15:Int} {sw po:fU} {I J N O R U Y Z aa ac af ag ah ai aj ak am:Int} {st:fU} {sl:List T16} {pl:List Int} {tl:List T7} (an:mQ 16 e16 w sw sl) (u:mQ 1 eI w po pl) (ao:mQ 7 e7 w st tl) (lsw:sw.len<=2^62) (lpo:po.len<=2^62) (lst:st.len<=2^62):
  zQ p0 p1 p2 p3 p4 p5 p6 p7 p8 p9 p10 p11 p12 p13 p14 p15 sw po I J N O R U Y Z aa ac af ag ah ai aj ak am st w λr w'=>r=Az (p0,p1,p2,p3,p4,p5,p6,p7,p8,p9,p10,p11,p12,p13,p14,p15,()) sw.len sl pl tl/\Ext w w':=by
 apply Qc;refine gq λa w1 ra ea z1 f1=> ?_;simp -zeta only[sx,ra.cell];intro J4;have hJ4:∀b W,Ext w1 W->b= !(xX (p0,p1,p2,p3,p4,p5,p6,p7,p8,p9,p10,p11,p12,p13,p14,p15,()) && !(sl.any λx=> !xX x))->J4 b W:=by
  intro b W hx hb;simp -zeta only[J4]
  cases b
  ·simp -zeta only[cond_false];intro J7;have hJ7:∀b W',Ext W W'->b= !(!(pl.any λx=> !decide (rZ x)) && !(tl.any λx=> !decide (NH sw.len pl x)))->J7 b W':=by
    intro b2 W' hx' hb2;simp only[J7];have e1:(xX (p0,p1,p2,p3,p4,p5,p6,p7,p8,p9,p10,p11,p12,p13,p14,p15,()) && !(sl.any λx=> !xX x))=true:=by rw[<- Bool.not_not (xX _ && _),<- hb];rfl
    have xx:=(f1.trans hx).trans hx';have hr:Az (p0,p1,p2,p3,p4,p5,p6,p7,p8,p9,p10,p11,p12,p13,p14,p15,()) sw.len sl pl tl= !b2:=by
     unfold Az;rw[<- Bool.and_assoc,e1,hb2,Bool.true_and,Bool.not_not]
    rw[hr]
    cases b2
    ·exact⟨rfl,xx⟩
    ·exact⟨rfl,xx⟩
   have raW:=ra.ext hx;simp -zeta only[d_,f_,gQ,raW.cell];refine cmS0 (Rf ((u.ext f1).ext hx) lpo Y7 λ_ _=>trivial) ?_;rintro _ w' ⟨rfl,hf⟩
   cases hp:pl.any λx=> !decide (rZ x)
   ·have ra':=raW.ext hf;simp -zeta only[cond_false,cond_false,d_,f_,gQ,ra'.cell];refine cmS0 (ϧ (((ao.ext f1).ext hx).ext hf) lst (aer lsw lpo) λW hW=>⟨ra'.ext hW,(((u.ext f1).ext hx).ext hf).ext hW⟩) ?_;rintro _ w'' ⟨rfl,hf'⟩;exact hJ7 _ _ (hf.trans hf') (by rw[hp];simp)
   ·simp -zeta only[cond_true];exact hJ7 _ _ hf (by rw[hp];simp)
  ·simp only[cond_true];have e1:(xX (p0,p1,p2,p3,p4,p5,p6,p7,p8,p9,p10,p11,p12,p13,p14,p15,()) && !(sl.any λx=> !xX x))=false:=by rw[<- Bool.not_not (xX _ && _),<- hb];rfl
   refine⟨?_,f1.trans hx⟩;unfold Az;rw[<- Bool.and_assoc,e1,Bool.false_and]
 refine cmS0 (PS _) ?_;rintro _ w' ⟨rfl,hf⟩
 cases hp:xX (p0,p1,p2,p3,p4,p5,p6,p7,p8,p9,p10,p11,p12,p13,p14,p15,())
 ·simp -zeta only[Bool.not_false,cond_true];exact hJ4 _ _ hf (by rw[hp];simp)
 ·have ra':=ra.ext hf;simp -zeta only[Bool.not_true,cond_false,cond_false,d_,f_,gQ,ra'.cell];refine cmS0 (YS ((an.ext f1).ext hf) lsw ϲ λ_ _=>trivial) ?_;rintro _ w'' ⟨rfl,hf'⟩;exact hJ4 _ _ (hf.trans hf') (by rw[hp];simp)
end Go.Proofs.CN
end
section
namespace Go.Proofs.CN
open Gp
theorem WW (x:T16):∀v∈e16 x,iL v=true:=by
 obtain⟨x0,x1,x2,x3,x4,x5,x6,x7,x8,x9,u,I,J,N,O,R,⟨⟩⟩:=x;intro v hv;have:(e16 (x0,x1,x2,x3,x4,x5,x6,x7,x8,x9,u,I,J,N,O,R,())).all iL=true:=rfl;exact List.all_eq_true.1 this v hv
theorem aa1 {w:θ} {s:fU} {xs:List T16} (hs:mQ 16 e16 w s xs) (hl:s.len<=2^40):
  jL s w λr w'=>Ext w w'/\iV 16 e16 w' r xs/\∀b,fU.at r b->w.heap.size<=b:=by
 apply wH;have hlen:=hs.len
 cases ha:s.a with
 |none=>
  have hc:=hs.cells;rw[ha] at hc;have h0:xs.flatMap e16=[]:=hc;have u:=jo e16 16 e16_len xs;rw[h0] at u;have:xs=[]:=by
   cases xs with
   |nil=>rfl
   |cons _ _=>simp only[length_cons,length_nil] at u;omega
  subst this;simp only[Option.isNone_none,cond_true];exact⟨Ext.refl _,iV.nil,λb ⟨o,hb⟩=>by cases hb⟩
 |some a=>
  simp only[Option.isNone_some,cond_false];refine gq λt w1 rt et zt f1=> ?_;have hb:iV 16 e16 w1 ⟨some ⟨t,0,none⟩,0,0⟩ ([]:List T16):=iV.row (xs:=[]) rt;refine mD e16_len hb (hs.ext f1) rfl (by omega) WW (by simp only[length_nil];omega) (by simp only[length_nil];omega) λs' w' h1 h2 h3=> ?_;refine⟨f1.new h2 λb hb ⟨o,he⟩=>by cases he;omega,h1,λb hb=> ?_⟩;rcases h3 b hb with ⟨o,he⟩|h
  ·cases he;omega
  ·omega
def sw7 (x:T7):Int:=x.1
def cnt (tl:List T7) (k:Nat):Nat:=tl.countP λy=>sw7 y==(k:Int)
def cnts (n:Nat) (tl:List T7):List Int:=(List.range n).map λk=>(cnt tl k:Int)
theorem Dt (n:Nat) (tl:List T7):(cnts n tl).flatMap eI=(List.range n).map λk=>Β (cnt tl k:Int):=by
 unfold cnts;generalize List.range n=l
 induction l with
 |nil=>rfl
 |cons a l ih=>simp only[map_cons,List.flatMap_cons,ih];rfl
theorem ady {α:Type} {n:Nat} {f:α->List Value} {w:θ} {s:fU} {xs:List α} {a:Addr} (hn:∀x,(f x).length=n) (hn0:0<n) (h:mQ n f w s xs) (ha:s.a=some a) (hx:0<xs.length):a.block<w.heap.size:=by
 have hc:=h.cells;rw[ha] at hc;have hfl:=jo f n hn xs;have hp:0<xs.length * n:=Nat.mul_pos hx hn0;have h0:=hc.2 0 (by omega);rw[getElem?_eq_getElem (by omega)] at h0;exact cell_lt h0
theorem adY (tl:List T7) (x:T7) (k:Nat):cnt (tl++[x]) k=cnt tl k+if sw7 x=(k:Int) then 1 else 0:=by
 unfold cnt;rw[List.countP_append,List.countP_singleton];congr 1;by_cases h:sw7 x=(k:Int)<;>simp[h]
theorem adZ {n:Nat} {tl:List T7} {x:T7} (h0:0<=sw7 x):
  ((cnts n tl).flatMap eI).set (sw7 x).toNat (Β ((cnt tl (sw7 x).toNat:Int)+1))=(cnts n (tl++[x])).flatMap eI:=by
 rw[Dt,Dt];refine List.ext_getElem? λi=> ?_;rw[List.getElem?_set];by_cases hi:i<n
 ·rw[getElem?_map,getElem?_map,List.getElem?_range hi];simp only[Option.map_some,List.length_map,length_range];rw[adY];by_cases he:(sw7 x).toNat=i
  ·subst he;rw[if_pos rfl,if_pos hi,if_pos (by omega)];rfl
  ·rw[if_neg he,if_neg (by omega)];rfl
 ·rw[List.getElem?_eq_none (by simp;omega),List.getElem?_eq_none (by simp;omega)];by_cases he:(sw7 x).toNat=i
  ·rw[if_pos he,if_neg (by simp;omega)]
  ·rw[if_neg he]
def fineP (p:T16) (sl:List T16) (pl:List Int) (tl:List T7) (n:Nat) (q:Int):Prop:=
 (sl++[p]).Nodup/\pl.Nodup/\(tl.map KI).Nodup/\(tl.map TJ).Nodup/\∀k:Nat,k<n->(cnt tl k:Int)<=q
theorem adG {n:Nat} {tl:List T7} {q:Int}:((cnts n tl).any λx=>decide (x>q))=true↔¬∀k:Nat,k<n->(cnt tl k:Int)<=q:=by
 rw[List.any_eq_true];constructor
 ·rintro⟨x,hx,hq⟩ h;obtain⟨k,hk,rfl⟩:=List.mem_map.1 hx;have:=h k (List.mem_range.1 hk);simp only[decide_eq_true_eq] at hq;omega
 ·intro h;by_cases hk:∃k:Nat,k<n/\q<(cnt tl k:Int)
  ·obtain⟨k,h1,h2⟩:=hk;exact⟨_,List.mem_map.2 ⟨k,List.mem_range.2 h1,rfl⟩,by simpa using h2⟩
  ·exact absurd (λk hk'=>by
    by_cases hh:(cnt tl k:Int)<=q
    ·exact hh
    ·exact absurd ⟨k,hk',by omega⟩ hk) h
theorem ϩ {w:θ} {p0 p1 p2 p3 p4 p5 p6 p7 p8 p9 p10 p11 p12 p13 p14 p15:Int} {sw po:fU} {ah ai ac aj ak am an ao aq ar au av aw ax ay az aA:Int} {st:fU} {sl:List T16} {pl:List Int} {tl:List T7} (Y:mQ 16 e16 w sw sl) (J:mQ 1 eI w po pl) (u:mQ 7 e7 w st tl) (lsw:sw.len<=2^40) (lpo:po.len<=2^40) (lst:st.len<=2^40)
  (hr:∀x∈tl,0<=sw7 x/\sw7 x<(sw.len:Int)):
  wP p0 p1 p2 p3 p4 p5 p6 p7 p8 p9 p10 p11 p12 p13 p14 p15 sw po ah ai ac aj ak am an ao aq ar au av aw ax ay az aA st w λr w'=>(r=true↔¬fineP (p0,p1,p2,p3,p4,p5,p6,p7,p8,p9,p10,p11,p12,p13,p14,p15,()) sl pl tl sw.len ac)/\Ext w w':=by
 apply MQ;have lens:=Y.len;refine gq λa w1 ra ea z1 f1=> ?_;simp -zeta only[sx,ra.drew.cell];intro J4;have hJ4:∀s W,Ext w1 W->iV 16 e16 W s (sl++[(p0,p1,p2,p3,p4,p5,p6,p7,p8,p9,p10,p11,p12,p13,p14,p15,())])->J4 s W:=by
  intro s W hx hb;have ra:=ra.ext hx;have J:=(J.ext f1).ext hx;have u:=(u.ext f1).ext hx;have xx:=f1.trans hx;simp -zeta only[J4];intro J7;have hJ7:∀c W',Ext W W'->(c=true↔¬((sl++[(p0,p1,p2,p3,p4,p5,p6,p7,p8,p9,p10,p11,p12,p13,p14,p15,())]).Nodup/\pl.Nodup/\(tl.map KI).Nodup/\(tl.map TJ).Nodup))->J7 c W':=by
   intro c W' hx' hc;simp only[J7]
   cases c
   ·have ra:=ra.ext hx';have u:=u.ext hx';have hf:(sl++[(p0,p1,p2,p3,p4,p5,p6,p7,p8,p9,p10,p11,p12,p13,p14,p15,())]).Nodup/\pl.Nodup/\(tl.map KI).Nodup/\(tl.map TJ).Nodup:=by
     by_cases h:(sl++[(p0,p1,p2,p3,p4,p5,p6,p7,p8,p9,p10,p11,p12,p13,p14,p15,())]).Nodup/\pl.Nodup/\(tl.map KI).Nodup/\(tl.map TJ).Nodup
     ·exact h
     ·exact absurd (hc.2 h) (by simp)
    simp only[cond_false,cond_false,d_,f_,gQ,ra.cell];refine Dc (by omega) (by omega) (by omega) (by omega) λm w2 rm em z2 f2=> ?_;have f2:Ext W' w2:=f2;have la1:=ra.lt;have Z:=u;have ra:=ra.ext f2;have u:=u.ext f2;have hlt:=u.len;simp only[sx,toNat_natCast,ra.cell];have rm0:Row w2 m ((cnts sw.len (tl.take 0)).flatMap eI):=by
     have e:(cnts sw.len (tl.take 0)).flatMap eI=gZ [Β 0] ((sw.len:Int)).toNat:=by
      rw[Dt,toNat_natCast];generalize sw.len=n;rw[List.take_zero];have:∀l:List Nat,(l.map λk=>Β ((cnt [] k:Nat):Int))=gZ [Β 0] l.length:=by
       intro l
       induction l with
       |nil=>rfl
       |cons a l ih=>simp only[map_cons,length_cons,gZ,ih];rfl
      rw[this,length_range]
     rw[e];exact rm
    refine gX (λst' V=>∃j:Nat,j<=tl.length/\st'.1=(j:Int)/\Row V m ((cnts sw.len (tl.take j)).flatMap eI)/\gW w2 V (·=m)) (λst' _=>(tl.length - st'.1).toNat) ⟨0,by omega,rfl,rm0,gW.refl _ _⟩ ?_;rintro⟨i,⟨⟩⟩ V ⟨j,hj,hi,rmV,U⟩ next N
    simp only at hi;subst hi;have lra:=ra.lt;have zW:=hx'.size;have raV:=ra.fr U (by omega);have aa:=u.fr U (λa' ha' hl'=>by
     have:=ady Og (by omega) Z ha' hl';omega)
    by_cases O:(j:Int)<(st.len:Int)
    ·simp only[O,decide_true,cond_true];have hx:=getElem?_eq_getElem (show j<tl.length by omega);have R:=getElem_mem (show j<tl.length by omega);generalize tl[j]=x at hx R;have aB:=Gp.Cfg.take_snoc hx;have af:=hr x R;have I:=adZ (n:=sw.len) (tl:=tl.take j) (x:=x) af.1;rw[<- aB] at I;have ag:cnt (tl.take j) (sw7 x).toNat<=tl.length:=Nat.le_trans (List.countP_le_length) (by simp;omega);refine SlN_ix Og (by omega) aa (by omega) (by rw[toNat_natCast];exact hx) λa' hc=> ?_;obtain⟨x0,x1,x2,x3,x4,x5,x6,⟨⟩⟩:=x;have c0:V.cell? (a'.add 0)=some (Β x0):=hc 0 _ rfl;have c1:V.cell? (a'.add 1)=some (Β x1):=hc 1 _ rfl;have c2:V.cell? (a'.add 2)=some (Β x2):=hc 2 _ rfl;have c3:V.cell? (a'.add 3)=some (Β x3):=hc 3 _ rfl;have c4:V.cell? (a'.add 4)=some (Β x4):=hc 4 _ rfl;have c5:V.cell? (a'.add 5)=some (Β x5):=hc 5 _ rfl;have c6:V.cell? (a'.add 6)=some (Β x6):=hc 6 _ rfl;simp only[f_,gJ,c0,c1,c2,c3,c4,c5,c6];refine DX rfl rfl λt w3 rt et zt f3=> ?_;have rm3:=rmV.ext f3;have hq0:0<=x0/\x0<(sw.len:Int):=af;have hg:((cnts sw.len (tl.take j)).flatMap eI)[x0.toNat]? =some (Β (cnt (tl.take j) x0.toNat:Int)):=by
      rw[Dt,getElem?_map,List.getElem?_range (by omega)];rfl
     have ag:cnt (tl.take j) x0.toNat<=tl.length:=ag;have I:((cnts sw.len (tl.take j)).flatMap eI).set x0.toNat (Β ((cnt (tl.take j) x0.toNat:Int)+1))=(cnts sw.len (tl.take (j+1))).flatMap eI:=I;simp only[List.getElem?_cons_zero,f_,gJ,rt.cell,Nat.mul_one,rm3.cell,hg];refine⟨hq0.1,hq0.2,hq0.1,hq0.2,?_⟩;rw[Α,Α];refine g_ rm3 rfl (by rw[Dt];simp;omega) λw4 rm4 f4 z4=> ?_;rw[I] at rm4;exact N _ _ ⟨j+1,by omega,by simp,rm4,(U.ext f3).trans (f4 (·=m) rfl) λ_ _ e=>e⟩ (by simp only;omega)
    ·simp only[O,decide_false,cond_false];rw[take_of_length_le (by omega)] at rmV;have aC:mQ 1 eI V ⟨some ⟨m,0,none⟩,sw.len,sw.len⟩ (cnts sw.len tl):=by
      have:=(iV.row (xs:=cnts sw.len tl) (f:=eI) (n:=1) rmV).sl jX (by omega);simpa [cnts] using this
     refine cmS0 (Rf aC (by simp only;omega) afX λW hW=>raV.ext hW) ?_;rintro r w5 ⟨rfl,f5⟩;have e5:Ext W' V:=f2.new U λb hb e=>by omega
     refine⟨?_,((xx.trans hx').trans e5).trans f5⟩;rw[adG];exact⟨λh hh=>h hh.2.2.2.2,λh hh=>h ⟨hf.1,hf.2.1,hf.2.2.1,hf.2.2.2,hh⟩⟩
   ·simp only[cond_true];exact⟨⟨λ_ h=>hc.1 rfl ⟨h.1,h.2.1,h.2.2.1,h.2.2.2.1⟩,λ_=>by trivial⟩,xx.trans hx'⟩
  refine cmS5 (Gu (hb.sl e16_len (by omega)) ?_ rfl Y6) ?_
  ·rw[hb.len];simp only[List.length_append,length_cons,length_nil];omega
  rintro v w2 ⟨f2,C,hi,hC⟩;rw[map_id'] at hi;refine cmS0 (agT hi hC) ?_;rintro r w3 ⟨h1,f3⟩
  cases r
  ·have f3:=f2.trans f3;have n1:(sl++[(p0,p1,p2,p3,p4,p5,p6,p7,p8,p9,p10,p11,p12,p13,p14,p15,())]).Nodup:=by
    by_cases h:(sl++[(p0,p1,p2,p3,p4,p5,p6,p7,p8,p9,p10,p11,p12,p13,p14,p15,())]).Nodup
    ·exact h
    ·exact absurd (h1.2 h) (by simp)
   have ra:=ra.ext f3;have J:=J.ext f3;have u:=u.ext f3;simp -zeta only[cond_false,cond_false,d_,f_,gQ,ra.cell];refine cmS5 (WX J (by simp only;omega) rfl ϳ) ?_;rintro v w4 ⟨f4,C,hi,hC⟩;rw[map_id'] at hi;refine cmS0 (ah6 hi hC) ?_;rintro r w5 ⟨h2,f5⟩;have f5:=f4.trans f5
   cases r
   ·have n2:pl.Nodup:=by
     by_cases h:pl.Nodup
     ·exact h
     ·exact absurd (h2.2 h) (by simp)
    have ra:=ra.ext f5;have u:=u.ext f5;simp -zeta only[cond_false,cond_false,d_,f_,gQ,ra.cell];refine cmS5 (AO u (by simp only;omega) rfl aen) ?_;rintro v w6 ⟨f6,C,hi,hC⟩;refine cmS0 (ah8 hi hC) ?_;rintro r w7 ⟨h3,f7⟩;have f7:=f6.trans f7
    cases r
    ·have n3:(tl.map KI).Nodup:=by
      by_cases h:(tl.map KI).Nodup
      ·exact h
      ·exact absurd (h3.2 h) (by simp)
     have ra:=ra.ext f7;have u:=u.ext f7;simp -zeta only[cond_false,cond_false,d_,f_,gQ,ra.cell];refine cmS5 (AP u (by simp only;omega) rfl aeo) ?_;rintro v w8 ⟨f8,C,hi,hC⟩;refine cmS0 (ah7 hi hC) ?_;rintro r w9 ⟨h4,f9⟩;refine hJ7 _ _ ((((f3.trans f5).trans f7).trans f8).trans f9) (h4.trans ⟨λh hh=>h hh.2.2.2,λh hh=>h ⟨n1,n2,n3,hh⟩⟩)
    ·simp -zeta only[cond_true];exact hJ7 _ _ ((f3.trans f5).trans f7) ⟨λ_ h=>h3.1 rfl h.2.2.1,λ_=>rfl⟩
   ·simp -zeta only[cond_true];exact hJ7 _ _ (f3.trans f5) ⟨λ_ h=>h2.1 rfl h.2.1,λ_=>rfl⟩
  ·simp -zeta only[cond_true];exact hJ7 _ _ (f2.trans f3) ⟨λ_ h=>h1.1 rfl h.1,λ_=>rfl⟩
 have hd:=Ext.drew w1;refine⟨?_,?_⟩
 ·refine cmS2 (aa1 ((Y.ext f1).ext hd) lsw) ?_;rintro r w2 ⟨f2,hb,hb2⟩;have e2:=hd.trans f2;have ra2:=ra.ext e2;simp only[sx,h_,iC,ra2.cell,true_and];refine gq λt w3 rt et zt f3=> ?_;have ra3:=ra2.ext f3;simp only[sx,ra3.cell,true_and];have ht:mQ 16 e16 w3 ⟨some ⟨t,0,none⟩,1,1⟩ [((p0,p1,p2,p3,p4,p5,p6,p7,p8,p9,p10,p11,p12,p13,p14,p15,()):T16)]:=(iV.row (xs:=[((p0,p1,p2,p3,p4,p5,p6,p7,p8,p9,p10,p11,p12,p13,p14,p15,()):T16)]) (f:=e16) (n:=16) rt).sl e16_len (by omega);refine mD e16_len (hb.ext f3) ht rfl (by omega) WW (by simp only[length_cons,length_nil];omega) (by simp only[length_cons,length_nil];omega) λs' w' h1 h2 h3=> ?_;have hz:w1.heap.size<=w1.drew.heap.size:=hd.size;exact hJ4 _ _ (((e2.trans f3).fr h2).new λb hb' hs=>by have:=hb2 b hs;omega) h1
 ·refine gq λt w2 rt et zt f2=> ?_;have e2:=hd.trans f2;have ra2:=ra.ext e2;simp only[sx,h_,iC,ra2.cell,true_and];refine cmS2 (aa1 ((Y.ext f1).ext e2) lsw) ?_;rintro r w3 ⟨f3,hb,hb2⟩;have e3:=e2.trans f3;have ra3:=ra2.ext f3;simp only[sx,ra3.cell,true_and];have ht:mQ 16 e16 w3 ⟨some ⟨t,0,none⟩,1,1⟩ [((p0,p1,p2,p3,p4,p5,p6,p7,p8,p9,p10,p11,p12,p13,p14,p15,()):T16)]:=((iV.row (xs:=[((p0,p1,p2,p3,p4,p5,p6,p7,p8,p9,p10,p11,p12,p13,p14,p15,()):T16)]) (f:=e16) (n:=16) rt).sl e16_len (by omega)).ext f3;refine mD e16_len hb ht rfl (by omega) WW (by simp only[length_cons,length_nil];omega) (by simp only[length_cons,length_nil];omega) λs' w' h1 h2 h3=> ?_;have hz:w1.heap.size<=w2.heap.size:=e2.size;exact hJ4 _ _ ((e3.fr h2).new λb hb' hs=>by have:=hb2 b hs;omega) h1
end Go.Proofs.CN
namespace Go.Proofs.CN
open Gp
def abY (ls lp lt n18 n19 n20 n21 n22 n23 n24 n25 n26 n27 n29 n30 n31 n32 n33 n34:Int):List T3:=
 [(ls,1,64,()),(lp,1,16,()),(lt,0,if n21<64 then n21 else 64,()),(n18,1,65535,()),(n19,n18,65535,()),(n20,1,4096,()),(n21,1,4096,()),(n22,1,4096,()),(n23,0,4096,()),
  (n24,0,67108864,()),(n25,1280,65535,()),(n26,1280,65535,()),(n27,1,255,()),(n29,0,2,()),(n30,120,1048576,()),(n31,7440,1048576,()),(n32,240,1048576,()),(n33,60,1048576,()),(n34,1,1048576,())]
theorem aec (x:T3):(e3 x).length=3:=rfl
def okB (b:T3):Prop:=b.2.1<=b.1/\b.1<=b.2.2.1
instance (b:T3):Decidable (okB b):=inferInstanceAs (Decidable (_/\_))
theorem abZ {p0 p1 p2 p3 p4 p5 p6 p7 p8 p9 p10 p11 p12 p13 p14 p15:Int} {sw po:fU} {u I J N O R U Y Z aa ak ac af ag ah ai aj:Int} {st:fU} (w:θ):yx p0 p1 p2 p3 p4 p5 p6 p7 p8 p9 p10 p11 p12 p13 p14 p15 sw po u I J N O R U Y Z aa ak ac af ag ah ai aj st w λr w'=>Ext w w'/\r.len=19/\mQ 3 e3 w' r (abY sw.len po.len st.len u I J N O R U Y Z aa ac af ag ah ai aj):=by
 apply OI;refine gq λa w1 ra ea z1 f1=> ?_;simp only[sx,ra.cell];refine gq λb w2 rb eb z2 f2=> ?_;have hb:=iV.row (n:=3) (f:=e3) (xs:=abY sw.len po.len st.len u I J N O R U Y Z aa ac af ag ah ai aj) (w:=w2) (b:=b) rb;exact⟨f1.trans f2,by trivial,hb.sl aec (by omega)⟩
structure OkP (p:T16) (ls lp lt n18 n19 n20 n21 n22 n23 n24 n25 n26 n27 n28 n29 n30 n31 n32 n33 n34:Int) (n:Nat) (sl:List T16) (pl:List Int) (tl:List T7):Prop where
 nums:∀b∈abY ls lp lt n18 n19 n20 n21 n22 n23 n24 n25 n26 n27 n29 n30 n31 n32 n33 n34,okB b
 mss:aao n28
 parts:Az p n sl pl tl=true
theorem agQ {n:Nat} {pl:List Int} {x:T7} (h:NH n pl x):0<=sw7 x/\sw7 x<(n:Int):=by
 obtain⟨q0,q1,q2,q3,q4,q5,q6,⟨⟩⟩:=x;have:(0<=q0/\q0<=(n:Int) - 1):=h.2.2.2;show 0<=q0/\q0<(n:Int);omega
theorem aaE {p:T16} {n:Nat} {sl:List T16} {pl:List Int} {tl:List T7} (h:Az p n sl pl tl=true):∀x∈tl,NH n pl x:=by
 intro x hx;unfold Az at h;simp only[Bool.and_eq_true,Bool.not_eq_true',List.any_eq_false] at h;have:=h.2.2.2 x hx;simpa using this
theorem Ai {w:θ} {p0 p1 p2 p3 p4 p5 p6 p7 p8 p9 p10 p11 p12 p13 p14 p15:Int} {sw po:fU} {O R u U Y Z aa ac af ag N ah ai aj ak am an:Int} {st:fU} {sl:List T16} {pl:List Int} {tl:List T7} (ay:mQ 16 e16 w sw sl) (az:mQ 1 eI w po pl) (aA:mQ 7 e7 w st tl) (lsw:sw.len<=2^40) (lpo:po.len<=2^40) (lst:st.len<=2^40):
  zM p0 p1 p2 p3 p4 p5 p6 p7 p8 p9 p10 p11 p12 p13 p14 p15 sw po O R u U Y Z aa ac af ag N ah ai aj ak am an st w λr w'=>((¬OkP (p0,p1,p2,p3,p4,p5,p6,p7,p8,p9,p10,p11,p12,p13,p14,p15,()) sw.len po.len st.len O R u U Y Z aa ac af ag N ah ai aj ak am an sw.len sl pl tl/\r=1)\/
   (OkP (p0,p1,p2,p3,p4,p5,p6,p7,p8,p9,p10,p11,p12,p13,p14,p15,()) sw.len po.len st.len O R u U Y Z aa ac af ag N ah ai aj ak am an sw.len sl pl tl/\((¬fineP (p0,p1,p2,p3,p4,p5,p6,p7,p8,p9,p10,p11,p12,p13,p14,p15,()) sl pl tl sw.len u/\r=9)\/(fineP (p0,p1,p2,p3,p4,p5,p6,p7,p8,p9,p10,p11,p12,p13,p14,p15,()) sl pl tl sw.len u/\r=0))))/\Ext w w':=by
 apply Qb;refine gq λa w1 ra ea z1 f1=> ?_;simp -zeta only[sx,ra.cell];refine cmS2 (abZ w1) ?_;rintro bs w2 ⟨f2,hl19,au⟩;generalize aB:abY sw.len po.len st.len O R u U Y Z aa ac af ag ah ai aj ak am an=bl at au;have hlb:bs.len=bl.length:=au.len;refine gX (λst' W=>∃j:Nat,j<=19/\st'.1=(j:Int)/\Ext w2 W/\∀b∈bl.take j,okB b) (λst' _=>(19 - st'.1).toNat) ⟨0,by omega,rfl,Ext.refl _,by simp⟩ ?_;rintro⟨i,⟨⟩⟩ W ⟨j,hj,hi,hx,I⟩ next ao
 simp only at hi;subst hi;have av:=f1.trans f2;have raW:=(ra.ext f2).ext hx;by_cases aC:(j:Int)<(bs.len:Int)
 ·simp -zeta only[aC,decide_true,cond_true];have aw:=getElem?_eq_getElem (show j<bl.length by omega);have aq:=getElem_mem (show j<bl.length by omega);generalize bl[j]=x at aw aq;have aD:=Gp.Cfg.take_snoc aw;refine SlN_ix aec (by omega) (au.ext hx) (by omega) (by rw[toNat_natCast];exact aw) λa' hc=> ?_;obtain⟨x0,x1,x2,⟨⟩⟩:=x;have c0:W.cell? (a'.add 0)=some (Β x0):=hc 0 _ rfl;have c1:W.cell? (a'.add 1)=some (Β x1):=hc 1 _ rfl;have c2:W.cell? (a'.add 2)=some (Β x2):=hc 2 _ rfl;simp -zeta only[f_,gJ,c0,c1,c2];refine DX rfl rfl λt w3 rt et zt f3=> ?_;simp -zeta only[sx,rt.cell];refine cmS0 (xQ _ _ _ _) ?_;rintro _ w4 ⟨rfl,f4⟩;by_cases J:x1<=x0/\x0<=x2
  ·simp -zeta only[J,and_self,decide_true,Bool.not_true,cond_false];rw[Α];refine ao _ _ ⟨j+1,by omega,by simp,(hx.trans f3).trans f4,?_⟩ (by simp only;omega);rw[aD];intro b hb;rcases List.mem_append.1 hb with hb|hb
   ·exact I b hb
   ·rw[List.mem_singleton.1 hb];exact J
  ·simp -zeta only[J,decide_false,Bool.not_false,cond_true];exact⟨.inl ⟨λh=>J (h.nums (x0,x1,x2,()) (by rw[aB];exact aq)),by trivial⟩,((av.trans hx).trans f3).trans f4⟩
 ·simp -zeta only[aC,decide_false,cond_false];rw[take_of_length_le (by omega)] at I;intro ax;have hJ:∀c W',Ext W W'->(c=false↔aao N/\Az (p0,p1,p2,p3,p4,p5,p6,p7,p8,p9,p10,p11,p12,p13,p14,p15,()) sw.len sl pl tl=true)->ax c W':=by
   intro c W' hx' hc;have raW:=raW.ext hx';have xx:=(av.trans hx).trans hx';simp only[ax]
   cases c
   ·obtain⟨h1,h2⟩:=hc.1 rfl;have J:OkP (p0,p1,p2,p3,p4,p5,p6,p7,p8,p9,p10,p11,p12,p13,p14,p15,()) sw.len po.len st.len O R u U Y Z aa ac af ag N ah ai aj ak am an sw.len sl pl tl:=⟨by rw[aB];exact I,h1,h2⟩;simp only[cond_false,cond_false,d_,f_,gQ,gJ,raW.cell];refine cmS0 (ϩ (ay.ext xx) (az.ext xx) (aA.ext xx) lsw lpo lst λx hx=>agQ (aaE h2 x hx)) ?_;rintro r w5 ⟨h5,f5⟩
    cases r
    ·have ar:fineP (p0,p1,p2,p3,p4,p5,p6,p7,p8,p9,p10,p11,p12,p13,p14,p15,()) sl pl tl sw.len u:=by
      by_cases h:fineP (p0,p1,p2,p3,p4,p5,p6,p7,p8,p9,p10,p11,p12,p13,p14,p15,()) sl pl tl sw.len u
      ·exact h
      ·exact absurd (h5.2 h) (by simp)
     exact⟨.inr ⟨J,.inr ⟨ar,by trivial⟩⟩,xx.trans f5⟩
    ·exact⟨.inr ⟨J,.inl ⟨h5.1 rfl,by trivial⟩⟩,xx.trans f5⟩
   ·simp only[cond_true];refine⟨.inl ⟨λh=> ?_,by trivial⟩,xx⟩;have:=hc.2 ⟨h.mss,h.parts⟩
    cases this
  clear_value ax;simp -zeta only[d_,f_,gJ,raW.cell];refine cmS0 (afi _ _) ?_;rintro _ w3 ⟨rfl,f3⟩;by_cases hm:aao N
  ·have raW:=raW.ext f3;rw[decide_eq_true hm,Bool.not_true,cond_false];simp -zeta only[d_,f_,gQ,gJ,raW.cell];have xx:=(av.trans hx).trans f3;refine cmS0 (ae1 (ay.ext xx) (az.ext xx) (aA.ext xx) (Nat.le_trans lsw (by omega)) (Nat.le_trans lpo (by omega)) (Nat.le_trans lst (by omega))) ?_;rintro _ w4 ⟨rfl,f4⟩;exact hJ _ _ (f3.trans f4) (by cases Az (p0,p1,p2,p3,p4,p5,p6,p7,p8,p9,p10,p11,p12,p13,p14,p15,()) sw.len sl pl tl<;>simp[hm])
  ·rw[decide_eq_false hm,Bool.not_false,cond_true];exact hJ _ _ f3 (by simp[hm])
end Go.Proofs.CN
namespace Go.Proofs.CN
end Go.Proofs.CN
namespace Go.Proofs.CN
end Go.Proofs.CN
namespace Go.Proofs.CN
end Go.Proofs.CN
namespace Go.Proofs.CN
open Gp
def chk (p:T16) (ls lp lt n18 n19 n20 n21 n22 n23 n24 n25 n26 n27 n28 n29 n30 n31 n32 n33 n34:Int) (n:Nat) (sl:List T16) (pl:List Int) (tl:List T7) (r:Int):Prop:=
 (¬OkP p ls lp lt n18 n19 n20 n21 n22 n23 n24 n25 n26 n27 n28 n29 n30 n31 n32 n33 n34 n sl pl tl/\r=1)\/
   (OkP p ls lp lt n18 n19 n20 n21 n22 n23 n24 n25 n26 n27 n28 n29 n30 n31 n32 n33 n34 n sl pl tl/\((¬fineP p sl pl tl n n20/\r=9)\/(fineP p sl pl tl n n20/\r=0)))
theorem chk_one {p:T16} {ls lp lt u I J N O R U Y Z aa ac af ag ah ai aj ak:Int} {n:Nat} {sl:List T16} {pl:List Int} {tl:List T7} {r r':Int}
  (h:chk p ls lp lt u I J N O R U Y Z aa ac af ag ah ai aj ak n sl pl tl r) (h':chk p ls lp lt u I J N O R U Y Z aa ac af ag ah ai aj ak n sl pl tl r'):r=r':=by
 rcases h with ⟨h1,rfl⟩|⟨h1,⟨h2,rfl⟩|⟨h2,rfl⟩⟩<;>rcases h' with ⟨g1,rfl⟩|⟨g1,⟨g2,rfl⟩|⟨g2,rfl⟩⟩<;>first|rfl|exact absurd g1 h1|exact absurd h1 g1|exact absurd h2 g2|exact absurd g2 h2
end Go.Proofs.CN
end
section
namespace Go.Proofs.CN
open Gp
def words (n:Nat):List Int:=[8193,3512,(n:Int),0,0,0,0,1]
def ZP (n j:Nat):List Int:=((words n).take j).flatMap (λx=>[x / 256,x % 256])++List.replicate (16 - 2 * j) 0
def ownT (n:Nat):T16:=(32,1,13,184,0,(n:Int),0,0,0,0,0,0,0,0,0,1,())
abbrev cu8 (l:List Int):List Value:=l.map λx=>Value.int .u8 x
theorem aa4 (l:List Int) (i:Nat) (x:Int):(cu8 l).set i (.int .u8 x)=cu8 (l.set i x):=by
 unfold cu8;rw[List.map_set]
theorem acM:∀(n:Fin 3) (j:Fin 8),((ZP n j).set (2 * j) (IntKind.u8.wrap (ο.wrap (Int.tdiv (Int.tmod (ο.wrap ((Int.tmod ((words n).getD j 0) 65536)+65536)) 65536) 256)))).set (2 * j+1) (IntKind.u8.wrap (Int.tmod (Int.tmod (ο.wrap ((Int.tmod ((words n).getD j 0) 65536)+65536)) 65536) 256))=ZP n (j+1):=by decide
theorem agw:∀(n:Fin 3) (j:Fin 9),(ZP n j).length=16:=by decide
theorem agv:∀(n:Fin 3),cu8 (ZP n 8)=e16 (ownT n):=by
 intro n
 match n with
 |0=>rfl
 |1=>rfl
 |2=>rfl
end Go.Proofs.CN
namespace Go.Proofs.CN
open Gp
theorem adi (n:Nat):∀(j:Nat),j<8->(words n)[j]? =some ((words n).getD j 0)
 |0,_=>rfl
 |1,_=>rfl
 |2,_=>rfl
 |3,_=>rfl
 |4,_=>rfl
 |5,_=>rfl
 |6,_=>rfl
 |7,_=>rfl
 |j+8,h=>absurd h (by omega)
theorem aic:∀(n:Fin 3),[Value.int .u8 0,.int .u8 0,.int .u8 0,.int .u8 0,.int .u8 0,.int .u8 0,.int .u8 0,.int .u8 0,.int .u8 0,.int .u8 0,.int .u8 0,.int .u8 0,.int .u8 0,.int .u8 0,.int .u8 0,.int .u8 0]=cu8 (ZP n 0):=λ_=>rfl
theorem agx {W:θ} {b:Nat} (n:Fin 3) (h:Row W b (cu8 (ZP n 8))):Row W b [.int .u8 32,.int .u8 1,.int .u8 13,.int .u8 184,.int .u8 0,.int .u8 ((n:Nat):Int),.int .u8 0,.int .u8 0,.int .u8 0,.int .u8 0,.int .u8 0,.int .u8 0,.int .u8 0,.int .u8 0,.int .u8 0,.int .u8 1]:=by
 rw[agv] at h;exact h
theorem aa3 (l:List Int):(cu8 l).length=l.length:=List.length_map ..
theorem TQ (n:Fin 3) {w:θ} {s:fU} (hs:mQ 1 eI w s (words n)):Aa s w λr0 r1 r2 r3 r4 r5 r6 r7 r8 r9 O R U Y Z aa w'=>((r0,r1,r2,r3,r4,r5,r6,r7,r8,r9,O,R,U,Y,Z,aa,()):T16)=ownT n/\Ext w w':=by
 apply Zz;refine gq λa w1 ra ea z1 f1=>gq λb w2 rb eb z2 f2=> ?_;have hs0:=hs;have ra:=ra.ext f2;have hs:=hs.ext (f1.trans f2);have hlen:s.len=8:=hs.len;have rb:Row w2 b (cu8 (ZP n 0)):=by rw[<- aic n];exact rb
 refine gX (λst W=>∃j:Nat,j<=8/\st.1=(j:Int)/\Row W b (cu8 (ZP n j))/\gW w2 W (·=b)) (λst _=>(8 - st.1).toNat) ⟨0,by omega,rfl,rb,gW.refl _ _⟩ ?_;rintro⟨i,⟨⟩⟩ W ⟨j,hj,hi,rW,fW⟩ next u
 simp only at hi;subst hi;simp -zeta only[];intro J9;by_cases J:(j:Int)<(s.len:Int)
 ·have hj8:j<8:=by omega
  rw[decide_eq_true J,cond_true,decide_eq_true (show (j:Int)<8 by omega)];simp only[J9];rw[cond_true];have I:=adi n j hj8;have ac:mQ 1 eI W s (words n):=hs.fr fW (λc hc _ e=>by
   have:=ady jX (by omega) hs0 hc (by show 0<8;omega);omega)
  refine SlN_ix jX (by omega) ac (by omega) (by rw[toNat_natCast];exact I) λa' hc=> ?_;have hc0:=hc 0 _ rfl;rw[show a'.add 0=a' from rfl] at hc0;have hl16:=agw n ⟨j,by omega⟩;have N:=acM n ⟨j,hj8⟩;simp only at hl16 N;have e2j:ο.wrap (2 * (j:Int))=((2 * j:Nat):Int):=by rw[Α];omega
  simp only[sx,hc0,e2j];rw[Α (n:=((2 * j:Nat):Int)+1) (by omega) (by omega),show ((2 * j:Nat):Int)+1=((2 * j+1:Nat):Int) by omega];simp only[toNat_natCast,Nat.mul_one];refine⟨by decide,by decide,by decide,by decide,by omega,by omega,g_ rW rfl (by rw[aa3,hl16];omega) λw5 r5 f5 z5=> ?_⟩;rw[aa4] at r5;refine⟨by omega,by omega,g_ r5 rfl (by rw[aa3,List.length_set,hl16];omega) λw6 r6 f6 z6=> ?_⟩;rw[aa4,N] at r6;rw[Α];refine u _ _ ⟨j+1,by omega,by simp,r6,(fW.trans (f5 (·=b) rfl) λ_ _ e=>e).trans (f6 (·=b) rfl) λ_ _ e=>e⟩ (by simp only;omega)
 ·rw[decide_eq_false J,cond_false];have:j=8:=by omega
  subst this;simp only[J9];rw[cond_false];have rW:=agx n rW;have raW:=ra.fr fW (by omega);simp only[sx,rW.cell];refine gY raW rfl rfl λw5 r5 f5 z5=> ?_;simp only[d_,f_,gJ,r5.cell];exact⟨rfl,(f1.trans f2).new (S:=λx=>x=b\/x=a) ((fW.mono λ_=>Or.inl).trans (f5 _ (.inr rfl)) λ_ _ e=>e) (by intro x hx h;rcases h with rfl|rfl<;>omega)⟩
end Go.Proofs.CN
namespace Go.Proofs.CN
open Gp
theorem Yi {r0 r1 r2 r3 r4 r5 r6 r7 r8 r9 u I J N O R:Int} {n:Nat} {z:Int} (hz:(n:Int)=z) (h:((r0,r1,r2,r3,r4,r5,r6,r7,r8,r9,u,I,J,N,O,R,()):T16)=ownT n):r0=32/\r1=1/\r2=13/\r3=184/\r4=0/\r5=z/\r6=0/\r7=0/\r8=0/\r9=0/\u=0/\I=0/\J=0/\N=0/\O=0/\R=1:=by
 subst hz;simp only[ownT,Prod.mk.injEq,and_true] at h;exact h
structure Yv (w w':θ) (bs bp:Nat):Prop where
 rs:Row w' bs (.int .u8 32:: .int .u8 1:: .int .u8 13:: .int .u8 184:: .int .u8 0:: .int .u8 1:: .int .u8 0:: .int .u8 0:: .int .u8 0:: .int .u8 0:: .int .u8 0:: .int .u8 0:: .int .u8 0:: .int .u8 0:: .int .u8 0:: .int .u8 1:: .int .u8 32:: .int .u8 1:: .int .u8 13:: .int .u8 184:: .int .u8 0:: .int .u8 2:: .int .u8 0:: .int .u8 0:: .int .u8 0:: .int .u8 0:: .int .u8 0:: .int .u8 0:: .int .u8 0:: .int .u8 0:: .int .u8 0:: .int .u8 1::[])
 rp:Row w' bp [Β 3325256705]
 hs:w.heap.size<=bs
 hp:w.heap.size<=bp
 ne:bs≠bp
 ext:Ext w w'
abbrev aii (w w':θ) (p0 p1 p2 p3 p4 p5 p6 p7 p8 p9 p10 p11 p12 p13 p14 p15:Int) (sw po:fU) (n18 n19 n20 n21 n22 n23 n24 n25 n26 n27 n28 n29 n30 n31 n32 n33 n34:Int) (st:fU):Prop:=∃bs bp,Yv w w' bs bp/\p0=32/\p1=1/\p2=13/\p3=184/\p4=0/\p5=0/\p6=0/\p7=0/\p8=0/\p9=0/\p10=0/\p11=0/\p12=0/\p13=0/\p14=0/\p15=1/\sw=⟨some ⟨bs,0,none⟩,2,2⟩/\po=⟨some ⟨bp,0,none⟩,1,1⟩/\n18=1024/\n19=65535/\n20=16/\n21=64/\n22=128/\n23=8/\n24=1048576/\n25=1500/\n26=1500/\n27=64/\n28=0/\n29=2/\n30=300/\n31=7440/\n32=240/\n33=60/\n34=60/\st=⟨none,0,0⟩
set_option maxHeartbeats 4000000 in
theorem refbase_ok (w:θ):yU w λp0 p1 p2 p3 p4 p5 p6 p7 p8 p9 p10 p11 p12 p13 p14 p15 sw po Y Z aa ac af ag ah ai aj ak am an ao aq ar au av st w'=>aii w w' p0 p1 p2 p3 p4 p5 p6 p7 p8 p9 p10 p11 p12 p13 p14 p15 sw po Y Z aa ac af ag ah ai aj ak am an ao aq ar au av st:=by
 apply Vb;refine gq λa w1 ra ea z1 f1=> ?_;refine gq λb0 v0 rb0 eb0 y0 g0=> ?_;have hb0:mQ 1 eI v0 ⟨some ⟨b0,0,none⟩,8,8⟩ (words 0):=(iV.row (xs:=words 0) (f:=eI) (n:=1) rb0).sl jX (by omega);refine cmS14 (TQ 0 hb0) ?_;rintro q0 q1 q2 q3 q4 q5 q6 q7 q8 q9 I J N O R U u0 ⟨hq,h0⟩;obtain⟨rfl,rfl,rfl,rfl,rfl,rfl,rfl,rfl,rfl,rfl,rfl,rfl,rfl,rfl,rfl,rfl⟩:=Yi (z:=0) rfl hq;refine gq λb1 v1 rb1 eb1 y1 g1=> ?_;have hb1:mQ 1 eI v1 ⟨some ⟨b1,0,none⟩,8,8⟩ (words 1):=(iV.row (xs:=words 1) (f:=eI) (n:=1) rb1).sl jX (by omega);refine cmS14 (TQ 1 hb1) ?_;rintro q0 q1 q2 q3 q4 q5 q6 q7 q8 q9 I J N O R U u1 ⟨hq,h1⟩;obtain⟨rfl,rfl,rfl,rfl,rfl,rfl,rfl,rfl,rfl,rfl,rfl,rfl,rfl,rfl,rfl,rfl⟩:=Yi (z:=1) rfl hq;refine gq λb2 v2 rb2 eb2 y2 g2=> ?_;have hb2:mQ 1 eI v2 ⟨some ⟨b2,0,none⟩,8,8⟩ (words 2):=(iV.row (xs:=words 2) (f:=eI) (n:=1) rb2).sl jX (by omega);refine cmS14 (TQ 2 hb2) ?_;rintro q0 q1 q2 q3 q4 q5 q6 q7 q8 q9 I J N O R U u2 ⟨hq,h2⟩;obtain⟨rfl,rfl,rfl,rfl,rfl,rfl,rfl,rfl,rfl,rfl,rfl,rfl,rfl,rfl,rfl,rfl⟩:=Yi (z:=2) rfl hq;have g0':=h0.size;have g1':=h1.size;have g2':=h2.size;refine gq λbs w5 rs es z5 f5=>gq λbp w6 rp ep z6 f6=> ?_;have fa:=(((((g0.trans h0).trans g1).trans h1).trans g2).trans h2);have ra:=(((ra.ext fa).ext f5).ext f6);refine gY ra rfl rfl λu r t y=> ?_;have r:Row u a (.int .u8 32:: .int .u8 1:: .int .u8 13:: .int .u8 184:: .int .u8 0:: .int .u8 0:: .int .u8 0:: .int .u8 0:: .int .u8 0:: .int .u8 0:: .int .u8 0:: .int .u8 0:: .int .u8 0:: .int .u8 0:: .int .u8 0:: .int .u8 1:: .slice (some ⟨bs,0,none⟩) 2 2:: .slice (some ⟨bp,0,none⟩) 1 1:: Β 1024:: Β 65535:: Β 16:: Β 64:: Β 128:: Β 8:: Β 1048576:: Β 1500:: Β 1500:: Β 64:: Β 0:: Β 2:: Β 300:: Β 7440:: Β 240:: Β 60:: Β 60:: .slice none 0 0::[]):=r;simp only[sx,r.cell];have rs:Row u bs _:=(rs.ext f6).fr (t (·=a) rfl) (by omega);have rp:Row u bp _:=rp.fr (t (·=a) rfl) (by omega);have fz:Ext w u:=(((f1.trans fa).trans f5).trans f6).new (t (·=a) rfl) (by intro x hx h;omega);exact⟨bs,bp,⟨rs,rp,by omega,by omega,by omega,fz⟩,rfl,rfl,rfl,rfl,rfl,rfl,rfl,rfl,rfl,rfl,rfl,rfl,rfl,rfl,rfl,rfl,rfl,rfl,rfl,rfl,rfl,rfl,rfl,rfl,rfl,rfl,rfl,rfl,rfl,rfl,rfl,rfl,rfl,rfl,rfl,rfl⟩
end Go.Proofs.CN
namespace Go.Proofs.CN
open Gp
theorem base_good:OkP (ownT 0) ((2:Nat):Int) ((1:Nat):Int) ((0:Nat):Int) 1024 65535 16 64 128 8 1048576 1500 1500 64 0 2 300 7440 240 60 60 2 [ownT 1,ownT 2] [3325256705] []:=⟨by decide,by decide,by decide⟩
theorem base_fine:fineP (ownT 0) [ownT 1,ownT 2] [3325256705] [] 2 16:=⟨by decide,by decide,by decide,by decide,λk hk=>by simp[cnt]⟩
theorem Yv.sl {w w':θ} {bs bp:Nat} (h:Yv w w' bs bp):mQ 16 e16 w' ⟨some ⟨bs,0,none⟩,2,2⟩ [ownT 1,ownT 2]:=(iV.row (xs:=[ownT 1,ownT 2]) (f:=e16) (n:=16) h.rs).sl e16_len (by omega)
theorem Yv.pl {w w':θ} {bs bp:Nat} (h:Yv w w' bs bp):mQ 1 eI w' ⟨some ⟨bp,0,none⟩,1,1⟩ [3325256705]:=(iV.row (xs:=[(3325256705:Int)]) (f:=eI) (n:=1) h.rp).sl jX (by omega)
end Go.Proofs.CN
namespace Go.Proofs.CN
end Go.Proofs.CN
end
section
namespace Gp.PoolN
def stepL (hi a by_:Int):List Int:=(List.range ((hi - a) / by_+1).toNat).map λi:Nat=>a+by_ * (i:Int)
theorem lt_iff {hi a b:Int} (hb:0<b) (i:Nat):i<((hi - a) / b+1).toNat↔a+b * (i:Int)<=hi:=by
 have h:((i:Int)<=(hi - a) / b)↔(i:Int) * b<=hi - a:=Int.le_ediv_iff_mul_le hb;rw[Int.mul_comm b];omega
theorem stepL_get {hi a b:Int} (hb:0<b) (i:Nat):(stepL hi a b)[i]? =if a+b * (i:Int)<=hi then some (a+b * (i:Int)) else none:=by
 unfold stepL;rw[getElem?_map];by_cases h:a+b * (i:Int)<=hi
 ·rw[if_pos h,List.getElem?_range ((lt_iff hb i).2 h)];rfl
 ·rw[if_neg h,List.getElem?_eq_none];rfl;rw[length_range];have:=(lt_iff (hi:=hi) (a:=a) hb i).1;omega
def alike (lo want:Int):Int:=lo+(lo+want) % 2
def cls (want:Int):Int×Int:=if want<1024 then (0,1023) else (1024,65535)
def oth (want:Int):Int×Int:=if want<1024 then (1024,65535) else (0,1023)
end Gp.PoolN
end
