import Derived.Test.YtlpphhjbjjdhfaaGreatDoorW8
open List (map_take)
set_option maxRecDepth 100000
namespace Gp.Cfg
theorem vV {α:Type} {l:List α}:l.Nodup↔∀(i:Nat) x,l[i]? =some x->x∉l.take i:=by
 unfold List.Nodup;rw[amb];constructor
 ·intro h i x hx hm;obtain⟨hi,rfl⟩:=aeK.1 hx;obtain⟨j,hj,he⟩:=amv.1 hm
  grind
 ·intro h i j hi hj hlt he;exact h j l[j] (ade hj) (amv.2 ⟨i,by omega,he⟩)
theorem abQ {α:Type} {l:List α} {a:α}:(l++[a]).Nodup↔l.Nodup/\a∉l:=by
 grind
theorem IQ {α β:Type} {f:α->β} {l:List α}:(l.map f).Nodup↔∀(i:Nat) x,l[i]? =some x->∀y∈l.take i,f y≠f x:=by
 rw[vV];constructor
 ·intro h i x hx y hy he;refine h i (f x) (by simp_all) ?_;rw[<- map_take]
  grind
 ·intro h i x hx hm;rw[aiN] at hx
  cases hl:l[i]? with
  |none=>simp_all
  |some z=>
   rw[hl] at hx;simp only[ag4,agP] at hx;subst hx;rw[<- map_take] at hm
   grind
theorem take_snoc {α:Type} {l:List α} {i:Nat} {x:α} (h:l[i]? =some x):l.take (i+1)=l.take i++[x]:=by
 rw[aly,h];rfl
theorem adA {α:Type} (sw:α->Int) {l:List α} {n:Nat} {q:Int} (hq:1<=q) (hr:∀x∈l,0<=sw x/\sw x<(n:Int)):
  (∀k:Nat,k<n->((l.countP λy=>sw y==(k:Int):Nat):Int)<=q)↔∀(i:Nat) x,l[i]? =some x->1+(((l.take i).countP λy=>sw y==sw x:Nat):Int)<=q:=by
 constructor
 ·intro h i x hx;have hm:=hr x (akK hx);have:=h (sw x).toNat (by omega);rw[show (((sw x).toNat:Nat):Int)=sw x by omega] at this;have hs:(l.take (i+1)).countP (λy=>sw y==sw x)<=l.countP λy=>sw y==sw x:=(List.take_sublist _ _).countP_le;rw[take_snoc hx,amN] at hs
  grind
 ·intro h k _;have key:∀m:Nat,m<=l.length->(((l.take m).countP λy=>sw y==(k:Int):Nat):Int)<=q:=by
   intro m
   induction m with
   |zero=>grind
   |succ m ih=>
    intro hm;have hx:=ade (show m<l.length by omega);rw[take_snoc hx,amN,List.countP_singleton]
    grind
  have:=key l.length (ai8 _)
  simp_all
structure Fine {α β γ:Type} (fi:α->β) (fo:α->γ) (sw:α->Int) (q:Int) (l:List α) (i:Nat) (x:α):Prop where
 one:∀y∈l.take i,fi y≠fi x/\fo y≠fo x
 few:1+(((l.take i).countP λy=>sw y==sw x:Nat):Int)<=q
theorem Ϛ {α β γ:Type} {fi:α->β} {fo:α->γ} (sw:α->Int) {l:List α} {n:Nat} {q:Int} (hq:1<=q) (hr:∀x∈l,0<=sw x/\sw x<(n:Int)):
  (∀(i:Nat) x,l[i]? =some x->Fine fi fo sw q l i x)↔((l.map fi).Nodup/\(l.map fo).Nodup/\∀k:Nat,k<n->((l.countP λy=>sw y==(k:Int):Nat):Int)<=q):=by
 rw[IQ,IQ,adA sw hq hr];constructor
 ·intro h;exact⟨λi x hx y hy=>((h i x hx).one y hy).1,λi x hx y hy=>((h i x hx).one y hy).2,λi x hx=>(h i x hx).few⟩
 ·rintro⟨h1,h2,h3⟩ i x hx;exact⟨λy hy=>⟨h1 i x hx y hy,h2 i x hx y hy⟩,h3 i x hx⟩
end Gp.Cfg
namespace Go.Proofs.CN
open Gp
abbrev eI (x:Int):List Value:=[Β x]
theorem jr (x:Int):(eI x).length=1:=rfl
theorem SlN_ix {α:Type} {n:Nat} {f:α->List Value} {w:θ} {s:fU} {xs:List α} (hn:∀x,(f x).length=n) (hn0:0<n) (h:lK n f w s xs) {i:Int} {K:Addr->Prop} {x:α} (h0:0<=i) (hx:xs[i.toNat]? =some x)
  (hK:∀a:Addr,(∀j v,(f x)[j]? =some v->w.cell? (a.add j)=some v)->K a):iE s n i K:=by
 obtain⟨a,ha,hc⟩:=h.at_ hn hn0 hx;have hlt:=(aeK.1 hx).1;obtain⟨sa,sl,sc⟩:=s;simp only at ha;subst ha;have hl:sl=xs.length:=h.len;refine(Az ..).2 ⟨h0,by omega,hK _ λj v hj=> ?_⟩;rw[<- hc j v hj];congr 1;obtain⟨b,o,t⟩:=a;unfold Addr.add;by_cases h1:i.toNat * n=0<;>by_cases h2:j=0<;>simp[h1,h2,alD]
def idx {α:Type} (xs:List α) (x:α) (r:Int):Prop:=(∃i:Nat,r=(i:Int)/\xs[i]? =some x/\x∉xs.take i)\/(r= -1/\x∉xs)
theorem ajd {α:Type} {xs:List α} {x:α} {r:Int} (h:idx xs x r):r>=0↔x∈xs:=by
 rcases h with ⟨i,rfl,h1,_⟩|⟨rfl,h1⟩
 ·grind
 simp_all
theorem afR {w:θ} {s:fU} {xs:List Int} (hs:lK 1 eI w s xs) (hl:s.len<=2^62) (x:Int):nC s x w λr w'=>idx xs x r/\w'=w:=by
 apply wo;refine gI (λst W=>∃j:Nat,j<=xs.length/\st.1=(j:Int)/\W=w/\x∉xs.take j) (λst _=>(s.len - st.1).toNat) ⟨0,by omega,rfl,rfl,by simp⟩ ?_;rintro⟨i,⟨⟩⟩ W ⟨j,hj,hi,hw,hm⟩ next h
 simp only at hi;subst hi;subst hw;have hlen:=hs.len;by_cases u:(j:Int)<(s.len:Int)
 ·simp only[u,ace,aaU];have hx:=ade (show j<xs.length by omega);refine SlN_ix jr (by omega) hs (by omega) (by rw[ab3];exact hx) λa hc=> ?_;have c0:=hc 0 _ rfl;rw[show a.add 0=a from rfl] at c0;simp only[sx,c0];by_cases he:x=xs[j]
  ·rw[show (x==xs[j])=true by simp_all,aaU];exact⟨.inl ⟨j,rfl,by simp_all,hm⟩,by trivial⟩
  ·rw[show (x==xs[j])=false by simp_all,aaT];rw[Α];refine h _ _ ⟨j+1,by omega,by simp,rfl,?_⟩ (by omega);rw[Gp.Cfg.take_snoc hx,akX,akU]
   simp_all
 ·simp only[u,acQ,aaT];refine⟨.inr ⟨rfl,?_⟩,by trivial⟩
  grind
theorem Dl {w:θ} {s:fU} {xs:List Int} (hs:lK 1 eI w s xs) (hl:s.len<=2^62) (x:Int):iR s x w λr w'=>r=decide (x∈xs)/\w'=w:=by
 apply sS;refine cmS1 (afR hs hl x) ?_;rintro r w' ⟨h,hw⟩;exact⟨by simp only[amc];exact ajd h,hw⟩
def mV (a:Int):Prop:=16777216<=a/\a<3758096384/\a / 16777216≠127
instance (a:Int):Decidable (mV a):=inferInstanceAs (Decidable (_/\_/\_))
theorem XM {a:Int} (h:0<=a) (h2:a<4294967296):acN a↔mV a:=by
 obtain⟨n,rfl⟩:∃n:Nat,a=(n:Int):=⟨a.toNat,by omega⟩;unfold acN mV;rw[show (0:Int)=((0:Nat):Int) from rfl,show (2130706432:Int)=((2130706432:Nat):Int) from rfl,show (3758096384:Int)=((3758096384:Nat):Int) from rfl,
  show (24:Int)=((24:Nat):Int) from rfl,show (29:Int)=((29:Nat):Int) from rfl,DC (by omega),DC (by omega),DC (by omega),DC (by omega),DC (by omega)]
 grind
theorem Ar (a:Int) (w:θ):r_ a w λr w'=>r=decide (mV a)/\Ext w w':=by
 by_cases hA:acN a
 ·refine cmS0 (ahn hA w) ?_;rintro _ w' ⟨rfl,hf⟩;exact⟨(aeJ ((XM hA.1 hA.2.1).1 hA)).symm,hf⟩
 apply Ov;refine cmS0 (zG a _) ?_;rintro _ w' ⟨rfl,hw⟩;subst hw;by_cases hr:0<=a/\a<4294967296
 ·have hF:¬mV a:=λh=>hA ((XM hr.1 hr.2).2 h);simp only[hr,ali,ace,adp,aaT];refine gy λt w1 r1 e1 z1 f1=> ?_;refine cmS0 (K:=λr w2=>r=true/\Ext w1 w2) ?_ ?_
  ·apply QH;refine gI (λst W=>∃j:Nat,j<=3/\st.1=(j:Int)/\Ext w1 W/\(0<j->(jE .i64 a 24==jE .i64 0 24)=false)/\(1<j->(jE .i64 a 24==jE .i64 2130706432 24)=false)/\(2<j->(jE .i64 a 29==jE .i64 3758096384 29)=false)) (λst _=>(3 - st.1).toNat)
    ⟨0,by omega,rfl,Ext.refl _,by omega,by omega,by omega⟩ ?_
   rintro⟨i,⟨⟩⟩ W ⟨j,hj,hi,hx,g1,g2,g3⟩ next u
   simp only at hi;subst hi;have r:=r1.ext hx;by_cases I:j<3
   ·have hl:((j:Int)<((3:Nat):Int)):=by omega
    have J:∃x y:Int,0<=y/\y<=32/\W.cell? ⟨t,j * 2,none⟩=some (Β x)/\W.cell? ⟨t,j * 2+1,none⟩=some (Β y)/\
      (((jE .i64 a (32 - y)==jE .i64 x (32 - y))=false)->(0<j+1->(jE .i64 a 24==jE .i64 0 24)=false)/\(1<j+1->(jE .i64 a 24==jE .i64 2130706432 24)=false)/\(2<j+1->(jE .i64 a 29==jE .i64 3758096384 29)=false)):=by
     match j,I,g1,g2,g3 with
     |0,_,_,_,_=>exact⟨0,8,by omega,by omega,r.cell 0,r.cell 1,λh=>⟨λ_=>h,by omega,by omega⟩⟩
     |1,_,g1,_,_=>exact⟨2130706432,8,by omega,by omega,r.cell 2,r.cell 3,λh=>⟨λ_=>g1 (by omega),λ_=>h,by omega⟩⟩
     |2,_,g1,g2,_=>exact⟨3758096384,3,by omega,by omega,r.cell 4,r.cell 5,λh=>⟨λ_=>g1 (by omega),λ_=>g2 (by omega),λ_=>h⟩⟩
    obtain⟨x,y,hy,hy2,c0,c1,hg⟩:=J;simp only[sx,hl,ace,ab3,c0,c1];refine⟨by omega,by trivial,?_⟩;refine DJ rfl rfl λb w3 r3 e3 z3 x3=> ?_;simp only[sx,r3.cell];refine cmS0 (Υ hy hy2 _) ?_;rintro _ w4 ⟨rfl,x4⟩;by_cases hs:(jE .i64 a (32 - y)==jE .i64 x (32 - y))=true
    ·simp only[hs,hr,ali,ace,Bool.and_true,aaU];exact⟨by trivial,(hx.trans x3).trans x4⟩
    ·have hs:(jE .i64 a (32 - y)==jE .i64 x (32 - y))=false:=by simp_all
     obtain⟨g1,g2,g3⟩:=hg hs;simp only[hs,Bool.and_false,aaT];rw[Α];exact u _ _ ⟨j+1,by omega,by simp,(hx.trans x3).trans x4,g1,g2,g3⟩ (by omega)
   ·exact absurd ⟨hr.1,hr.2,g1 (by omega),g2 (by omega),g3 (by omega)⟩ hA
  ·rintro _ w2 ⟨rfl,f2⟩;exact⟨by simp[hF],f1.trans f2⟩
 ·simp only[hr,acQ,afa,aaU];have hF:¬mV a:=λh=>hr (by unfold mV at h;omega);exact⟨by simp[hF],Ext.refl _⟩
theorem QJ (a:Int) (w:θ):Af a w λr w'=>r=decide (mV a)/\w'=w:=by
 apply WT;simp -zeta only;intro J;have hJ:∀b,b=decide (mV a)->J b:=λb hb=>⟨hb,by trivial⟩;clear_value J;by_cases h1:a>=16777216
 ·by_cases h2:a<3758096384
  ·simp only[h1,h2,ace,aaU];refine⟨by decide,hJ _ ?_⟩;rw[amd (by omega),Α];unfold mV;by_cases h3:a / 16777216=127<;>simp[h1,h2,h3]
  ·simp only[h1,h2,ace,acQ,aaU,aaT];exact hJ _ (by unfold mV;simp[h2])
 ·simp only[h1,acQ,aaT];exact hJ _ (by unfold mV;simp[h1])
theorem yY (n lo hi:Int) (w:θ):kN n lo hi w λr w'=>r=decide (lo<=n/\n<=hi)/\Ext w w':=by
 apply MZ;refine gy λt w1 r1 e1 z1 f1=> ?_;simp only[sx,r1.cell];by_cases h:lo<=n
 ·simp only[h,ace,aaU,afu];exact f1
 ·simp only[h,acQ,aaT,false_and];trivial
theorem acP (n lo hi:Int) (w:θ):iO n lo hi w λr w'=>r=decide (lo<=n/\n<=hi)/\w'=w:=by
 apply Ϻ;by_cases h:lo<=n
 ·have h':=h;simp only[h,ace,aaU,afu,ali]
 ·have h':=h;simp only[h,acQ,aaT,false_and,ali]
def ϩ (m:Int):Prop:=m=0\/(536<=m/\m<=65535)
instance (m:Int):Decidable (ϩ m):=inferInstanceAs (Decidable (_\/_))
theorem agC (m:Int) (w:θ):Bg m w λr w'=>r=decide (ϩ m)/\Ext w w':=by
 apply Rn;by_cases h:m=0
 ·subst h;simp only[amC,aaU];exact⟨by simp[ϩ],Ext.refl _⟩
 ·rw[show (m==0)=false by simpa using h];simp only[aaT];refine cmS0 (yY _ _ _ _) ?_;rintro _ w' ⟨rfl,hf⟩;exact⟨by simp[ϩ,h],hf⟩
theorem ab2 (n:Int) (w:θ):Bf n w λr w'=>r=decide (n=1\/n=6\/n=17)/\Ext w w':=by
 apply Rl;refine gy λt w1 r1 e1 z1 f1=> ?_;have hs:=(iQ.row (xs:=[(1:Int),6,17]) r1).sl jr (by omega);refine cmS0 (Dl hs (by simp) n) ?_
 grind
end Go.Proofs.CN
namespace Go.Proofs.CN
open Gp
abbrev K16:List Kind:=[.int .u8,.int .u8,.int .u8,.int .u8,.int .u8,.int .u8,.int .u8,.int .u8,.int .u8,.int .u8,.int .u8,.int .u8,.int .u8,.int .u8,.int .u8,.int .u8]
abbrev K7:List Kind:=[.int .i64,.int .i64,.int .i64,.int .i64,.int .i64,.int .i64,.int .i64]
abbrev K4:List Kind:=[.int .i64,.int .i64,.int .i64,.int .i64]
abbrev K3:List Kind:=[.int .i64,.int .i64,.int .i64]
abbrev T16:=Int×Int×Int×Int×Int×Int×Int×Int×Int×Int×Int×Int×Int×Int×Int×Int×Unit
abbrev T7:=Int×Int×Int×Int×Int×Int×Int×Unit
abbrev T4:=Int×Int×Int×Int×Unit
abbrev T3:=Int×Int×Int×Unit
abbrev e16 (x:T16):List Value:=YA K16 x
abbrev e7 (x:T7):List Value:=YA K7 x
abbrev e4 (x:T4):List Value:=YA K4 x
abbrev e3 (x:T3):List Value:=YA K3 x
theorem qE (x:T16):(e16 x).length=16:=rfl
theorem wR (x:T7):(e7 x).length=7:=rfl
def VK {α:Type} (v:Value) (ev:α->Value) (sh:List Shape) (C:b_) (r:α->Value):Prop:=
 ∀x W (K:Value->b_),C W->(∀W',Ext W W'->K (r x) W')->jy υ sh v [ev x] W K
theorem ahp {w:θ} {s:fU} {xs:List Int} {v:Value} {p:Int->Bool} {C:b_} (hs:lK 1 eI w s xs) (hl:s.len<=2^62) (hp:VK v (λx:Int=>Β x) [.one .bool] C λx=> .bool (p x)) (hC:∀W,Ext w W->C W):
  jQ s v w λr w'=>(r>=0↔xs.any p=true)/\Ext w w':=by
 apply rU;refine gI (λst W=>∃j:Nat,j<=xs.length/\st.1=(j:Int)/\Ext w W/\(xs.take j).any p=false) (λst _=>(s.len - st.1).toNat) ⟨0,by omega,rfl,Ext.refl _,by simp⟩ ?_;rintro⟨i,⟨⟩⟩ W ⟨j,hj,hi,hw,hm⟩ next h
 simp only at hi;subst hi;have hlen:=hs.len;by_cases I:(j:Int)<(s.len:Int)
 ·simp only[I,ace,aaU];have hx:=ade (show j<xs.length by omega);have J:=Gp.Cfg.take_snoc hx;have u:=akI (show j<xs.length by omega);generalize xs[j]=x at hx J u;refine SlN_ix jr (by omega) (hs.ext hw) (by omega) (by rw[ab3];exact hx) λa hc=> ?_;have hp:=hp x;dsimp only at hp;by_cases he:p x=true
  ·rw[he] at hp;obtain x:=x;have c0:=hc 0 _ rfl;rw[show a.add 0=a from rfl] at c0;simp only[sx,c0];refine hp W _ (hC W hw) λW' hf=>⟨true,rfl,?_⟩;simp only[aaU];exact⟨⟨λ_=>amO.2 ⟨_,u,he⟩,λ_=>by omega⟩,hw.trans hf⟩
  ·have he:p x=false:=by simp_all
   rw[he] at hp;obtain x:=x;have c0:=hc 0 _ rfl;rw[show a.add 0=a from rfl] at c0;simp only[sx,c0];refine hp W _ (hC W hw) λW' hf=>⟨false,rfl,?_⟩;simp only[aaT];rw[Α];refine h _ _ ⟨j+1,by omega,by simp,hw.trans hf,?_⟩ (by omega)
   simp_all
 ·simp only[I,acQ,aaT]
  grind
theorem TM {w:θ} {s:fU} {xs:List Int} {v:Value} {p:Int->Bool} {C:b_} (hs:lK 1 eI w s xs) (hl:s.len<=2^62) (hp:VK v (λx:Int=>Β x) [.one .bool] C λx=> .bool (p x)) (hC:∀W,Ext w W->C W):
  jV s v w λr w'=>r=xs.any p/\Ext w w':=by
 apply yg;refine cmS1 (ahp hs hl hp hC) ?_
 grind
theorem afQ {w:θ} {s:fU} {xs:List T16} {v:Value} {p:T16->Bool} {C:b_} (hs:lK 16 e16 w s xs) (hl:s.len<=2^62) (hp:VK v (λx:T16=>Value.agg ⟨e16 x⟩) [.one .bool] C λx=> .bool (p x)) (hC:∀W,Ext w W->C W):
  kH s v w λr w'=>(r>=0↔xs.any p=true)/\Ext w w':=by
 apply vw;refine gI (λst W=>∃j:Nat,j<=xs.length/\st.1=(j:Int)/\Ext w W/\(xs.take j).any p=false) (λst _=>(s.len - st.1).toNat) ⟨0,by omega,rfl,Ext.refl _,by simp⟩ ?_;rintro⟨i,⟨⟩⟩ W ⟨j,hj,hi,hw,hm⟩ next h
 simp only at hi;subst hi;have hlen:=hs.len;by_cases Y:(j:Int)<(s.len:Int)
 ·simp only[Y,ace,aaU];have hx:=ade (show j<xs.length by omega);have Z:=Gp.Cfg.take_snoc hx;have u:=akI (show j<xs.length by omega);generalize xs[j]=x at hx Z u;refine SlN_ix qE (by omega) (hs.ext hw) (by omega) (by rw[ab3];exact hx) λa hc=> ?_;have hp:=hp x;dsimp only at hp;by_cases he:p x=true
  ·rw[he] at hp;obtain⟨x0,x1,x2,x3,x4,x5,x6,x7,x8,x9,aa,ab,ac,ae,af,ag,⟨⟩⟩:=x;have c0:=hc 0 _ rfl;have c1:=hc 1 _ rfl;have c2:=hc 2 _ rfl;have c3:=hc 3 _ rfl;have c4:=hc 4 _ rfl;have c5:=hc 5 _ rfl;have c6:=hc 6 _ rfl;have c7:=hc 7 _ rfl;have c8:=hc 8 _ rfl;have c9:=hc 9 _ rfl;have I:=hc 10 _ rfl;have J:=hc 11 _ rfl;have N:=hc 12 _ rfl;have O:=hc 13 _ rfl;have R:=hc 14 _ rfl;have U:=hc 15 _ rfl
   skip
   simp only[sx,c0,c1,c2,c3,c4,c5,c6,c7,c8,c9,I,J,N,O,R,U];refine hp W _ (hC W hw) λW' hf=>⟨true,rfl,?_⟩;simp only[aaU];exact⟨⟨λ_=>amO.2 ⟨_,u,he⟩,λ_=>by omega⟩,hw.trans hf⟩
  ·have he:p x=false:=by simp_all
   rw[he] at hp;obtain⟨x0,x1,x2,x3,x4,x5,x6,x7,x8,x9,aa,ab,ac,ae,af,ag,⟨⟩⟩:=x;have c0:=hc 0 _ rfl;have c1:=hc 1 _ rfl;have c2:=hc 2 _ rfl;have c3:=hc 3 _ rfl;have c4:=hc 4 _ rfl;have c5:=hc 5 _ rfl;have c6:=hc 6 _ rfl;have c7:=hc 7 _ rfl;have c8:=hc 8 _ rfl;have c9:=hc 9 _ rfl;have I:=hc 10 _ rfl;have J:=hc 11 _ rfl;have N:=hc 12 _ rfl;have O:=hc 13 _ rfl;have R:=hc 14 _ rfl;have U:=hc 15 _ rfl
   skip
   simp only[sx,c0,c1,c2,c3,c4,c5,c6,c7,c8,c9,I,J,N,O,R,U];refine hp W _ (hC W hw) λW' hf=>⟨false,rfl,?_⟩;simp only[aaT];rw[Α];refine h _ _ ⟨j+1,by omega,by simp,hw.trans hf,?_⟩ (by omega)
   simp_all
 ·simp only[Y,acQ,aaT]
  grind
theorem ό {w:θ} {s:fU} {xs:List T16} {v:Value} {p:T16->Bool} {C:b_} (hs:lK 16 e16 w s xs) (hl:s.len<=2^62) (hp:VK v (λx:T16=>Value.agg ⟨e16 x⟩) [.one .bool] C λx=> .bool (p x)) (hC:∀W,Ext w W->C W):
  jS s v w λr w'=>r=xs.any p/\Ext w w':=by
 apply sQ;refine cmS1 (afQ hs hl hp hC) ?_
 grind
theorem ahq {w:θ} {s:fU} {xs:List T7} {v:Value} {p:T7->Bool} {C:b_} (hs:lK 7 e7 w s xs) (hl:s.len<=2^62) (hp:VK v (λx:T7=>Value.agg ⟨e7 x⟩) [.one .bool] C λx=> .bool (p x)) (hC:∀W,Ext w W->C W):
  jJ s v w λr w'=>(r>=0↔xs.any p=true)/\Ext w w':=by
 apply qP;refine gI (λst W=>∃j:Nat,j<=xs.length/\st.1=(j:Int)/\Ext w W/\(xs.take j).any p=false) (λst _=>(s.len - st.1).toNat) ⟨0,by omega,rfl,Ext.refl _,by simp⟩ ?_;rintro⟨i,⟨⟩⟩ W ⟨j,hj,hi,hw,hm⟩ next h
 simp only at hi;subst hi;have hlen:=hs.len;by_cases I:(j:Int)<(s.len:Int)
 ·simp only[I,ace,aaU];have hx:=ade (show j<xs.length by omega);have J:=Gp.Cfg.take_snoc hx;have u:=akI (show j<xs.length by omega);generalize xs[j]=x at hx J u;refine SlN_ix wR (by omega) (hs.ext hw) (by omega) (by rw[ab3];exact hx) λa hc=> ?_;have hp:=hp x;dsimp only at hp;by_cases he:p x=true
  ·rw[he] at hp;obtain⟨x0,x1,x2,x3,x4,x5,x6,⟨⟩⟩:=x;have c0:=hc 0 _ rfl;have c1:=hc 1 _ rfl;have c2:=hc 2 _ rfl;have c3:=hc 3 _ rfl;have c4:=hc 4 _ rfl;have c5:=hc 5 _ rfl;have c6:=hc 6 _ rfl
   skip
   simp only[sx,c0,c1,c2,c3,c4,c5,c6];refine hp W _ (hC W hw) λW' hf=>⟨true,rfl,?_⟩;simp only[aaU];exact⟨⟨λ_=>amO.2 ⟨_,u,he⟩,λ_=>by omega⟩,hw.trans hf⟩
  ·have he:p x=false:=by simp_all
   rw[he] at hp;obtain⟨x0,x1,x2,x3,x4,x5,x6,⟨⟩⟩:=x;have c0:=hc 0 _ rfl;have c1:=hc 1 _ rfl;have c2:=hc 2 _ rfl;have c3:=hc 3 _ rfl;have c4:=hc 4 _ rfl;have c5:=hc 5 _ rfl;have c6:=hc 6 _ rfl
   skip
   simp only[sx,c0,c1,c2,c3,c4,c5,c6];refine hp W _ (hC W hw) λW' hf=>⟨false,rfl,?_⟩;simp only[aaT];rw[Α];refine h _ _ ⟨j+1,by omega,by simp,hw.trans hf,?_⟩ (by omega)
   simp_all
 ·simp only[I,acQ,aaT]
  grind
theorem abh {w:θ} {s:fU} {xs:List T7} {v:Value} {p:T7->Bool} {C:b_} (hs:lK 7 e7 w s xs) (hl:s.len<=2^62) (hp:VK v (λx:T7=>Value.agg ⟨e7 x⟩) [.one .bool] C λx=> .bool (p x)) (hC:∀W,Ext w W->C W):
  jq s v w λr w'=>r=xs.any p/\Ext w w':=by
 apply pR;refine cmS1 (ahq hs hl hp hC) ?_
 grind
end Go.Proofs.CN
namespace Go.Proofs.CN
open Gp
instance :DecidableEq T16:=(@instDecidableEqProd Int _ inferInstance (@instDecidableEqProd Int _ inferInstance (@instDecidableEqProd Int _ inferInstance (@instDecidableEqProd Int _ inferInstance (@instDecidableEqProd Int _ inferInstance (@instDecidableEqProd Int _ inferInstance (@instDecidableEqProd Int _ inferInstance (@instDecidableEqProd Int _ inferInstance (@instDecidableEqProd Int _ inferInstance (@instDecidableEqProd Int _ inferInstance (@instDecidableEqProd Int _ inferInstance (@instDecidableEqProd Int _ inferInstance (@instDecidableEqProd Int _ inferInstance (@instDecidableEqProd Int _ inferInstance (@instDecidableEqProd Int _ inferInstance (@instDecidableEqProd Int _ inferInstance inferInstance))))))))))))))))
instance :DecidableEq T7:=(@instDecidableEqProd Int _ inferInstance (@instDecidableEqProd Int _ inferInstance (@instDecidableEqProd Int _ inferInstance (@instDecidableEqProd Int _ inferInstance (@instDecidableEqProd Int _ inferInstance (@instDecidableEqProd Int _ inferInstance (@instDecidableEqProd Int _ inferInstance inferInstance)))))))
instance :DecidableEq T4:=(@instDecidableEqProd Int _ inferInstance (@instDecidableEqProd Int _ inferInstance (@instDecidableEqProd Int _ inferInstance (@instDecidableEqProd Int _ inferInstance inferInstance))))
instance :DecidableEq T3:=(@instDecidableEqProd Int _ inferInstance (@instDecidableEqProd Int _ inferInstance (@instDecidableEqProd Int _ inferInstance inferInstance)))
theorem akk (a b:T16):EZ υ 16 23 (.agg ⟨e16 a⟩) (.agg ⟨e16 b⟩)=some (decide (a=b)):=by
 obtain⟨a0,a1,a2,a3,a4,a5,a6,a7,a8,a9,u,I,a12,J,N,O,⟨⟩⟩:=a;obtain⟨b0,b1,b2,b3,b4,b5,b6,b7,b8,b9,R,U,W,Y,Z,aa,⟨⟩⟩:=b;have h:EZ υ 16 23 (.agg ⟨e16 (a0,a1,a2,a3,a4,a5,a6,a7,a8,a9,u,I,a12,J,N,O,())⟩) (.agg ⟨e16 (b0,b1,b2,b3,b4,b5,b6,b7,b8,b9,R,U,W,Y,Z,aa,())⟩)=some ((a0==b0) && ((a1==b1) && ((a2==b2) && ((a3==b3) && ((a4==b4) && ((a5==b5) && ((a6==b6) && ((a7==b7) && ((a8==b8) && ((a9==b9) && ((u==R) && ((I==U) && ((a12==W) && ((J==Y) && ((N==Z) && ((O==aa) && true)))))))))))))))):=by kernel_rfl
 rw[h];simp[afP,alj]
theorem eq4 (a b:T4):EZ υ 16 50 (.agg ⟨e4 a⟩) (.agg ⟨e4 b⟩)=some (decide (a=b)):=by
 obtain⟨a0,a1,a2,a3,⟨⟩⟩:=a;obtain⟨b0,b1,b2,b3,⟨⟩⟩:=b;have h:EZ υ 16 50 (.agg ⟨e4 (a0,a1,a2,a3,())⟩) (.agg ⟨e4 (b0,b1,b2,b3,())⟩)=some ((a0==b0) && ((a1==b1) && ((a2==b2) && ((a3==b3) && true)))):=by kernel_rfl
 rw[h];simp[afP,alj]
theorem eq3 (a b:T3):EZ υ 16 52 (.agg ⟨e3 a⟩) (.agg ⟨e3 b⟩)=some (decide (a=b)):=by
 obtain⟨a0,a1,a2,⟨⟩⟩:=a;obtain⟨b0,b1,b2,⟨⟩⟩:=b;have h:EZ υ 16 52 (.agg ⟨e3 (a0,a1,a2,())⟩) (.agg ⟨e3 (b0,b1,b2,())⟩)=some ((a0==b0) && ((a1==b1) && ((a2==b2) && true))):=by kernel_rfl
 rw[h];simp[afP,alj]
theorem akq (a:T16):nX υ 23 (.agg ⟨e16 a⟩)=true:=by unfold nX;rw[akk];rfl
theorem afW (a:T4):nX υ 50 (.agg ⟨e4 a⟩)=true:=by unfold nX;rw[eq4];rfl
theorem afV (a:T3):nX υ 52 (.agg ⟨e3 a⟩)=true:=by unfold nX;rw[eq3];rfl
theorem eq1 (a b:Int):EZ υ 16 3 (Β a) (Β b)=some (decide (a=b)):=eqP a b
theorem key1 (a:Int):nX υ 3 (Β a)=true:=ahw a
theorem ZQ {α:Type} [DecidableEq α] {sh:List Shape} {kt T:TypeId} {f:α->zI sh} {enc:α->Value} (eqE:∀a b,EZ υ 16 kt (enc a) (enc b)=some (decide (a=b))) (keyE:∀a,nX υ kt (enc a)=true) {w:θ} {v:Value} {C:b_} {ys:List α} (hv:pX υ sh v C (ys.map f)) (hC:∀W,Ext w W->C W)
  {body:Addr->Addr->Nat->zI sh->θ->(Exit->b_)->Prop} {K:Bool->b_} (hK:∀r w',(r=true↔¬ys.Nodup)->Ext w w'->K r w')
  (hb:∀(a b m l:Nat) (y:α) (W:θ) (Kb:Exit->b_),Row W b [.map (some m)]->l<W.heap.size->b≠l->(∀W',Ext W W'->pY υ kt .bool (some m) (enc y) (.bool false) (gu W' l) λx=>bif x then St (gu W' l) ⟨a,0,none⟩ (.bool true) λw=>Kb .ret w else oK υ kt (some m) (enc y) (.bool true) (gu W' l) λw=>Kb .normal w)->body ⟨a,0,none⟩ ⟨b,0,none⟩ l (f y) W Kb):
  Al w (.cells ⟨[.bool false]⟩ 4) λa3 w2=>Al w2 (.map #[] 0) λa5 w4=>Al w4 (.cells ⟨[.map none]⟩ T) λa7 w6=>St w6 a7 (.map (some w2.heap.size)) λw8=>xk υ none sh v w8 (body a3 a7)
   (λO=>St O a3 (.bool false) λI=>I.heap[w8.heap.size]? =some (.deferred (some []))/\Ld .bool (I.putObj w8.heap.size (.deferred none)) a3 λR=>K R (I.putObj w8.heap.size (.deferred none)))
   (λJ=>J.heap[w8.heap.size]? =some (.deferred (some []))/\Ld .bool (J.putObj w8.heap.size (.deferred none)) a3 λU=>K U (J.putObj w8.heap.size (.deferred none))) []:=by
 refine gy λa w1 ra ea z1 f1=>aiI λw2 m2 z2 f2=>gy λb w3 rb eb z3 f3=> ?_;refine gY rb rfl (by simp) λw4 rb f4 z4=> ?_;simp only[af7] at rb;have ra4:=((ra.ext f2).ext f3).fr (f4 (·=b) rfl) (by omega);have m4:=((m2 _ enc).ext f3).fr (f4 (·=b) rfl) (by omega);have x4:=((f1.trans f2).trans f3).new (f4 (·=b) rfl) λx hx e=>by omega
 clear f4;generalize hm:w1.heap.size=m at *;have lq:kT none w4=w4.heap.size+1:=rfl;refine vC hv (λi W=>Row W a [.bool false]/\Row W b [.map (some m)]/\zZ enc W m (ys.take i)/\(ys.take i).Nodup/\Ext w W)
  (λe W=>e= .ret/\Row W a [.bool true]/\¬ys.Nodup/\Ext w W) (by simp) (λW hx _=>⟨ra4.ext hx,rb.ext hx,m4.ext hx,by simp,x4.trans hx⟩) (λi W h=>hC W h.2.2.2.2) ?_ ?_ (λe W hJ=> .inl hJ.1) ?_ ?_ ?_ (λid W h=>by cases h.1)
 ·rintro i W W' ⟨h1,h2,h3,h4,h5⟩ hf;rw[lq] at hf;exact⟨h1.fr hf (by omega),h2.fr hf (by omega),h3.fr hf (by omega),h4,h5.new hf λx hx e=>by omega⟩
 ·rintro e W W' ⟨h1,h2,h3,h4⟩ hf;rw[lq] at hf;exact⟨h1,h2.fr hf (by omega),h3,h4.new hf λx hx e=>by omega⟩
 ·rintro i y W Kb hx ⟨h1,h2,h3,h4,h5⟩ N hn hj;obtain⟨y',hy',rfl⟩:=alK.1 (by rw[aiN] at hx;exact hx);have Y:=Gp.Cfg.take_snoc hy';rw[lq] at N hn hj ⊢;refine hb a b m _ y' W Kb h2 N (by omega) λW' hW'=> ?_;have fb:gV W' (gu W' (w4.heap.size+1)) (·=w4.heap.size+1):=gV.gu W' _;have fc:∀S:Nat->Prop,gV (gu W (w4.heap.size+1)) (gu W' (w4.heap.size+1)) S:=λS=>CW (hW' S) _;generalize gu W' (w4.heap.size+1)=W3 at fb fc ⊢;have k1:=(h1.ext hW').fr fb (by omega);have k2:=(h2.ext hW').fr fb (by omega);have k3:=(h3.ext hW').fr fb (by omega);have k5:=(h5.trans hW').new fb λx hx e=>by omega
  refine aeO k3 eqE y' (keyE _) ?_;by_cases u:y'∈ys.take i
  ·simp only[u,ace,aaU];refine gY k1 rfl (by simp) λW4 q1 g1 z4=> ?_;simp only[af7] at q1;refine hj .ret W4 (·=a) ((fc _).trans (g1 (·=a) rfl) λ_ _ e=>e) (λx hx1 hx2 e=>by omega) ⟨rfl,q1,λZ=>Gp.Cfg.vV.1 Z i _ hy' u,k5.new (g1 (·=a) rfl) λx hx e=>by omega⟩
  ·simp only[u,acQ,aaT];refine aeP k3 eqE _ (keyE _) u λW4 q3 g3 z4=> ?_;refine hn W4 (·=m) ((fc _).trans g3 λ_ _ e=>e) (λx hx1 hx2 e=>by omega) ⟨k1.fr g3 (by omega),k2.fr g3 (by omega),?_,?_,k5.new g3 λx hx e=>by omega⟩
   ·rw[Y];exact q3
   grind
 ·rintro W ⟨h1,h2,h3,h4,h5⟩ hm';have hm':=hm' rfl;rw[akM (by simp)] at h4;refine gY h1 rfl (by simp) λW4 q1 g1 z4=> ?_;simp only[af7] at q1;have z5:=x4.size;refine⟨by rw[<- hm'];exact(g1 (·=a) rfl).same _ (by grind) (by omega),gZ (q1.fr (gV.mF W4 w4.heap.size (.deferred none)) (by omega)) rfl ?_⟩;exact hK _ _ (by simp[h4]) ((h5.new (g1 (·=a) rfl) λx hx e=>by omega).new (gV.mF W4 w4.heap.size (.deferred none)) λx hx e=>by omega)
 ·rintro W ⟨_,h1,h2,h3⟩ hm';have z5:=x4.size;refine⟨hm' rfl,gZ (h1.fr (gV.mF W w4.heap.size (.deferred none)) (by omega)) rfl ?_⟩;exact hK _ _ (by simp[h2]) (h3.new (gV.mF W w4.heap.size (.deferred none)) λx hx e=>by omega)
theorem ajM {w:θ} {v:Value} {C:b_} {ys:List Int} (hv:pX υ [.one ν] v C (ys.map λy=>(y,()))) (hC:∀W,Ext w W->C W):
  vI v w λr w'=>(r=true↔¬ys.Nodup)/\Ext w w':=by
 apply KN;refine ZQ (K:=λr w'=>(r=true↔¬ys.Nodup)/\Ext w w') eq1 key1 hv hC (λ_ _ h1 h2=>⟨h1,h2⟩) λa b m l y W Kb hr hl u h=>⟨rfl,?_⟩;simp only[sx,(hr.fr (gV.gu W l) u).cell];exact h W (Ext.refl W)
theorem aii {w:θ} {v:Value} {C:b_} {ys:List T16} (hv:pX υ [.agg K16] v C (ys.map λy=>(y,()))) (hC:∀W,Ext w W->C W):
  qg v w λr w'=>(r=true↔¬ys.Nodup)/\Ext w w':=by
 apply EH;refine ZQ (K:=λr w'=>(r=true↔¬ys.Nodup)/\Ext w w') akk akq hv hC (λ_ _ h1 h2=>⟨h1,h2⟩) λa b m l y W Kb hr hl u h=> ?_;obtain⟨y0,y1,y2,y3,y4,y5,y6,y7,y8,y9,y10,y11,y12,y13,y14,y15,⟨⟩⟩:=y;refine gy λt w1 r1 e1 z1 f1=>gU r1 rfl rfl λw2 r2 f2' z2=> ?_;have f2:=f1.new (f2' (·=t) rfl) λx hx e=>by omega
 have hl2:=f2.size;refine⟨(f2 λ_=>False).same _ hl (by simp),?_⟩;simp only[sx,((hr.ext f2).fr (gV.gu w2 l) u).cell,(r2.fr (gV.gu w2 l) (by omega)).cell];exact h w2 f2
theorem ajO {w:θ} {v:Value} {C:b_} {ys:List T4} (hv:pX υ [.agg K4] v C (ys.map λy=>(y,()))) (hC:∀W,Ext w W->C W):
  oL v w λr w'=>(r=true↔¬ys.Nodup)/\Ext w w':=by
 apply CO;refine ZQ (K:=λr w'=>(r=true↔¬ys.Nodup)/\Ext w w') eq4 afW hv hC (λ_ _ h1 h2=>⟨h1,h2⟩) λa b m l y W Kb hr hl u h=> ?_;obtain⟨y0,y1,y2,y3,⟨⟩⟩:=y;refine gy λt w1 r1 e1 z1 f1=>gU r1 rfl rfl λw2 r2 f2' z2=> ?_;have f2:=f1.new (f2' (·=t) rfl) λx hx e=>by omega
 have hl2:=f2.size;refine⟨(f2 λ_=>False).same _ hl (by simp),?_⟩;simp only[sx,((hr.ext f2).fr (gV.gu w2 l) u).cell,(r2.fr (gV.gu w2 l) (by omega)).cell];exact h w2 f2
theorem ajN {w:θ} {v:Value} {C:b_} {ys:List T3} (hv:pX υ [.agg K3] v C (ys.map λy=>(y,()))) (hC:∀W,Ext w W->C W):
  oM v w λr w'=>(r=true↔¬ys.Nodup)/\Ext w w':=by
 apply CP;refine ZQ (K:=λr w'=>(r=true↔¬ys.Nodup)/\Ext w w') eq3 afV hv hC (λ_ _ h1 h2=>⟨h1,h2⟩) λa b m l y W Kb hr hl u h=> ?_;obtain⟨y0,y1,y2,⟨⟩⟩:=y;refine gy λt w1 r1 e1 z1 f1=>gU r1 rfl rfl λw2 r2 f2' z2=> ?_;have f2:=f1.new (f2' (·=t) rfl) λx hx e=>by omega
 have hl2:=f2.size;refine⟨(f2 λ_=>False).same _ hl (by simp),?_⟩;simp only[sx,((hr.ext f2).fr (gV.gu w2 l) u).cell,(r2.fr (gV.gu w2 l) (by omega)).cell];exact h w2 f2
end Go.Proofs.CN
namespace Go.Proofs.CN
open Gp
def aiW:T16->Bool
 |(x0,x1,x2,x3,x4,x5,x6,x7,x8,x9,x10,x11,x12,x13,x14,x15,())=>((x0==0) && ((x1==0) && ((x2==0) && ((x3==0) && ((x4==0) && ((x5==0) && ((x6==0) && ((x7==0) && ((x8==0) && ((x9==0) && ((x10==0) && ((x11==0) && ((x12==0) && ((x13==0) && ((x14==0) && ((x15==0) && true))))))))))))))))
def pK (x:T16):Bool:= !(aiW x) && (x.1 !=255)
theorem QL {p0 p1 p2 p3 p4 p5 p6 p7 p8 p9 p10 p11 p12 p13 p14 p15:Int} (w:θ):FV p0 p1 p2 p3 p4 p5 p6 p7 p8 p9 p10 p11 p12 p13 p14 p15 w λr w'=>r=pK (p0,p1,p2,p3,p4,p5,p6,p7,p8,p9,p10,p11,p12,p13,p14,p15,())/\Ext w w':=by
 apply aac;refine gy λa w1 ra ea z1 f1=>gy λb w2 rb eb z2 f2=> ?_;have ra:=ra.ext f2;simp only[sx,ra.cell,rb.cell];have he:∀c:Bool,c=aiW (p0,p1,p2,p3,p4,p5,p6,p7,p8,p9,p10,p11,p12,p13,p14,p15,())->((bif !c then (0:Int)<=0/\(0:Int)<16/\((p0 !=255)=pK (p0,p1,p2,p3,p4,p5,p6,p7,p8,p9,p10,p11,p12,p13,p14,p15,())/\Ext w w2) else (false=pK (p0,p1,p2,p3,p4,p5,p6,p7,p8,p9,p10,p11,p12,p13,p14,p15,())/\Ext w w2))):=by
  intro c hc;unfold pK;rw[<- hc]
  cases c
  ·exact⟨by omega,by omega,by simp,f1.trans f2⟩
  ·exact⟨by simp,f1.trans f2⟩
 exact he _ rfl
theorem Vk {p0 p1 p2 p3 p4 p5 p6 p7 p8 p9 p10 p11 p12 p13 p14 p15:Int} (w:θ):Ag p0 p1 p2 p3 p4 p5 p6 p7 p8 p9 p10 p11 p12 p13 p14 p15 w λr w'=>r=pK (p0,p1,p2,p3,p4,p5,p6,p7,p8,p9,p10,p11,p12,p13,p14,p15,())/\Ext w w':=by
 apply WU;refine gy λa w1 ra ea z1 f1=> ?_;simp only[sx,ra.cell];have he:∀c:Bool,c=aiW (p0,p1,p2,p3,p4,p5,p6,p7,p8,p9,p10,p11,p12,p13,p14,p15,())->((bif !c then (0:Int)<=0/\(0:Int)<16/\((p0 !=255)=pK (p0,p1,p2,p3,p4,p5,p6,p7,p8,p9,p10,p11,p12,p13,p14,p15,())/\Ext w w1) else (false=pK (p0,p1,p2,p3,p4,p5,p6,p7,p8,p9,p10,p11,p12,p13,p14,p15,())/\Ext w w1))):=by
  intro c hc;unfold pK;rw[<- hc]
  cases c
  ·exact⟨by omega,by omega,by simp,f1⟩
  ·exact⟨by simp,f1⟩
 exact he _ rfl
def EW (n:Nat) (pl:List Int):T7->Prop
 |(q0,q1,q2,q3,q4,q5,q6,())=>((0<=q3/\q3<=65535)/\(0<=q6/\q6<=65535))/\(mV q2/\q5∈pl)/\((q1=1\/q1=6\/q1=17)/\q1=q4)/\(0<=q0/\q0<=(n:Int) - 1)
instance (n:Nat) (pl:List Int) (x:T7):Decidable (EW n pl x):=by
 obtain⟨q0,q1,q2,q3,q4,q5,q6,⟨⟩⟩:=x;exact inferInstanceAs (Decidable (_/\_/\_/\_))
theorem SE {w:θ} {p0 p1 p2 p3 p4 p5 p6 p7 p8 p9 p10 p11 p12 p13 p14 p15:Int} {sw po:fU} {n18 n19 n20 n21 n22 n23 n24 n25 n26 n27 n28 n29 n30 n31 n32 n33 n34:Int} {st:fU} {q0 q1 q2 q3 q4 q5 q6:Int} {pl:List Int} (hsl:sw.len<=2^62) (J:lK 1 eI w po pl) (N:po.len<=2^62):
  DR p0 p1 p2 p3 p4 p5 p6 p7 p8 p9 p10 p11 p12 p13 p14 p15 sw po n18 n19 n20 n21 n22 n23 n24 n25 n26 n27 n28 n29 n30 n31 n32 n33 n34 st q0 q1 q2 q3 q4 q5 q6 w λr w'=>r=decide (EW sw.len pl (q0,q1,q2,q3,q4,q5,q6,()))/\Ext w w':=by
 apply UH;refine gy λa w1 ra ea z1 f1=>gy λb w2 rb eb z2 f2=> ?_;have ra:=ra.ext f2;have x2:=f1.trans f2;clear f1 f2;simp -zeta only[sx,rb.cell];intro J7;have hJ7:∀c1 W,Ext w2 W->c1=decide ((0<=q3/\q3<=65535)/\(0<=q6/\q6<=65535))->J7 c1 W:=by
  intro c1 W hx h1;have ra:=ra.ext hx;have rb:=rb.ext hx;simp -zeta only[J7];intro u;have hJ10:∀c2 W',Ext W W'->c2=decide (mV q2/\q5∈pl)->u c2 W':=by
   intro c2 W' hx' h2;have ra:=ra.ext hx';have rb:=rb.ext hx';simp -zeta only[u];intro I;have hJ13:∀c3 W'',Ext W' W''->c3=decide ((q1=1\/q1=6\/q1=17)/\q1=q4)->I c3 W'':=by
    intro c3 W'' hx'' h3;have ra:=ra.ext hx'';have rb:=rb.ext hx'';simp only[I,d_,f_,gK,gq,ra.cell,rb.cell];have xx:=((x2.trans hx).trans hx').trans hx'';have fin:∀c4:Bool,c4=(decide ((0<=q3/\q3<=65535)/\(0<=q6/\q6<=65535)) && (decide (mV q2/\q5∈pl) && (decide ((q1=1\/q1=6\/q1=17)/\q1=q4) && decide (0<=q0/\q0<=(sw.len:Int) - 1))))->c4=decide (EW sw.len pl (q0,q1,q2,q3,q4,q5,q6,())):=by
     intro c4 h;rw[h,<- alj,<- alj,<- alj];rfl
    rw[<- h1,<- h2,<- h3] at fin
    cases c1
    ·exact⟨fin _ (by simp),xx⟩
    ·cases c2
     ·exact⟨fin _ (by simp),xx⟩
     ·cases c3
      ·exact⟨fin _ (by simp),xx⟩
      ·simp only[aaU];rw[Α];refine cmS0 (yY _ _ _ _) ?_;rintro _ w' ⟨rfl,hf⟩;exact⟨fin _ (by simp),xx.trans hf⟩
   simp -zeta only[d_,f_,gq,rb.cell];refine cmS0 (ab2 _ _) ?_;rintro _ w' ⟨rfl,hf⟩;have rb:=rb.ext hf;by_cases hp:(q1=1\/q1=6\/q1=17)
   ·simp -zeta only[hp,ace,aaU,aaU,d_,f_,gq,rb.cell];exact hJ13 _ _ hf (by grind)
   ·simp -zeta only[hp,acQ,aaT];exact hJ13 _ _ hf (adn λh=>hp h.1).symm
  simp -zeta only[d_,f_,gq,rb.cell];refine cmS0 (Ar _ _) ?_;rintro _ w' ⟨rfl,hf⟩;have rb:=rb.ext hf;have ra:=ra.ext hf;by_cases hp:mV q2
  ·simp -zeta only[hp,ace,aaU,aaU,d_,f_,gK,gq,rb.cell,ra.cell];refine cmS0 (Dl (((J.ext x2).ext hx).ext hf) N _) ?_;rintro _ w'' ⟨rfl,hw⟩;subst hw;exact hJ10 _ _ hf (by simp[hp])
  ·simp -zeta only[hp,acQ,aaT];exact hJ10 _ _ hf (by simp[hp])
 refine cmS0 (yY _ _ _ _) ?_;rintro _ w' ⟨rfl,hf⟩;have rb:=rb.ext hf;by_cases hp:(0<=q3/\q3<=65535)
 ·simp -zeta only[hp,ali,ace,aaU,aaU,d_,f_,gq,rb.cell];refine cmS0 (yY _ _ _ _) ?_;rintro _ w'' ⟨rfl,hf'⟩;exact hJ7 _ _ (hf.trans hf') (by simp[hp])
 ·simp -zeta only[hp,acQ,aaT];exact hJ7 _ _ hf (by simp[hp])
theorem afU {p0 p1 p2 p3 p4 p5 p6 p7 p8 p9 p10 p11 p12 p13 p14 p15:Int} (w:θ):vX p0 p1 p2 p3 p4 p5 p6 p7 p8 p9 p10 p11 p12 p13 p14 p15 w λr0 r1 r2 r3 r4 r5 r6 r7 r8 r9 h u I J N O w'=>((r0,r1,r2,r3,r4,r5,r6,r7,r8,r9,h,u,I,J,N,O,()):T16)=(p0,p1,p2,p3,p4,p5,p6,p7,p8,p9,p10,p11,p12,p13,p14,p15,())/\Ext w w':=by
 apply Ef;refine gy λa w1 ra ea z1 f1=>gy λb w2 rb eb z2 f2=> ?_;have ra:=ra.ext f2;simp only[sx,ra.cell];refine gU rb rfl rfl λw3 r3 f3 z3=> ?_;simp only[d_,f_,gq,r3.cell];exact⟨by trivial,(f1.trans f2).new (f3 (·=b) rfl) λx hx e=>by omega⟩
def vU:T7->T4|(q0,q1,q2,q3,q4,q5,q6,())=>(q0,q1,q2,q3,())
def wX:T7->T3|(q0,q1,q2,q3,q4,q5,q6,())=>(q4,q5,q6,())
theorem afS {q0 q1 q2 q3 q4 q5 q6:Int} (w:θ):A_ q0 q1 q2 q3 q4 q5 q6 w λr0 r1 r2 r3 w'=>(r0=q0/\r1=q1/\r2=q2/\r3=q3)/\Ext w w':=by
 apply KI;refine gy λa w1 ra ea z1 f1=>gy λb w2 rb eb z2 f2=> ?_;have ra:=ra.ext f2;simp only[sx,ra.cell];refine gU rb rfl rfl λw3 r3 f3 z3=> ?_;simp only[d_,f_,gq,r3.cell,ali,afu];exact(f1.trans f2).new (f3 (·=b) rfl) λx hx e=>by omega
theorem agi {q0 q1 q2 q3 q4 q5 q6:Int} (w:θ):Ba q0 q1 q2 q3 q4 q5 q6 w λr0 r1 r2 w'=>(r0=q4/\r1=q5/\r2=q6)/\Ext w w':=by
 apply KJ;refine gy λa w1 ra ea z1 f1=>gy λb w2 rb eb z2 f2=> ?_;have ra:=ra.ext f2;simp only[sx,ra.cell];refine gU rb rfl rfl λw3 r3 f3 z3=> ?_;simp only[d_,f_,gq,r3.cell,ali,afu];exact(f1.trans f2).new (f3 (·=b) rfl) λx hx e=>by omega
theorem j_ {f:FuncId} {cap:Array Value} {sh:List Shape} {args:List Value} {w:θ} {K:Value->b_} (hb:oI υ f=true) (h:Hz υ sh f (args++cap.toList) w K):
  jy υ sh (.func (.func f) #[] cap) args w K:=by
 unfold jy;simp only[hb,aaU];exact h
theorem abw:VK (.func (.func KE) #[] #[]) (λx:Int=>Β x) [.one ν] (λ_=>True) (λx=>Β x):=by
 intro x W K _ hK;refine j_ (by kernel_rfl) ?_;refine Calls.mono (IZ (K:=λr W'=>r=x/\Ext W W') ?_) ?_
 ·exact⟨rfl,Ext.refl _⟩
 ·rintro e W' ⟨r,he,rfl,hf⟩;exact⟨r,he,hK W' hf⟩
theorem Ϝ:VK (.func (.func EF) #[] #[]) (λx:T16=>Value.agg ⟨e16 x⟩) [.agg K16] (λ_=>True) (λx:T16=>Value.agg ⟨e16 x⟩):=by
 intro x W K _ hK;obtain⟨p0,p1,p2,p3,p4,p5,p6,p7,p8,p9,p10,p11,p12,p13,p14,p15,⟨⟩⟩:=x;refine j_ (by kernel_rfl) ?_;refine Calls.mono (afU W) ?_;rintro e W' ⟨r0,r1,r2,r3,r4,r5,r6,r7,r8,r9,u,I,J,N,O,R,he,h,hf⟩;refine⟨r0,r1,r2,r3,r4,r5,r6,r7,r8,r9,u,I,J,N,O,R,he,?_⟩;have hK:=hK W' hf;rw[<- h] at hK;exact hK
theorem afB:VK (.func (.func MS) #[] #[]) (λx:T7=>Value.agg ⟨e7 x⟩) [.agg K4] (λ_=>True) (λx:T7=>Value.agg ⟨e4 (vU x)⟩):=by
 intro x W K _ hK;obtain⟨q0,q1,q2,q3,q4,q5,q6,⟨⟩⟩:=x;refine j_ (by kernel_rfl) ?_;refine Calls.mono (afS W) ?_;rintro e W' ⟨r0,r1,r2,r3,he,⟨rfl,rfl,rfl,rfl⟩,hf⟩;exact⟨r0,r1,r2,r3,he,hK W' hf⟩
theorem afC:VK (.func (.func MV) #[] #[]) (λx:T7=>Value.agg ⟨e7 x⟩) [.agg K3] (λ_=>True) (λx:T7=>Value.agg ⟨e3 (wX x)⟩):=by
 intro x W K _ hK;obtain⟨q0,q1,q2,q3,q4,q5,q6,⟨⟩⟩:=x;refine j_ (by kernel_rfl) ?_;refine Calls.mono (agi W) ?_;rintro e W' ⟨r0,r1,r2,he,⟨rfl,rfl,rfl⟩,hf⟩;exact⟨r0,r1,r2,he,hK W' hf⟩
theorem abv:VK (.func (.func PU) #[] #[]) (λx:T16=>Value.agg ⟨e16 x⟩) [.one .bool] (λ_=>True) (λx:T16=> .bool (!pK x)):=by
 intro x W K _ hK;obtain⟨p0,p1,p2,p3,p4,p5,p6,p7,p8,p9,p10,p11,p12,p13,p14,p15,⟨⟩⟩:=x;refine j_ (by kernel_rfl) ?_;refine Calls.mono (Oo (K:=λr W'=>r= !pK (p0,p1,p2,p3,p4,p5,p6,p7,p8,p9,p10,p11,p12,p13,p14,p15,())/\Ext W W') ?_) ?_
 ·refine gy λa w1 ra ea z1 f1=> ?_;simp only[sx,ra.cell];refine cmS0 (QL w1) ?_;rintro _ w' ⟨rfl,hf⟩;exact⟨rfl,f1.trans hf⟩
 ·rintro e W' ⟨r,he,rfl,hf⟩;exact⟨_,he,hK W' hf⟩
theorem ϝ:VK (.func (.func PV) #[] #[]) (λx:Int=>Β x) [.one .bool] (λ_=>True) (λx:Int=> .bool (!decide (mV x))):=by
 intro x W K _ hK;refine j_ (by kernel_rfl) ?_;refine Calls.mono (Oq (K:=λr W'=>r= !decide (mV x)/\Ext W W') ?_) ?_
 ·refine cmS0 (Ar x W) ?_;simp
 ·rintro e W' ⟨r,he,rfl,hf⟩;exact⟨_,he,hK W' hf⟩
theorem afE {f0:Nat} {p0 p1 p2 p3 p4 p5 p6 p7 p8 p9 p10 p11 p12 p13 p14 p15:Int} {sw po:fU} {n18 n19 n20 n21 n22 n23 n24 n25 n26 n27 n28 n29 n30 n31 n32 n33 n34:Int} {st:fU} {pl:List Int} (h:sw.len<=2^62) (u:po.len<=2^62):
  VK (.func (.func PW) #[] #[.pointer (some ⟨f0,0,none⟩)]) (λx:T7=>Value.agg ⟨e7 x⟩) [.one .bool]
   (λW=>Row W f0 (.int .u8 p0:: .int .u8 p1:: .int .u8 p2:: .int .u8 p3:: .int .u8 p4:: .int .u8 p5:: .int .u8 p6:: .int .u8 p7:: .int .u8 p8:: .int .u8 p9:: .int .u8 p10:: .int .u8 p11:: .int .u8 p12:: .int .u8 p13:: .int .u8 p14:: .int .u8 p15:: Δ sw:: Δ po:: Β n18:: Β n19:: Β n20:: Β n21:: Β n22:: Β n23:: Β n24:: Β n25:: Β n26:: Β n27:: Β n28:: Β n29:: Β n30:: Β n31:: Β n32:: Β n33:: Β n34:: Δ st::[])/\lK 1 eI W po pl) (λx:T7=> .bool (!decide (EW sw.len pl x))):=by
 rintro x W K ⟨hr,I⟩ hK;obtain⟨q0,q1,q2,q3,q4,q5,q6,⟨⟩⟩:=x;refine j_ (by kernel_rfl) ?_;refine Calls.mono (Ot (K:=λr W'=>r= !decide (EW sw.len pl (q0,q1,q2,q3,q4,q5,q6,()))/\Ext W W') ?_) ?_
 ·refine gy λa w1 ra ea z1 f1=> ?_;have hr:=hr.ext f1;simp only[sx,ra.cell,hr.cell];refine cmS0 (SE h (I.ext f1) u) ?_;rintro _ w' ⟨rfl,hf⟩;exact⟨rfl,f1.trans hf⟩
 ·rintro e W' ⟨r,he,rfl,hf⟩;exact⟨_,he,hK W' hf⟩
theorem ahe {f0:Nat} {p0 p1 p2 p3 p4 p5 p6 p7 p8 p9 p10 p11 p12 p13 p14 p15:Int} {sw po:fU} {n18 n19 n20 n21 n22 n23 n24 n25 n26 n27 n28 n29 n30 n31 n32 n33 n34:Int} {st:fU}:
  VK (.func (.func MW) #[] #[.pointer (some ⟨f0,0,none⟩)]) (λx:Int=>Β x) [.one .bool]
   (λW=>Row W f0 (.int .u8 p0:: .int .u8 p1:: .int .u8 p2:: .int .u8 p3:: .int .u8 p4:: .int .u8 p5:: .int .u8 p6:: .int .u8 p7:: .int .u8 p8:: .int .u8 p9:: .int .u8 p10:: .int .u8 p11:: .int .u8 p12:: .int .u8 p13:: .int .u8 p14:: .int .u8 p15:: Δ sw:: Δ po:: Β n18:: Β n19:: Β n20:: Β n21:: Β n22:: Β n23:: Β n24:: Β n25:: Β n26:: Β n27:: Β n28:: Β n29:: Β n30:: Β n31:: Β n32:: Β n33:: Β n34:: Δ st::[])) (λx:Int=> .bool (decide (x>n20))):=by
 rintro x W K hr hK;refine j_ (by kernel_rfl) ?_;refine Calls.mono (KL (K:=λr W'=>r=decide (x>n20)/\Ext W W') ?_) ?_
 ·simp only[sx,hr.cell];exact⟨by trivial,Ext.refl _⟩
 ·rintro e W' ⟨r,he,rfl,hf⟩;exact⟨_,he,hK W' hf⟩
end Go.Proofs.CN
namespace Go.Proofs.CN
open Gp
theorem Sr {α β:Type} {xs:List α} {k:α->β} {i:Nat} {x:α} (h:xs[i]? =some x):(((xs.map k).map λy=>(y,())):List (β×Unit))[i]? =some (k x,()):=by
 simp_all
theorem N8 {f0 f1:Nat} {s:fU} {xs:List Int} {fv:Value} {k:Int->Int} (hl:s.len<=2^62) (hk:VK fv (λx:Int=>Β x) [.one ν] (λ_=>True) (λx=>(λx:Int=>Β x) (k x))):
  pX υ [.one ν] (Value.func (.func ED) #[] #[.pointer (some ⟨f0,0,none⟩),.pointer (some ⟨f1,0,none⟩)]) (λW=>Row W f0 [Δ s]/\Row W f1 [fv]/\lK 1 eI W s xs) ((xs.map k).map λy=>(y,())):=by
 refine⟨by kernel_rfl,λl Q D hC hQ hD hy w h0=> ?_⟩;refine Calls.mono (Ee ?_) (λe w' h=>h);obtain⟨r0,r1,hs⟩:=hC _ _ h0;simp only[sx,r0.cell];refine gI (λst W=>∃j:Nat,j<=xs.length/\st.1=(j:Int)/\Q j W) (λst _=>(s.len - st.1).toNat) ⟨0,by omega,rfl,h0⟩ ?_;rintro⟨i,⟨⟩⟩ W ⟨j,hj,hi,hq⟩ next u
 simp only at hi;subst hi;obtain⟨r0,r1,hs⟩:=hC _ _ hq;have hlen:=hs.len;by_cases J:(j:Int)<(s.len:Int)
 ·simp only[J,ace,aaU];have hx:=ade (show j<xs.length by omega);generalize xs[j]=x at hx;have N:=Sr (k:=k) hx;refine SlN_ix jr (by omega) hs (by omega) (by rw[ab3];exact hx) λa hc=> ?_;have I:=hk x;dsimp only at I;generalize k x=y at I N;obtain x:=x;have c0:=hc 0 _ rfl;rw[show a.add 0=a from rfl] at c0;simp only[aeI,f_,gq,JO,c0,r1.cell];obtain⟨W1,hW1⟩:∃W1,W1=W:=⟨W,rfl⟩;subst hW1;have hq1:=hq;refine I W1 _ trivial λW2 hf2=> ?_;have hq2:=hQ _ _ _ hq1 hf2;obtain y:=y;refine⟨y,rfl,?_⟩;refine jW (hy j _ W2 _ N hq2 ?_ ?_)
  ·intro W' hq';refine⟨true,rfl,?_⟩;simp only[adp,aaT];rw[Α];exact u _ _ ⟨j+1,by omega,by simp,hq'⟩ (by omega)
  simp_all
 ·simp only[J,acQ,aaT]
  grind
theorem Yz {w:θ} {s:fU} {xs:List Int} {fv:Value} {k:Int->Int} (hs:lK 1 eI w s xs) (hl:s.len<=2^62) (ho:iI fv=true) (hk:VK fv (λx:Int=>Β x) [.one ν] (λ_=>True) (λx=>(λx:Int=>Β x) (k x))):
  qY s fv w λv w'=>Ext w w'/\∃C,pX υ [.one ν] v C ((xs.map k).map λy=>(y,()))/\∀W,Ext w' W->C W:=by
 apply Gj;refine⟨rfl,gy λa w1 ra ea z1 f1=>⟨ho,gy λb w2 rb eb z2 f2=> ?_⟩⟩;exact⟨f1.trans f2,_,N8 hl hk,λW hW=>⟨(ra.ext f2).ext hW,rb.ext hW,((hs.ext f1).ext f2).ext hW⟩⟩
theorem CJ {f0 f1:Nat} {s:fU} {xs:List T16} {fv:Value} {k:T16->T16} (hl:s.len<=2^62) (hk:VK fv (λx:T16=>Value.agg ⟨e16 x⟩) [.agg K16] (λ_=>True) (λx=>(λx:T16=>Value.agg ⟨e16 x⟩) (k x))):
  pX υ [.agg K16] (Value.func (.func xu) #[] #[.pointer (some ⟨f0,0,none⟩),.pointer (some ⟨f1,0,none⟩)]) (λW=>Row W f0 [Δ s]/\Row W f1 [fv]/\lK 16 e16 W s xs) ((xs.map k).map λy=>(y,())):=by
 refine⟨by kernel_rfl,λl Q D hC hQ hD hy w h0=> ?_⟩;refine Calls.mono (wW ?_) (λe w' h=>h);obtain⟨r0,r1,hs⟩:=hC _ _ h0;simp only[sx,r0.cell];refine gI (λst W=>∃j:Nat,j<=xs.length/\st.1=(j:Int)/\Q j W) (λst _=>(s.len - st.1).toNat) ⟨0,by omega,rfl,h0⟩ ?_;rintro⟨i,⟨⟩⟩ W ⟨j,hj,hi,hq⟩ next u
 simp only at hi;subst hi;obtain⟨r0,r1,hs⟩:=hC _ _ hq;have hlen:=hs.len;by_cases J:(j:Int)<(s.len:Int)
 ·simp only[J,ace,aaU];have hx:=ade (show j<xs.length by omega);generalize xs[j]=x at hx;have N:=Sr (k:=k) hx;refine SlN_ix qE (by omega) hs (by omega) (by rw[ab3];exact hx) λa hc=> ?_;have I:=hk x;dsimp only at I;generalize k x=y at I N;obtain⟨x0,x1,x2,x3,x4,x5,x6,x7,x8,x9,O,R,U,Y,Z,aa,⟨⟩⟩:=x;have c0:W.cell? (a.add 0)=some (.int .u8 x0):=hc 0 _ rfl;have c1:W.cell? (a.add 1)=some (.int .u8 x1):=hc 1 _ rfl;have c2:W.cell? (a.add 2)=some (.int .u8 x2):=hc 2 _ rfl;have c3:W.cell? (a.add 3)=some (.int .u8 x3):=hc 3 _ rfl;have c4:W.cell? (a.add 4)=some (.int .u8 x4):=hc 4 _ rfl;have c5:W.cell? (a.add 5)=some (.int .u8 x5):=hc 5 _ rfl;have c6:W.cell? (a.add 6)=some (.int .u8 x6):=hc 6 _ rfl;have c7:W.cell? (a.add 7)=some (.int .u8 x7):=hc 7 _ rfl;have c8:W.cell? (a.add 8)=some (.int .u8 x8):=hc 8 _ rfl;have c9:W.cell? (a.add 9)=some (.int .u8 x9):=hc 9 _ rfl;have ab:W.cell? (a.add 10)=some (.int .u8 O):=hc 10 _ rfl;have ac:W.cell? (a.add 11)=some (.int .u8 R):=hc 11 _ rfl;have ae:W.cell? (a.add 12)=some (.int .u8 U):=hc 12 _ rfl;have af:W.cell? (a.add 13)=some (.int .u8 Y):=hc 13 _ rfl;have ag:W.cell? (a.add 14)=some (.int .u8 Z):=hc 14 _ rfl;have ah:W.cell? (a.add 15)=some (.int .u8 aa):=hc 15 _ rfl;simp only[f_,gq,c0,c1,c2,c3,c4,c5,c6,c7,c8,c9,ab,ac,ae,af,ag,ah];refine DJ rfl rfl λt W1 rt et zt ft=> ?_;have r1:=r1.ext ft;have hq1:=hQ _ _ _ hq ft;simp only[sx,r1.cell,rt.cell];refine I W1 _ trivial λW2 hf2=> ?_;have hq2:=hQ _ _ _ hq1 hf2;obtain⟨y0,y1,y2,y3,y4,y5,y6,y7,y8,y9,ai,aj,ak,am,an,ao,⟨⟩⟩:=y;refine⟨y0,y1,y2,y3,y4,y5,y6,y7,y8,y9,ai,aj,ak,am,an,ao,rfl,?_⟩;refine jW (hy j _ W2 _ N hq2 ?_ ?_)
  ·intro W' hq';refine⟨true,rfl,?_⟩;simp only[adp,aaT];rw[Α];exact u _ _ ⟨j+1,by omega,by simp,hq'⟩ (by omega)
  grind
 ·simp only[J,acQ,aaT]
  grind
theorem Iw {w:θ} {s:fU} {xs:List T16} {fv:Value} {k:T16->T16} (hs:lK 16 e16 w s xs) (hl:s.len<=2^62) (ho:iI fv=true) (hk:VK fv (λx:T16=>Value.agg ⟨e16 x⟩) [.agg K16] (λ_=>True) (λx=>(λx:T16=>Value.agg ⟨e16 x⟩) (k x))):
  lY s fv w λv w'=>Ext w w'/\∃C,pX υ [.agg K16] v C ((xs.map k).map λy=>(y,()))/\∀W,Ext w' W->C W:=by
 apply xZ;refine⟨rfl,gy λa w1 ra ea z1 f1=>⟨ho,gy λb w2 rb eb z2 f2=> ?_⟩⟩;exact⟨f1.trans f2,_,CJ hl hk,λW hW=>⟨(ra.ext f2).ext hW,rb.ext hW,((hs.ext f1).ext f2).ext hW⟩⟩
theorem xO {f0 f1:Nat} {s:fU} {xs:List T7} {fv:Value} {k:T7->T4} (hl:s.len<=2^62) (hk:VK fv (λx:T7=>Value.agg ⟨e7 x⟩) [.agg K4] (λ_=>True) (λx=>(λx:T4=>Value.agg ⟨e4 x⟩) (k x))):
  pX υ [.agg K4] (Value.func (.func uN) #[] #[.pointer (some ⟨f0,0,none⟩),.pointer (some ⟨f1,0,none⟩)]) (λW=>Row W f0 [Δ s]/\Row W f1 [fv]/\lK 7 e7 W s xs) ((xs.map k).map λy=>(y,())):=by
 refine⟨by kernel_rfl,λl Q D hC hQ hD hy w h0=> ?_⟩;refine Calls.mono (tV ?_) (λe w' h=>h);obtain⟨r0,r1,hs⟩:=hC _ _ h0;simp only[sx,r0.cell];refine gI (λst W=>∃j:Nat,j<=xs.length/\st.1=(j:Int)/\Q j W) (λst _=>(s.len - st.1).toNat) ⟨0,by omega,rfl,h0⟩ ?_;rintro⟨i,⟨⟩⟩ W ⟨j,hj,hi,hq⟩ next u
 simp only at hi;subst hi;obtain⟨r0,r1,hs⟩:=hC _ _ hq;have hlen:=hs.len;by_cases J:(j:Int)<(s.len:Int)
 ·simp only[J,ace,aaU];have hx:=ade (show j<xs.length by omega);generalize xs[j]=x at hx;have N:=Sr (k:=k) hx;refine SlN_ix wR (by omega) hs (by omega) (by rw[ab3];exact hx) λa hc=> ?_;have I:=hk x;dsimp only at I;generalize k x=y at I N;obtain⟨x0,x1,x2,x3,x4,x5,x6,⟨⟩⟩:=x;have c0:W.cell? (a.add 0)=some (Β x0):=hc 0 _ rfl;have c1:W.cell? (a.add 1)=some (Β x1):=hc 1 _ rfl;have c2:W.cell? (a.add 2)=some (Β x2):=hc 2 _ rfl;have c3:W.cell? (a.add 3)=some (Β x3):=hc 3 _ rfl;have c4:W.cell? (a.add 4)=some (Β x4):=hc 4 _ rfl;have c5:W.cell? (a.add 5)=some (Β x5):=hc 5 _ rfl;have c6:W.cell? (a.add 6)=some (Β x6):=hc 6 _ rfl;simp only[f_,gq,c0,c1,c2,c3,c4,c5,c6];refine DJ rfl rfl λt W1 rt et zt ft=> ?_;have r1:=r1.ext ft;have hq1:=hQ _ _ _ hq ft;simp only[sx,r1.cell,rt.cell];refine I W1 _ trivial λW2 hf2=> ?_;have hq2:=hQ _ _ _ hq1 hf2;obtain⟨y0,y1,y2,y3,⟨⟩⟩:=y;refine⟨y0,y1,y2,y3,rfl,?_⟩;refine jW (hy j _ W2 _ N hq2 ?_ ?_)
  ·intro W' hq';refine⟨true,rfl,?_⟩;simp only[adp,aaT];rw[Α];exact u _ _ ⟨j+1,by omega,by simp,hq'⟩ (by omega)
  simp_all
 ·simp only[J,acQ,aaT]
  grind
theorem CB {w:θ} {s:fU} {xs:List T7} {fv:Value} {k:T7->T4} (hs:lK 7 e7 w s xs) (hl:s.len<=2^62) (ho:iI fv=true) (hk:VK fv (λx:T7=>Value.agg ⟨e7 x⟩) [.agg K4] (λ_=>True) (λx=>(λx:T4=>Value.agg ⟨e4 x⟩) (k x))):
  kD s fv w λv w'=>Ext w w'/\∃C,pX υ [.agg K4] v C ((xs.map k).map λy=>(y,()))/\∀W,Ext w' W->C W:=by
 apply vg;refine⟨rfl,gy λa w1 ra ea z1 f1=>⟨ho,gy λb w2 rb eb z2 f2=> ?_⟩⟩;exact⟨f1.trans f2,_,xO hl hk,λW hW=>⟨(ra.ext f2).ext hW,rb.ext hW,((hs.ext f1).ext f2).ext hW⟩⟩
theorem xP {f0 f1:Nat} {s:fU} {xs:List T7} {fv:Value} {k:T7->T3} (hl:s.len<=2^62) (hk:VK fv (λx:T7=>Value.agg ⟨e7 x⟩) [.agg K3] (λ_=>True) (λx=>(λx:T3=>Value.agg ⟨e3 x⟩) (k x))):
  pX υ [.agg K3] (Value.func (.func uO) #[] #[.pointer (some ⟨f0,0,none⟩),.pointer (some ⟨f1,0,none⟩)]) (λW=>Row W f0 [Δ s]/\Row W f1 [fv]/\lK 7 e7 W s xs) ((xs.map k).map λy=>(y,())):=by
 refine⟨by kernel_rfl,λl Q D hC hQ hD hy w h0=> ?_⟩;refine Calls.mono (tX ?_) (λe w' h=>h);obtain⟨r0,r1,hs⟩:=hC _ _ h0;simp only[sx,r0.cell];refine gI (λst W=>∃j:Nat,j<=xs.length/\st.1=(j:Int)/\Q j W) (λst _=>(s.len - st.1).toNat) ⟨0,by omega,rfl,h0⟩ ?_;rintro⟨i,⟨⟩⟩ W ⟨j,hj,hi,hq⟩ next u
 simp only at hi;subst hi;obtain⟨r0,r1,hs⟩:=hC _ _ hq;have hlen:=hs.len;by_cases J:(j:Int)<(s.len:Int)
 ·simp only[J,ace,aaU];have hx:=ade (show j<xs.length by omega);generalize xs[j]=x at hx;have N:=Sr (k:=k) hx;refine SlN_ix wR (by omega) hs (by omega) (by rw[ab3];exact hx) λa hc=> ?_;have I:=hk x;dsimp only at I;generalize k x=y at I N;obtain⟨x0,x1,x2,x3,x4,x5,x6,⟨⟩⟩:=x;have c0:W.cell? (a.add 0)=some (Β x0):=hc 0 _ rfl;have c1:W.cell? (a.add 1)=some (Β x1):=hc 1 _ rfl;have c2:W.cell? (a.add 2)=some (Β x2):=hc 2 _ rfl;have c3:W.cell? (a.add 3)=some (Β x3):=hc 3 _ rfl;have c4:W.cell? (a.add 4)=some (Β x4):=hc 4 _ rfl;have c5:W.cell? (a.add 5)=some (Β x5):=hc 5 _ rfl;have c6:W.cell? (a.add 6)=some (Β x6):=hc 6 _ rfl;simp only[f_,gq,c0,c1,c2,c3,c4,c5,c6];refine DJ rfl rfl λt W1 rt et zt ft=> ?_;have r1:=r1.ext ft;have hq1:=hQ _ _ _ hq ft;simp only[sx,r1.cell,rt.cell];refine I W1 _ trivial λW2 hf2=> ?_;have hq2:=hQ _ _ _ hq1 hf2;obtain⟨y0,y1,y2,⟨⟩⟩:=y;refine⟨y0,y1,y2,rfl,?_⟩;refine jW (hy j _ W2 _ N hq2 ?_ ?_)
  ·intro W' hq';refine⟨true,rfl,?_⟩;simp only[adp,aaT];rw[Α];exact u _ _ ⟨j+1,by omega,by simp,hq'⟩ (by omega)
  simp_all
 ·simp only[J,acQ,aaT]
  grind
theorem CG {w:θ} {s:fU} {xs:List T7} {fv:Value} {k:T7->T3} (hs:lK 7 e7 w s xs) (hl:s.len<=2^62) (ho:iI fv=true) (hk:VK fv (λx:T7=>Value.agg ⟨e7 x⟩) [.agg K3] (λ_=>True) (λx=>(λx:T3=>Value.agg ⟨e3 x⟩) (k x))):
  kF s fv w λv w'=>Ext w w'/\∃C,pX υ [.agg K3] v C ((xs.map k).map λy=>(y,()))/\∀W,Ext w' W->C W:=by
 apply vk;refine⟨rfl,gy λa w1 ra ea z1 f1=>⟨ho,gy λb w2 rb eb z2 f2=> ?_⟩⟩;exact⟨f1.trans f2,_,xP hl hk,λW hW=>⟨(ra.ext f2).ext hW,rb.ext hW,((hs.ext f1).ext f2).ext hW⟩⟩
def yh (p:T16) (n:Nat) (sl:List T16) (pl:List Int) (tl:List T7):Bool:=
 pK p && (!(sl.any λx=> !pK x) && (!(pl.any λx=> !decide (mV x)) && !(tl.any λx=> !decide (EW n pl x))))
theorem agk {w:θ} {p0 p1 p2 p3 p4 p5 p6 p7 p8 p9 p10 p11 p12 p13 p14 p15:Int} {sw po:fU} {n18 n19 n20 n21 n22 n23 n24 n25 n26 n27 n28 n29 n30 n31 n32 n33 n34:Int} {st:fU} {sl:List T16} {pl:List Int} {tl:List T7} (u:lK 16 e16 w sw sl) (h:lK 1 eI w po pl) (I:lK 7 e7 w st tl) (lsw:sw.len<=2^62) (lpo:po.len<=2^62) (lst:st.len<=2^62):
  Bc p0 p1 p2 p3 p4 p5 p6 p7 p8 p9 p10 p11 p12 p13 p14 p15 sw po n18 n19 n20 n21 n22 n23 n24 n25 n26 n27 n28 n29 n30 n31 n32 n33 n34 st w λr w'=>r=yh (p0,p1,p2,p3,p4,p5,p6,p7,p8,p9,p10,p11,p12,p13,p14,p15,()) sw.len sl pl tl/\Ext w w':=by
 apply Rk;refine gy λa w1 ra ea z1 f1=> ?_;simp -zeta only[sx,ra.cell];intro J4;have hJ4:∀b W,Ext w1 W->b= !(pK (p0,p1,p2,p3,p4,p5,p6,p7,p8,p9,p10,p11,p12,p13,p14,p15,()) && !(sl.any λx=> !pK x))->J4 b W:=by
  intro b W hx hb;simp -zeta only[J4]
  cases b
  ·simp -zeta only[aaT];intro J7;have hJ7:∀b W',Ext W W'->b= !(!(pl.any λx=> !decide (mV x)) && !(tl.any λx=> !decide (EW sw.len pl x)))->J7 b W':=by
    intro b2 W' hx' hb2;simp only[J7];have e1:(pK (p0,p1,p2,p3,p4,p5,p6,p7,p8,p9,p10,p11,p12,p13,p14,p15,()) && !(sl.any λx=> !pK x))=true:=by simp_all
    have xx:=(f1.trans hx).trans hx';have hr:yh (p0,p1,p2,p3,p4,p5,p6,p7,p8,p9,p10,p11,p12,p13,p14,p15,()) sw.len sl pl tl= !b2:=by
     unfold yh
     simp_all
    rw[hr]
    cases b2
    ·exact⟨rfl,xx⟩
    ·exact⟨rfl,xx⟩
   have raW:=ra.ext hx;simp -zeta only[d_,f_,gK,raW.cell];refine cmS0 (TM ((h.ext f1).ext hx) lpo ϝ λ_ _=>trivial) ?_;rintro _ w' ⟨rfl,hf⟩
   cases hp:pl.any λx=> !decide (mV x)
   ·have ra':=raW.ext hf;simp -zeta only[aaT,aaT,d_,f_,gK,ra'.cell];refine cmS0 (abh (((I.ext f1).ext hx).ext hf) lst (afE lsw lpo) λW hW=>⟨ra'.ext hW,(((h.ext f1).ext hx).ext hf).ext hW⟩) ?_;rintro _ w'' ⟨rfl,hf'⟩;exact hJ7 _ _ (hf.trans hf') (by rw[hp];simp)
   ·simp -zeta only[aaU];exact hJ7 _ _ hf (by rw[hp];simp)
  ·simp only[aaU];have e1:(pK (p0,p1,p2,p3,p4,p5,p6,p7,p8,p9,p10,p11,p12,p13,p14,p15,()) && !(sl.any λx=> !pK x))=false:=by grind
   refine⟨?_,f1.trans hx⟩;unfold yh
   grind
 refine cmS0 (QL _) ?_;rintro _ w' ⟨rfl,hf⟩
 cases hp:pK (p0,p1,p2,p3,p4,p5,p6,p7,p8,p9,p10,p11,p12,p13,p14,p15,())
 ·simp -zeta only[afa,aaU];exact hJ4 _ _ hf (by rw[hp];simp)
 ·have ra':=ra.ext hf;simp -zeta only[adp,aaT,aaT,d_,f_,gK,ra'.cell];refine cmS0 (ό ((u.ext f1).ext hf) lsw abv λ_ _=>trivial) ?_;rintro _ w'' ⟨rfl,hf'⟩;exact hJ4 _ _ (hf.trans hf') (by rw[hp];simp)
end Go.Proofs.CN
