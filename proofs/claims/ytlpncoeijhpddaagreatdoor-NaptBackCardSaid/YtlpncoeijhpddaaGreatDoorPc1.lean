import Derived.Test.YtlpncoeijhpddaaGreatDoorW8
open List (map_take)
set_option maxRecDepth 100000
namespace Gp.Cfg
theorem wH {α:Type} {l:List α}:l.Nodup↔∀(i:Nat) x,l[i]? =some x->x∉l.take i:=by
 unfold List.Nodup;rw[am1];constructor
 ·intro h i x hx hm;obtain⟨hi,rfl⟩:=afg.1 hx;obtain⟨j,hj,he⟩:=am0.1 hm
  grind
 ·intro h i j hi hj hlt he;exact h j l[j] (adP hj) (am0.2 ⟨i,by omega,he⟩)
theorem acv {α:Type} {l:List α} {a:α}:(l++[a]).Nodup↔l.Nodup/\a∉l:=by
 grind
theorem Jc {α β:Type} {f:α->β} {l:List α}:(l.map f).Nodup↔∀(i:Nat) x,l[i]? =some x->∀y∈l.take i,f y≠f x:=by
 rw[wH];constructor
 ·intro h i x hx y hy he;refine h i (f x) (by simp_all) ?_;rw[<- map_take]
  grind
 ·intro h i x hx hm;rw[aiK] at hx
  cases hl:l[i]? with
  |none=>simp_all
  |some z=>
   rw[hl] at hx;simp only[ahF,aho] at hx;subst hx;rw[<- map_take] at hm
   grind
theorem take_snoc {α:Type} {l:List α} {i:Nat} {x:α} (h:l[i]? =some x):l.take (i+1)=l.take i++[x]:=by
 rw[al3,h];rfl
theorem aeb {α:Type} (sw:α->Int) {l:List α} {n:Nat} {q:Int} (hq:1<=q) (hr:∀x∈l,0<=sw x/\sw x<(n:Int)):
  (∀k:Nat,k<n->((l.countP λy=>sw y==(k:Int):Nat):Int)<=q)↔∀(i:Nat) x,l[i]? =some x->1+(((l.take i).countP λy=>sw y==sw x:Nat):Int)<=q:=by
 constructor
 ·intro h i x hx;have hm:=hr x (als hx);have:=h (sw x).toNat (by omega);rw[show (((sw x).toNat:Nat):Int)=sw x by omega] at this;have hs:(l.take (i+1)).countP (λy=>sw y==sw x)<=l.countP λy=>sw y==sw x:=(List.take_sublist _ _).countP_le;rw[take_snoc hx,List.countP_append] at hs
  grind
 ·intro h k _;have key:∀m:Nat,m<=l.length->(((l.take m).countP λy=>sw y==(k:Int):Nat):Int)<=q:=by
   intro m
   induction m with
   |zero=>grind
   |succ m ih=>
    intro hm;have hx:=adP (show m<l.length by omega);rw[take_snoc hx,List.countP_append,List.countP_singleton]
    grind
  have:=key l.length (ajq _)
  simp_all
structure Fine {α β γ:Type} (fi:α->β) (fo:α->γ) (sw:α->Int) (q:Int) (l:List α) (i:Nat) (x:α):Prop where
 one:∀y∈l.take i,fi y≠fi x/\fo y≠fo x
 few:1+(((l.take i).countP λy=>sw y==sw x:Nat):Int)<=q
theorem Ϸ {α β γ:Type} {fi:α->β} {fo:α->γ} (sw:α->Int) {l:List α} {n:Nat} {q:Int} (hq:1<=q) (hr:∀x∈l,0<=sw x/\sw x<(n:Int)):
  (∀(i:Nat) x,l[i]? =some x->Fine fi fo sw q l i x)↔((l.map fi).Nodup/\(l.map fo).Nodup/\∀k:Nat,k<n->((l.countP λy=>sw y==(k:Int):Nat):Int)<=q):=by
 rw[Jc,Jc,aeb sw hq hr];constructor
 ·intro h;exact⟨λi x hx y hy=>((h i x hx).one y hy).1,λi x hx y hy=>((h i x hx).one y hy).2,λi x hx=>(h i x hx).few⟩
 ·rintro⟨h1,h2,h3⟩ i x hx;exact⟨λy hy=>⟨h1 i x hx y hy,h2 i x hx y hy⟩,h3 i x hx⟩
end Gp.Cfg
namespace Go.Proofs.CN
open Gp
abbrev eI (x:Int):List Value:=[Β x]
theorem jJ (x:Int):(eI x).length=1:=rfl
theorem SlN_ix {α:Type} {n:Nat} {f:α->List Value} {w:θ} {s:gG} {xs:List α} (hn:∀x,(f x).length=n) (hn0:0<n) (h:ny n f w s xs) {i:Int} {K:Addr->Prop} {x:α} (h0:0<=i) (hx:xs[i.toNat]? =some x)
  (hK:∀a:Addr,(∀j v,(f x)[j]? =some v->w.cell? (a.add j)=some v)->K a):iK s n i K:=by
 obtain⟨a,ha,hc⟩:=h.at_ hn hn0 hx;have hlt:=(afg.1 hx).1;obtain⟨sa,sl,sc⟩:=s;simp only at ha;subst ha;have hl:sl=xs.length:=h.len;refine(yg ..).2 ⟨h0,by omega,hK _ λj v hj=> ?_⟩;rw[<- hc j v hj];congr 1;obtain⟨b,o,t⟩:=a;unfold Addr.add;by_cases h1:i.toNat * n=0<;>by_cases h2:j=0<;>simp[h1,h2,al8]
def idx {α:Type} (xs:List α) (x:α) (r:Int):Prop:=(∃i:Nat,r=(i:Int)/\xs[i]? =some x/\x∉xs.take i)\/(r= -1/\x∉xs)
theorem ajM {α:Type} {xs:List α} {x:α} {r:Int} (h:idx xs x r):r>=0↔x∈xs:=by
 rcases h with ⟨i,rfl,h1,_⟩|⟨rfl,h1⟩
 ·grind
 simp_all
theorem agv {w:θ} {s:gG} {xs:List Int} (hs:ny 1 eI w s xs) (hl:s.len<=2^62) (x:Int):nY s x w λr w'=>idx xs x r/\w'=w:=by
 apply wM;refine g_ (λst W=>∃j:Nat,j<=xs.length/\st.1=(j:Int)/\W=w/\x∉xs.take j) (λst _=>(s.len - st.1).toNat) ⟨0,by omega,rfl,rfl,by simp⟩ ?_;rintro⟨i,⟨⟩⟩ W ⟨j,hj,hi,hw,hm⟩ next h
 simp only at hi;subst hi;subst hw;have hlen:=hs.len;by_cases u:(j:Int)<(s.len:Int)
 ·simp only[u,acI,abt];have hx:=adP (show j<xs.length by omega);refine SlN_ix jJ (by omega) hs (by omega) (by rw[abu];exact hx) λa hc=> ?_;have c0:=hc 0 _ rfl;rw[show a.add 0=a from rfl] at c0;simp only[sx,c0];by_cases he:x=xs[j]
  ·rw[show (x==xs[j])=true by simp_all,abt];exact⟨.inl ⟨j,rfl,by simp_all,hm⟩,by trivial⟩
  ·rw[show (x==xs[j])=false by simp_all,aaf];rw[Α];refine h _ _ ⟨j+1,by omega,by simp,rfl,?_⟩ (by omega);rw[Gp.Cfg.take_snoc hx,alj,alk]
   simp_all
 ·simp only[u,acR,aaf];refine⟨.inr ⟨rfl,?_⟩,by trivial⟩
  grind
theorem Dx {w:θ} {s:gG} {xs:List Int} (hs:ny 1 eI w s xs) (hl:s.len<=2^62) (x:Int):jd s x w λr w'=>r=decide (x∈xs)/\w'=w:=by
 apply ug;refine cmS1 (agv hs hl x) ?_;rintro r w' ⟨h,hw⟩;exact⟨by simp only[amJ];exact ajM h,hw⟩
def nC (a:Int):Prop:=16777216<=a/\a<3758096384/\a / 16777216≠127
instance (a:Int):Decidable (nC a):=inferInstanceAs (Decidable (_/\_/\_))
theorem Yh {a:Int} (h:0<=a) (h2:a<4294967296):adq a↔nC a:=by
 obtain⟨n,rfl⟩:∃n:Nat,a=(n:Int):=⟨a.toNat,by omega⟩;unfold adq nC;rw[show (0:Int)=((0:Nat):Int) from rfl,show (2130706432:Int)=((2130706432:Nat):Int) from rfl,show (3758096384:Int)=((3758096384:Nat):Int) from rfl,
  show (24:Int)=((24:Nat):Int) from rfl,show (29:Int)=((29:Nat):Int) from rfl,DY (by omega),DY (by omega),DY (by omega),DY (by omega),DY (by omega)]
 grind
theorem AV (a:Int) (w:θ):tH a w λr w'=>r=decide (nC a)/\Ext w w':=by
 by_cases hA:adq a
 ·refine cmS0 (ah0 hA w) ?_;rintro _ w' ⟨rfl,hf⟩;exact⟨(aff ((Yh hA.1 hA.2.1).1 hA)).symm,hf⟩
 apply OV;refine cmS0 (zY a _) ?_;rintro _ w' ⟨rfl,hw⟩;subst hw;by_cases hr:0<=a/\a<4294967296
 ·have hF:¬nC a:=λh=>hA ((Yh hr.1 hr.2).2 h);simp only[hr,alQ,acI,adt,aaf];refine gU λt w1 r1 e1 z1 f1=> ?_;refine cmS0 (K:=λr w2=>r=true/\Ext w1 w2) ?_ ?_
  ·apply Q_;refine g_ (λst W=>∃j:Nat,j<=3/\st.1=(j:Int)/\Ext w1 W/\(0<j->(jR .i64 a 24==jR .i64 0 24)=false)/\(1<j->(jR .i64 a 24==jR .i64 2130706432 24)=false)/\(2<j->(jR .i64 a 29==jR .i64 3758096384 29)=false)) (λst _=>(3 - st.1).toNat)
    ⟨0,by omega,rfl,Ext.refl _,by omega,by omega,by omega⟩ ?_
   rintro⟨i,⟨⟩⟩ W ⟨j,hj,hi,hx,g1,g2,g3⟩ next u
   simp only at hi;subst hi;have r:=r1.ext hx;by_cases I:j<3
   ·have hl:((j:Int)<((3:Nat):Int)):=by omega
    have J:∃x y:Int,0<=y/\y<=32/\W.cell? ⟨t,j * 2,none⟩=some (Β x)/\W.cell? ⟨t,j * 2+1,none⟩=some (Β y)/\
      (((jR .i64 a (32 - y)==jR .i64 x (32 - y))=false)->(0<j+1->(jR .i64 a 24==jR .i64 0 24)=false)/\(1<j+1->(jR .i64 a 24==jR .i64 2130706432 24)=false)/\(2<j+1->(jR .i64 a 29==jR .i64 3758096384 29)=false)):=by
     match j,I,g1,g2,g3 with
     |0,_,_,_,_=>exact⟨0,8,by omega,by omega,r.cell 0,r.cell 1,λh=>⟨λ_=>h,by omega,by omega⟩⟩
     |1,_,g1,_,_=>exact⟨2130706432,8,by omega,by omega,r.cell 2,r.cell 3,λh=>⟨λ_=>g1 (by omega),λ_=>h,by omega⟩⟩
     |2,_,g1,g2,_=>exact⟨3758096384,3,by omega,by omega,r.cell 4,r.cell 5,λh=>⟨λ_=>g1 (by omega),λ_=>g2 (by omega),λ_=>h⟩⟩
    obtain⟨x,y,hy,hy2,c0,c1,hg⟩:=J;simp only[sx,hl,acI,abu,c0,c1];refine⟨by omega,by trivial,?_⟩;refine D5 rfl rfl λb w3 r3 e3 z3 x3=> ?_;simp only[sx,r3.cell];refine cmS0 (Ϥ hy hy2 _) ?_;rintro _ w4 ⟨rfl,x4⟩;by_cases hs:(jR .i64 a (32 - y)==jR .i64 x (32 - y))=true
    ·simp only[hs,hr,alQ,acI,Bool.and_true,abt];exact⟨by trivial,(hx.trans x3).trans x4⟩
    ·have hs:(jR .i64 a (32 - y)==jR .i64 x (32 - y))=false:=by simp_all
     obtain⟨g1,g2,g3⟩:=hg hs;simp only[hs,Bool.and_false,aaf];rw[Α];exact u _ _ ⟨j+1,by omega,by simp,(hx.trans x3).trans x4,g1,g2,g3⟩ (by omega)
   ·exact absurd ⟨hr.1,hr.2,g1 (by omega),g2 (by omega),g3 (by omega)⟩ hA
  ·rintro _ w2 ⟨rfl,f2⟩;exact⟨by simp[hF],f1.trans f2⟩
 ·simp only[hr,acR,afk,abt];have hF:¬nC a:=λh=>hr (by unfold nC at h;omega);exact⟨by simp[hF],Ext.refl _⟩
theorem Rh (a:Int) (w:θ):Az a w λr w'=>r=decide (nC a)/\w'=w:=by
 apply Xx;simp -zeta only;intro J;have hJ:∀b,b=decide (nC a)->J b:=λb hb=>⟨hb,by trivial⟩;clear_value J;by_cases h1:a>=16777216
 ·by_cases h2:a<3758096384
  ·simp only[h1,h2,acI,abt];refine⟨by decide,hJ _ ?_⟩;rw[amK (by omega),Α];unfold nC;by_cases h3:a / 16777216=127<;>simp[h1,h2,h3]
  ·simp only[h1,h2,acI,acR,abt,aaf];exact hJ _ (by unfold nC;simp[h2])
 ·simp only[h1,acR,aaf];exact hJ _ (by unfold nC;simp[h1])
theorem zK (n lo hi:Int) (w:θ):lH n lo hi w λr w'=>r=decide (lo<=n/\n<=hi)/\Ext w w':=by
 apply Nw;refine gU λt w1 r1 e1 z1 f1=> ?_;simp only[sx,r1.cell];by_cases h:lo<=n
 ·simp only[h,acI,abt,afp];exact f1
 ·simp only[h,acR,aaf,false_and];trivial
theorem aag (n lo hi:Int) (w:θ):iY n lo hi w λr w'=>r=decide (lo<=n/\n<=hi)/\w'=w:=by
 apply aaH;by_cases h:lo<=n
 ·have h':=h;simp only[h,acI,abt,afp,alQ]
 ·have h':=h;simp only[h,acR,aaf,false_and,alQ]
def aap (m:Int):Prop:=m=0\/(536<=m/\m<=65535)
instance (m:Int):Decidable (aap m):=inferInstanceAs (Decidable (_\/_))
theorem aha (m:Int) (w:θ):BF m w λr w'=>r=decide (aap m)/\Ext w w':=by
 apply RU;by_cases h:m=0
 ·subst h;simp only[am7,abt];exact⟨by simp[aap],Ext.refl _⟩
 ·rw[show (m==0)=false by simpa using h];simp only[aaf];refine cmS0 (zK _ _ _ _) ?_;rintro _ w' ⟨rfl,hf⟩;exact⟨by simp[aap,h],hf⟩
theorem acH (n:Int) (w:θ):BD n w λr w'=>r=decide (n=1\/n=6\/n=17)/\Ext w w':=by
 apply RS;refine gU λt w1 r1 e1 z1 f1=> ?_;have hs:=(jc.row (xs:=[(1:Int),6,17]) r1).sl jJ (by omega);refine cmS0 (Dx hs (by simp) n) ?_
 grind
end Go.Proofs.CN
namespace Go.Proofs.CN
open Gp
abbrev K16:List Kind:=[.int .u8,.int .u8,.int .u8,.int .u8,.int .u8,.int .u8,.int .u8,.int .u8,.int .u8,.int .u8,.int .u8,.int .u8,.int .u8,.int .u8,.int .u8,.int .u8]
abbrev K7:List Kind:=[.int .i64,.int .i64,.int .i64,.int .i64,.int .i64,.int .i64,.int .i64]
abbrev K4:List Kind:=[.int .i64,.int .i64,.int .i64,.int .i64]
abbrev K3:List Kind:=[.int .i64,.int .i64,.int .i64]
abbrev T16:=Int×Int×Int×Int×Int×Int×Int×Int×Int×Int×Int×Int×Int×Int×Int×Int×Unit
abbrev T7:=Int×Int×Int×Int×Int×Int×Int×Unit
abbrev T4:=Int×Int×Int×Int×Unit
abbrev T3:=Int×Int×Int×Unit
abbrev e16 (x:T16):List Value:=Y4 K16 x
abbrev e7 (x:T7):List Value:=Y4 K7 x
abbrev e4 (x:T4):List Value:=Y4 K4 x
abbrev e3 (x:T3):List Value:=Y4 K3 x
theorem qQ (x:T16):(e16 x).length=16:=rfl
theorem xw (x:T7):(e7 x).length=7:=rfl
def Wy {α:Type} (v:Value) (ev:α->Value) (sh:List Shape) (C:b_) (r:α->Value):Prop:=
 ∀x W (K:Value->b_),C W->(∀W',Ext W W'->K (r x) W')->jF υ sh v [ev x] W K
theorem ah2 {w:θ} {s:gG} {xs:List Int} {v:Value} {p:Int->Bool} {C:b_} (hs:ny 1 eI w s xs) (hl:s.len<=2^62) (hp:Wy v (λx:Int=>Β x) [.one .bool] C λx=> .bool (p x)) (hC:∀W,Ext w W->C W):
  ku s v w λr w'=>(r>=0↔xs.any p=true)/\Ext w w':=by
 apply sS;refine g_ (λst W=>∃j:Nat,j<=xs.length/\st.1=(j:Int)/\Ext w W/\(xs.take j).any p=false) (λst _=>(s.len - st.1).toNat) ⟨0,by omega,rfl,Ext.refl _,by simp⟩ ?_;rintro⟨i,⟨⟩⟩ W ⟨j,hj,hi,hw,hm⟩ next h
 simp only at hi;subst hi;have hlen:=hs.len;by_cases I:(j:Int)<(s.len:Int)
 ·simp only[I,acI,abt];have hx:=adP (show j<xs.length by omega);have J:=Gp.Cfg.take_snoc hx;have u:=akU (show j<xs.length by omega);generalize xs[j]=x at hx J u;refine SlN_ix jJ (by omega) (hs.ext hw) (by omega) (by rw[abu];exact hx) λa hc=> ?_;have hp:=hp x;dsimp only at hp;by_cases he:p x=true
  ·rw[he] at hp;obtain x:=x;have c0:=hc 0 _ rfl;rw[show a.add 0=a from rfl] at c0;simp only[sx,c0];refine hp W _ (hC W hw) λW' hf=>⟨true,rfl,?_⟩;simp only[abt];exact⟨⟨λ_=>anh.2 ⟨_,u,he⟩,λ_=>by omega⟩,hw.trans hf⟩
  ·have he:p x=false:=by simp_all
   rw[he] at hp;obtain x:=x;have c0:=hc 0 _ rfl;rw[show a.add 0=a from rfl] at c0;simp only[sx,c0];refine hp W _ (hC W hw) λW' hf=>⟨false,rfl,?_⟩;simp only[aaf];rw[Α];refine h _ _ ⟨j+1,by omega,by simp,hw.trans hf,?_⟩ (by omega)
   simp_all
 ·simp only[I,acR,aaf]
  grind
theorem Ud {w:θ} {s:gG} {xs:List Int} {v:Value} {p:Int->Bool} {C:b_} (hs:ny 1 eI w s xs) (hl:s.len<=2^62) (hp:Wy v (λx:Int=>Β x) [.one .bool] C λx=> .bool (p x)) (hC:∀W,Ext w W->C W):
  kN s v w λr w'=>r=xs.any p/\Ext w w':=by
 apply yL;refine cmS1 (ah2 hs hl hp hC) ?_
 grind
theorem agu {w:θ} {s:gG} {xs:List T16} {v:Value} {p:T16->Bool} {C:b_} (hs:ny 16 e16 w s xs) (hl:s.len<=2^62) (hp:Wy v (λx:T16=>Value.agg ⟨e16 x⟩) [.one .bool] C λx=> .bool (p x)) (hC:∀W,Ext w W->C W):
  kX s v w λr w'=>(r>=0↔xs.any p=true)/\Ext w w':=by
 apply vT;refine g_ (λst W=>∃j:Nat,j<=xs.length/\st.1=(j:Int)/\Ext w W/\(xs.take j).any p=false) (λst _=>(s.len - st.1).toNat) ⟨0,by omega,rfl,Ext.refl _,by simp⟩ ?_;rintro⟨i,⟨⟩⟩ W ⟨j,hj,hi,hw,hm⟩ next h
 simp only at hi;subst hi;have hlen:=hs.len;by_cases Y:(j:Int)<(s.len:Int)
 ·simp only[Y,acI,abt];have hx:=adP (show j<xs.length by omega);have Z:=Gp.Cfg.take_snoc hx;have u:=akU (show j<xs.length by omega);generalize xs[j]=x at hx Z u;refine SlN_ix qQ (by omega) (hs.ext hw) (by omega) (by rw[abu];exact hx) λa hc=> ?_;have hp:=hp x;dsimp only at hp;by_cases he:p x=true
  ·rw[he] at hp;obtain⟨x0,x1,x2,x3,x4,x5,x6,x7,x8,x9,aa,ab,ac,ae,af,ag,⟨⟩⟩:=x;have c0:=hc 0 _ rfl;have c1:=hc 1 _ rfl;have c2:=hc 2 _ rfl;have c3:=hc 3 _ rfl;have c4:=hc 4 _ rfl;have c5:=hc 5 _ rfl;have c6:=hc 6 _ rfl;have c7:=hc 7 _ rfl;have c8:=hc 8 _ rfl;have c9:=hc 9 _ rfl;have I:=hc 10 _ rfl;have J:=hc 11 _ rfl;have N:=hc 12 _ rfl;have O:=hc 13 _ rfl;have R:=hc 14 _ rfl;have U:=hc 15 _ rfl
   skip
   simp only[sx,c0,c1,c2,c3,c4,c5,c6,c7,c8,c9,I,J,N,O,R,U];refine hp W _ (hC W hw) λW' hf=>⟨true,rfl,?_⟩;simp only[abt];exact⟨⟨λ_=>anh.2 ⟨_,u,he⟩,λ_=>by omega⟩,hw.trans hf⟩
  ·have he:p x=false:=by simp_all
   rw[he] at hp;obtain⟨x0,x1,x2,x3,x4,x5,x6,x7,x8,x9,aa,ab,ac,ae,af,ag,⟨⟩⟩:=x;have c0:=hc 0 _ rfl;have c1:=hc 1 _ rfl;have c2:=hc 2 _ rfl;have c3:=hc 3 _ rfl;have c4:=hc 4 _ rfl;have c5:=hc 5 _ rfl;have c6:=hc 6 _ rfl;have c7:=hc 7 _ rfl;have c8:=hc 8 _ rfl;have c9:=hc 9 _ rfl;have I:=hc 10 _ rfl;have J:=hc 11 _ rfl;have N:=hc 12 _ rfl;have O:=hc 13 _ rfl;have R:=hc 14 _ rfl;have U:=hc 15 _ rfl
   skip
   simp only[sx,c0,c1,c2,c3,c4,c5,c6,c7,c8,c9,I,J,N,O,R,U];refine hp W _ (hC W hw) λW' hf=>⟨false,rfl,?_⟩;simp only[aaf];rw[Α];refine h _ _ ⟨j+1,by omega,by simp,hw.trans hf,?_⟩ (by omega)
   simp_all
 ·simp only[Y,acR,aaf]
  grind
theorem ϩ {w:θ} {s:gG} {xs:List T16} {v:Value} {p:T16->Bool} {C:b_} (hs:ny 16 e16 w s xs) (hl:s.len<=2^62) (hp:Wy v (λx:T16=>Value.agg ⟨e16 x⟩) [.one .bool] C λx=> .bool (p x)) (hC:∀W,Ext w W->C W):
  kH s v w λr w'=>r=xs.any p/\Ext w w':=by
 apply uf;refine cmS1 (agu hs hl hp hC) ?_
 grind
theorem ah3 {w:θ} {s:gG} {xs:List T7} {v:Value} {p:T7->Bool} {C:b_} (hs:ny 7 e7 w s xs) (hl:s.len<=2^62) (hp:Wy v (λx:T7=>Value.agg ⟨e7 x⟩) [.one .bool] C λx=> .bool (p x)) (hC:∀W,Ext w W->C W):
  jX s v w λr w'=>(r>=0↔xs.any p=true)/\Ext w w':=by
 apply rJ;refine g_ (λst W=>∃j:Nat,j<=xs.length/\st.1=(j:Int)/\Ext w W/\(xs.take j).any p=false) (λst _=>(s.len - st.1).toNat) ⟨0,by omega,rfl,Ext.refl _,by simp⟩ ?_;rintro⟨i,⟨⟩⟩ W ⟨j,hj,hi,hw,hm⟩ next h
 simp only at hi;subst hi;have hlen:=hs.len;by_cases I:(j:Int)<(s.len:Int)
 ·simp only[I,acI,abt];have hx:=adP (show j<xs.length by omega);have J:=Gp.Cfg.take_snoc hx;have u:=akU (show j<xs.length by omega);generalize xs[j]=x at hx J u;refine SlN_ix xw (by omega) (hs.ext hw) (by omega) (by rw[abu];exact hx) λa hc=> ?_;have hp:=hp x;dsimp only at hp;by_cases he:p x=true
  ·rw[he] at hp;obtain⟨x0,x1,x2,x3,x4,x5,x6,⟨⟩⟩:=x;have c0:=hc 0 _ rfl;have c1:=hc 1 _ rfl;have c2:=hc 2 _ rfl;have c3:=hc 3 _ rfl;have c4:=hc 4 _ rfl;have c5:=hc 5 _ rfl;have c6:=hc 6 _ rfl
   skip
   simp only[sx,c0,c1,c2,c3,c4,c5,c6];refine hp W _ (hC W hw) λW' hf=>⟨true,rfl,?_⟩;simp only[abt];exact⟨⟨λ_=>anh.2 ⟨_,u,he⟩,λ_=>by omega⟩,hw.trans hf⟩
  ·have he:p x=false:=by simp_all
   rw[he] at hp;obtain⟨x0,x1,x2,x3,x4,x5,x6,⟨⟩⟩:=x;have c0:=hc 0 _ rfl;have c1:=hc 1 _ rfl;have c2:=hc 2 _ rfl;have c3:=hc 3 _ rfl;have c4:=hc 4 _ rfl;have c5:=hc 5 _ rfl;have c6:=hc 6 _ rfl
   skip
   simp only[sx,c0,c1,c2,c3,c4,c5,c6];refine hp W _ (hC W hw) λW' hf=>⟨false,rfl,?_⟩;simp only[aaf];rw[Α];refine h _ _ ⟨j+1,by omega,by simp,hw.trans hf,?_⟩ (by omega)
   simp_all
 ·simp only[I,acR,aaf]
  grind
theorem abR {w:θ} {s:gG} {xs:List T7} {v:Value} {p:T7->Bool} {C:b_} (hs:ny 7 e7 w s xs) (hl:s.len<=2^62) (hp:Wy v (λx:T7=>Value.agg ⟨e7 x⟩) [.one .bool] C λx=> .bool (p x)) (hC:∀W,Ext w W->C W):
  jI s v w λr w'=>r=xs.any p/\Ext w w':=by
 apply qx;refine cmS1 (ah3 hs hl hp hC) ?_
 grind
end Go.Proofs.CN
namespace Go.Proofs.CN
open Gp
instance :DecidableEq T16:=(@instDecidableEqProd Int _ inferInstance (@instDecidableEqProd Int _ inferInstance (@instDecidableEqProd Int _ inferInstance (@instDecidableEqProd Int _ inferInstance (@instDecidableEqProd Int _ inferInstance (@instDecidableEqProd Int _ inferInstance (@instDecidableEqProd Int _ inferInstance (@instDecidableEqProd Int _ inferInstance (@instDecidableEqProd Int _ inferInstance (@instDecidableEqProd Int _ inferInstance (@instDecidableEqProd Int _ inferInstance (@instDecidableEqProd Int _ inferInstance (@instDecidableEqProd Int _ inferInstance (@instDecidableEqProd Int _ inferInstance (@instDecidableEqProd Int _ inferInstance (@instDecidableEqProd Int _ inferInstance inferInstance))))))))))))))))
instance :DecidableEq T7:=(@instDecidableEqProd Int _ inferInstance (@instDecidableEqProd Int _ inferInstance (@instDecidableEqProd Int _ inferInstance (@instDecidableEqProd Int _ inferInstance (@instDecidableEqProd Int _ inferInstance (@instDecidableEqProd Int _ inferInstance (@instDecidableEqProd Int _ inferInstance inferInstance)))))))
instance :DecidableEq T4:=(@instDecidableEqProd Int _ inferInstance (@instDecidableEqProd Int _ inferInstance (@instDecidableEqProd Int _ inferInstance (@instDecidableEqProd Int _ inferInstance inferInstance))))
instance :DecidableEq T3:=(@instDecidableEqProd Int _ inferInstance (@instDecidableEqProd Int _ inferInstance (@instDecidableEqProd Int _ inferInstance inferInstance)))
theorem akT (a b:T16):Fz υ 16 23 (.agg ⟨e16 a⟩) (.agg ⟨e16 b⟩)=some (decide (a=b)):=by
 obtain⟨a0,a1,a2,a3,a4,a5,a6,a7,a8,a9,u,I,a12,J,N,O,⟨⟩⟩:=a;obtain⟨b0,b1,b2,b3,b4,b5,b6,b7,b8,b9,R,U,W,Y,Z,aa,⟨⟩⟩:=b;have h:Fz υ 16 23 (.agg ⟨e16 (a0,a1,a2,a3,a4,a5,a6,a7,a8,a9,u,I,a12,J,N,O,())⟩) (.agg ⟨e16 (b0,b1,b2,b3,b4,b5,b6,b7,b8,b9,R,U,W,Y,Z,aa,())⟩)=some ((a0==b0) && ((a1==b1) && ((a2==b2) && ((a3==b3) && ((a4==b4) && ((a5==b5) && ((a6==b6) && ((a7==b7) && ((a8==b8) && ((a9==b9) && ((u==R) && ((I==U) && ((a12==W) && ((J==Y) && ((N==Z) && ((O==aa) && true)))))))))))))))):=by kernel_rfl
 rw[h];simp[agt]
theorem eq4 (a b:T4):Fz υ 16 54 (.agg ⟨e4 a⟩) (.agg ⟨e4 b⟩)=some (decide (a=b)):=by
 obtain⟨a0,a1,a2,a3,⟨⟩⟩:=a;obtain⟨b0,b1,b2,b3,⟨⟩⟩:=b;have h:Fz υ 16 54 (.agg ⟨e4 (a0,a1,a2,a3,())⟩) (.agg ⟨e4 (b0,b1,b2,b3,())⟩)=some ((a0==b0) && ((a1==b1) && ((a2==b2) && ((a3==b3) && true)))):=by kernel_rfl
 rw[h];simp[agt]
theorem eq3 (a b:T3):Fz υ 16 56 (.agg ⟨e3 a⟩) (.agg ⟨e3 b⟩)=some (decide (a=b)):=by
 obtain⟨a0,a1,a2,⟨⟩⟩:=a;obtain⟨b0,b1,b2,⟨⟩⟩:=b;have h:Fz υ 16 56 (.agg ⟨e3 (a0,a1,a2,())⟩) (.agg ⟨e3 (b0,b1,b2,())⟩)=some ((a0==b0) && ((a1==b1) && ((a2==b2) && true))):=by kernel_rfl
 rw[h];simp[agt]
theorem akZ (a:T16):oJ υ 23 (.agg ⟨e16 a⟩)=true:=by unfold oJ;rw[akT];rfl
theorem agz (a:T4):oJ υ 54 (.agg ⟨e4 a⟩)=true:=by unfold oJ;rw[eq4];rfl
theorem aez (a:T3):oJ υ 56 (.agg ⟨e3 a⟩)=true:=by unfold oJ;rw[eq3];rfl
theorem eq1 (a b:Int):Fz υ 16 3 (Β a) (Β b)=some (decide (a=b)):=eqP a b
theorem key1 (a:Int):oJ υ 3 (Β a)=true:=ah9 a
theorem ϋ {α:Type} [DecidableEq α] {sh:List Shape} {kt T:TypeId} {f:α->zZ sh} {enc:α->Value} (eqE:∀a b,Fz υ 16 kt (enc a) (enc b)=some (decide (a=b))) (keyE:∀a,oJ υ kt (enc a)=true) {w:θ} {v:Value} {C:b_} {ys:List α} (hv:qE υ sh v C (ys.map f)) (hC:∀W,Ext w W->C W)
  {body:Addr->Addr->Nat->zZ sh->θ->(Exit->b_)->Prop} {K:Bool->b_} (hK:∀r w',(r=true↔¬ys.Nodup)->Ext w w'->K r w')
  (hb:∀(a b m l:Nat) (y:α) (W:θ) (Kb:Exit->b_),Row W b [.map (some m)]->l<W.heap.size->b≠l->(∀W',Ext W W'->qF υ kt .bool (some m) (enc y) (.bool false) (gQ W' l) λx=>bif x then St (gQ W' l) ⟨a,0,none⟩ (.bool true) λw=>Kb .ret w else pq υ kt (some m) (enc y) (.bool true) (gQ W' l) λw=>Kb .normal w)->body ⟨a,0,none⟩ ⟨b,0,none⟩ l (f y) W Kb):
  Al w (.cells ⟨[.bool false]⟩ 4) λa3 w2=>Al w2 (.map #[] 0) λ _ w4=>Al w4 (.cells ⟨[.map none]⟩ T) λa7 w6=>St w6 a7 (.map (some w2.heap.size)) λw8=>xO υ none sh v w8 (body a3 a7)
   (λO=>St O a3 (.bool false) λI=>I.heap[w8.heap.size]? =some (.deferred (some []))/\Ld .bool (I.putObj w8.heap.size (.deferred none)) a3 λR=>K R (I.putObj w8.heap.size (.deferred none)))
   (λJ=>J.heap[w8.heap.size]? =some (.deferred (some []))/\Ld .bool (J.putObj w8.heap.size (.deferred none)) a3 λU=>K U (J.putObj w8.heap.size (.deferred none))) []:=by
 refine gU λa w1 ra ea z1 f1=>aji λw2 m2 z2 f2=>gU λb w3 rb eb z3 f3=> ?_;refine iC rb rfl (by simp) λw4 rb f4 z4=> ?_;simp only[af5] at rb;have ra4:=((ra.ext f2).ext f3).fr (f4 (·=b) rfl) (by omega);have m4:=((m2 _ enc).ext f3).fr (f4 (·=b) rfl) (by omega);have x4:=((f1.trans f2).trans f3).new (f4 (·=b) rfl) λx hx e=>by omega
 clear f4;generalize hm:w1.heap.size=m at *;have lq:lM none w4=w4.heap.size+1:=rfl;refine vU hv (λi W=>Row W a [.bool false]/\Row W b [.map (some m)]/\Am enc W m (ys.take i)/\(ys.take i).Nodup/\Ext w W)
  (λe W=>e= .ret/\Row W a [.bool true]/\¬ys.Nodup/\Ext w W) (by simp) (λW hx _=>⟨ra4.ext hx,rb.ext hx,m4.ext hx,by simp,x4.trans hx⟩) (λi W h=>hC W h.2.2.2.2) ?_ ?_ (λe W hJ=> .inl hJ.1) ?_ ?_ ?_ (λid W h=>by cases h.1)
 ·rintro i W W' ⟨h1,h2,h3,h4,h5⟩ hf;rw[lq] at hf;exact⟨h1.fr hf (by omega),h2.fr hf (by omega),h3.fr hf (by omega),h4,h5.new hf λx hx e=>by omega⟩
 ·rintro e W W' ⟨h1,h2,h3,h4⟩ hf;rw[lq] at hf;exact⟨h1,h2.fr hf (by omega),h3,h4.new hf λx hx e=>by omega⟩
 ·rintro i y W Kb hx ⟨h1,h2,h3,h4,h5⟩ N hn hj;obtain⟨y',hy',rfl⟩:=ams.1 (by rw[aiK] at hx;exact hx);have Y:=Gp.Cfg.take_snoc hy';rw[lq] at N hn hj ⊢;refine hb a b m _ y' W Kb h2 N (by omega) λW' hW'=> ?_;have fb:ig W' (gQ W' (w4.heap.size+1)) (·=w4.heap.size+1):=ig.gQ W' _;have fc:∀S:Nat->Prop,ig (gQ W (w4.heap.size+1)) (gQ W' (w4.heap.size+1)) S:=λS=>Dh (hW' S) _;generalize gQ W' (w4.heap.size+1)=W3 at fb fc ⊢;have k1:=(h1.ext hW').fr fb (by omega);have k2:=(h2.ext hW').fr fb (by omega);have k3:=(h3.ext hW').fr fb (by omega);have k5:=(h5.trans hW').new fb λx hx e=>by omega
  refine afm k3 eqE y' (keyE _) ?_;by_cases u:y'∈ys.take i
  ·simp only[u,acI,abt];refine iC k1 rfl (by simp) λW4 q1 g1 z4=> ?_;simp only[af5] at q1;refine hj .ret W4 (·=a) ((fc _).trans (g1 (·=a) rfl) λ_ _ e=>e) (λx hx1 hx2 e=>by omega) ⟨rfl,q1,λZ=>Gp.Cfg.wH.1 Z i _ hy' u,k5.new (g1 (·=a) rfl) λx hx e=>by omega⟩
  ·simp only[u,acR,aaf];refine afn k3 eqE _ (keyE _) u λW4 q3 g3 z4=> ?_;refine hn W4 (·=m) ((fc _).trans g3 λ_ _ e=>e) (λx hx1 hx2 e=>by omega) ⟨k1.fr g3 (by omega),k2.fr g3 (by omega),?_,?_,k5.new g3 λx hx e=>by omega⟩
   ·rw[Y];exact q3
   grind
 ·rintro W ⟨h1,h2,h3,h4,h5⟩ hm';have hm':=hm' rfl;rw[ali (by simp)] at h4;refine iC h1 rfl (by simp) λW4 q1 g1 z4=> ?_;simp only[af5] at q1;have z5:=x4.size;refine⟨by rw[<- hm'];exact(g1 (·=a) rfl).same _ (by grind) (by omega),iF (q1.fr (ig.nG W4 w4.heap.size (.deferred none)) (by omega)) rfl ?_⟩;exact hK _ _ (by simp[h4]) ((h5.new (g1 (·=a) rfl) λx hx e=>by omega).new (ig.nG W4 w4.heap.size (.deferred none)) λx hx e=>by omega)
 ·rintro W ⟨_,h1,h2,h3⟩ hm';have z5:=x4.size;refine⟨hm' rfl,iF (h1.fr (ig.nG W w4.heap.size (.deferred none)) (by omega)) rfl ?_⟩;exact hK _ _ (by simp[h2]) (h3.new (ig.nG W w4.heap.size (.deferred none)) λx hx e=>by omega)
theorem akm {w:θ} {v:Value} {C:b_} {ys:List Int} (hv:qE υ [.one ν] v C (ys.map λy=>(y,()))) (hC:∀W,Ext w W->C W):
  vX v w λr w'=>(r=true↔¬ys.Nodup)/\Ext w w':=by
 apply Le;refine ϋ (K:=λr w'=>(r=true↔¬ys.Nodup)/\Ext w w') eq1 key1 hv hC (λ_ _ h1 h2=>⟨h1,h2⟩) λa b m l y W Kb hr hl u h=>⟨rfl,?_⟩;simp only[sx,(hr.fr (ig.gQ W l) u).cell];exact h W (Ext.refl W)
theorem aiU {w:θ} {v:Value} {C:b_} {ys:List T16} (hv:qE υ [.agg K16] v C (ys.map λy=>(y,()))) (hC:∀W,Ext w W->C W):
  qH v w λr w'=>(r=true↔¬ys.Nodup)/\Ext w w':=by
 apply EY;refine ϋ (K:=λr w'=>(r=true↔¬ys.Nodup)/\Ext w w') akT akZ hv hC (λ_ _ h1 h2=>⟨h1,h2⟩) λa b m l y W Kb hr hl u h=> ?_;obtain⟨y0,y1,y2,y3,y4,y5,y6,y7,y8,y9,y10,y11,y12,y13,y14,y15,⟨⟩⟩:=y;refine gU λt w1 r1 e1 z1 f1=>gZ r1 rfl rfl λw2 r2 f2' z2=> ?_;have f2:=f1.new (f2' (·=t) rfl) λx hx e=>by omega
 have hl2:=f2.size;refine⟨(f2 λ_=>False).same _ hl (by simp),?_⟩;simp only[sx,((hr.ext f2).fr (ig.gQ w2 l) u).cell,(r2.fr (ig.gQ w2 l) (by omega)).cell];exact h w2 f2
theorem ako {w:θ} {v:Value} {C:b_} {ys:List T4} (hv:qE υ [.agg K4] v C (ys.map λy=>(y,()))) (hC:∀W,Ext w W->C W):
  pz v w λr w'=>(r=true↔¬ys.Nodup)/\Ext w w':=by
 apply CX;refine ϋ (K:=λr w'=>(r=true↔¬ys.Nodup)/\Ext w w') eq4 agz hv hC (λ_ _ h1 h2=>⟨h1,h2⟩) λa b m l y W Kb hr hl u h=> ?_;obtain⟨y0,y1,y2,y3,⟨⟩⟩:=y;refine gU λt w1 r1 e1 z1 f1=>gZ r1 rfl rfl λw2 r2 f2' z2=> ?_;have f2:=f1.new (f2' (·=t) rfl) λx hx e=>by omega
 have hl2:=f2.size;refine⟨(f2 λ_=>False).same _ hl (by simp),?_⟩;simp only[sx,((hr.ext f2).fr (ig.gQ w2 l) u).cell,(r2.fr (ig.gQ w2 l) (by omega)).cell];exact h w2 f2
theorem akn {w:θ} {v:Value} {C:b_} {ys:List T3} (hv:qE υ [.agg K3] v C (ys.map λy=>(y,()))) (hC:∀W,Ext w W->C W):
  pF v w λr w'=>(r=true↔¬ys.Nodup)/\Ext w w':=by
 apply CY;refine ϋ (K:=λr w'=>(r=true↔¬ys.Nodup)/\Ext w w') eq3 aez hv hC (λ_ _ h1 h2=>⟨h1,h2⟩) λa b m l y W Kb hr hl u h=> ?_;obtain⟨y0,y1,y2,⟨⟩⟩:=y;refine gU λt w1 r1 e1 z1 f1=>gZ r1 rfl rfl λw2 r2 f2' z2=> ?_;have f2:=f1.new (f2' (·=t) rfl) λx hx e=>by omega
 have hl2:=f2.size;refine⟨(f2 λ_=>False).same _ hl (by simp),?_⟩;simp only[sx,((hr.ext f2).fr (ig.gQ w2 l) u).cell,(r2.fr (ig.gQ w2 l) (by omega)).cell];exact h w2 f2
end Go.Proofs.CN
namespace Go.Proofs.CN
open Gp
def ajv:T16->Bool
 |(x0,x1,x2,x3,x4,x5,x6,x7,x8,x9,x10,x11,x12,x13,x14,x15,())=>((x0==0) && ((x1==0) && ((x2==0) && ((x3==0) && ((x4==0) && ((x5==0) && ((x6==0) && ((x7==0) && ((x8==0) && ((x9==0) && ((x10==0) && ((x11==0) && ((x12==0) && ((x13==0) && ((x14==0) && ((x15==0) && true))))))))))))))))
def qm (x:T16):Bool:= !(ajv x) && (x.1 !=255)
theorem Rj {p0 p1 p2 p3 p4 p5 p6 p7 p8 p9 p10 p11 p12 p13 p14 p15:Int} (w:θ):Gl p0 p1 p2 p3 p4 p5 p6 p7 p8 p9 p10 p11 p12 p13 p14 p15 w λr w'=>r=qm (p0,p1,p2,p3,p4,p5,p6,p7,p8,p9,p10,p11,p12,p13,p14,p15,())/\Ext w w':=by
 apply aaI;refine gU λa w1 ra ea z1 f1=>gU λb w2 rb eb z2 f2=> ?_;have ra:=ra.ext f2;simp only[sx,ra.cell,rb.cell];have he:∀c:Bool,c=ajv (p0,p1,p2,p3,p4,p5,p6,p7,p8,p9,p10,p11,p12,p13,p14,p15,())->((bif !c then (0:Int)<=0/\(0:Int)<16/\((p0 !=255)=qm (p0,p1,p2,p3,p4,p5,p6,p7,p8,p9,p10,p11,p12,p13,p14,p15,())/\Ext w w2) else (false=qm (p0,p1,p2,p3,p4,p5,p6,p7,p8,p9,p10,p11,p12,p13,p14,p15,())/\Ext w w2))):=by
  intro c hc;unfold qm;rw[<- hc]
  cases c
  ·exact⟨by omega,by omega,by simp,f1.trans f2⟩
  ·exact⟨by simp,f1.trans f2⟩
 exact he _ rfl
theorem VK {p0 p1 p2 p3 p4 p5 p6 p7 p8 p9 p10 p11 p12 p13 p14 p15:Int} (w:θ):AA p0 p1 p2 p3 p4 p5 p6 p7 p8 p9 p10 p11 p12 p13 p14 p15 w λr w'=>r=qm (p0,p1,p2,p3,p4,p5,p6,p7,p8,p9,p10,p11,p12,p13,p14,p15,())/\Ext w w':=by
 apply Xy;refine gU λa w1 ra ea z1 f1=> ?_;simp only[sx,ra.cell];have he:∀c:Bool,c=ajv (p0,p1,p2,p3,p4,p5,p6,p7,p8,p9,p10,p11,p12,p13,p14,p15,())->((bif !c then (0:Int)<=0/\(0:Int)<16/\((p0 !=255)=qm (p0,p1,p2,p3,p4,p5,p6,p7,p8,p9,p10,p11,p12,p13,p14,p15,())/\Ext w w1) else (false=qm (p0,p1,p2,p3,p4,p5,p6,p7,p8,p9,p10,p11,p12,p13,p14,p15,())/\Ext w w1))):=by
  intro c hc;unfold qm;rw[<- hc]
  cases c
  ·exact⟨by omega,by omega,by simp,f1⟩
  ·exact⟨by simp,f1⟩
 exact he _ rfl
def Fq (n:Nat) (pl:List Int):T7->Prop
 |(q0,q1,q2,q3,q4,q5,q6,())=>((0<=q3/\q3<=65535)/\(0<=q6/\q6<=65535))/\(nC q2/\q5∈pl)/\((q1=1\/q1=6\/q1=17)/\q1=q4)/\(0<=q0/\q0<=(n:Int) - 1)
instance (n:Nat) (pl:List Int) (x:T7):Decidable (Fq n pl x):=by
 obtain⟨q0,q1,q2,q3,q4,q5,q6,⟨⟩⟩:=x;exact inferInstanceAs (Decidable (_/\_/\_/\_))
theorem Ti {w:θ} {p0 p1 p2 p3 p4 p5 p6 p7 p8 p9 p10 p11 p12 p13 p14 p15:Int} {sw po:gG} {n18 n19 n20 n21 n22 n23 n24 n25 n26 n27 n28 n29 n30 n31 n32 n33 n34:Int} {st:gG} {q0 q1 q2 q3 q4 q5 q6:Int} {pl:List Int} (hsl:sw.len<=2^62) (J:ny 1 eI w po pl) (N:po.len<=2^62):
  D9 p0 p1 p2 p3 p4 p5 p6 p7 p8 p9 p10 p11 p12 p13 p14 p15 sw po n18 n19 n20 n21 n22 n23 n24 n25 n26 n27 n28 n29 n30 n31 n32 n33 n34 st q0 q1 q2 q3 q4 q5 q6 w λr w'=>r=decide (Fq sw.len pl (q0,q1,q2,q3,q4,q5,q6,()))/\Ext w w':=by
 apply U5;refine gU λa w1 ra ea z1 f1=>gU λb w2 rb eb z2 f2=> ?_;have ra:=ra.ext f2;have x2:=f1.trans f2;clear f1 f2;simp -zeta only[sx,rb.cell];intro J7;have hJ7:∀c1 W,Ext w2 W->c1=decide ((0<=q3/\q3<=65535)/\(0<=q6/\q6<=65535))->J7 c1 W:=by
  intro c1 W hx h1;have ra:=ra.ext hx;have rb:=rb.ext hx;simp -zeta only[J7];intro u;have hJ10:∀c2 W',Ext W W'->c2=decide (nC q2/\q5∈pl)->u c2 W':=by
   intro c2 W' hx' h2;have ra:=ra.ext hx';have rb:=rb.ext hx';simp -zeta only[u];intro I;have hJ13:∀c3 W'',Ext W' W''->c3=decide ((q1=1\/q1=6\/q1=17)/\q1=q4)->I c3 W'':=by
    intro c3 W'' hx'' h3;have ra:=ra.ext hx'';have rb:=rb.ext hx'';simp only[I,d_,gJ,h_,gK,ra.cell,rb.cell];have xx:=((x2.trans hx).trans hx').trans hx'';have fin:∀c4:Bool,c4=(decide ((0<=q3/\q3<=65535)/\(0<=q6/\q6<=65535)) && (decide (nC q2/\q5∈pl) && (decide ((q1=1\/q1=6\/q1=17)/\q1=q4) && decide (0<=q0/\q0<=(sw.len:Int) - 1))))->c4=decide (Fq sw.len pl (q0,q1,q2,q3,q4,q5,q6,())):=by
     intro c4 h;rw[h,<- alS,<- alS,<- alS];rfl
    rw[<- h1,<- h2,<- h3] at fin
    cases c1
    ·exact⟨fin _ (by simp),xx⟩
    ·cases c2
     ·exact⟨fin _ (by simp),xx⟩
     ·cases c3
      ·exact⟨fin _ (by simp),xx⟩
      ·simp only[abt];rw[Α];refine cmS0 (zK _ _ _ _) ?_;rintro _ w' ⟨rfl,hf⟩;exact⟨fin _ (by simp),xx.trans hf⟩
   simp -zeta only[d_,gJ,gK,rb.cell];refine cmS0 (acH _ _) ?_;rintro _ w' ⟨rfl,hf⟩;have rb:=rb.ext hf;by_cases hp:(q1=1\/q1=6\/q1=17)
   ·simp -zeta only[hp,acI,abt,abt,d_,gJ,gK,rb.cell];exact hJ13 _ _ hf (by grind)
   ·simp -zeta only[hp,acR,aaf];exact hJ13 _ _ hf (adX λh=>hp h.1).symm
  simp -zeta only[d_,gJ,gK,rb.cell];refine cmS0 (AV _ _) ?_;rintro _ w' ⟨rfl,hf⟩;have rb:=rb.ext hf;have ra:=ra.ext hf;by_cases hp:nC q2
  ·simp -zeta only[hp,acI,abt,abt,d_,gJ,h_,gK,rb.cell,ra.cell];refine cmS0 (Dx (((J.ext x2).ext hx).ext hf) N _) ?_;rintro _ w'' ⟨rfl,hw⟩;subst hw;exact hJ10 _ _ hf (by simp[hp])
  ·simp -zeta only[hp,acR,aaf];exact hJ10 _ _ hf (by simp[hp])
 refine cmS0 (zK _ _ _ _) ?_;rintro _ w' ⟨rfl,hf⟩;have rb:=rb.ext hf;by_cases hp:(0<=q3/\q3<=65535)
 ·simp -zeta only[hp,alQ,acI,abt,abt,d_,gJ,gK,rb.cell];refine cmS0 (zK _ _ _ _) ?_;rintro _ w'' ⟨rfl,hf'⟩;exact hJ7 _ _ (hf.trans hf') (by simp[hp])
 ·simp -zeta only[hp,acR,aaf];exact hJ7 _ _ hf (by simp[hp])
theorem agy {p0 p1 p2 p3 p4 p5 p6 p7 p8 p9 p10 p11 p12 p13 p14 p15:Int} (w:θ):wJ p0 p1 p2 p3 p4 p5 p6 p7 p8 p9 p10 p11 p12 p13 p14 p15 w λr0 r1 r2 r3 r4 r5 r6 r7 r8 r9 h u I J N O w'=>((r0,r1,r2,r3,r4,r5,r6,r7,r8,r9,h,u,I,J,N,O,()):T16)=(p0,p1,p2,p3,p4,p5,p6,p7,p8,p9,p10,p11,p12,p13,p14,p15,())/\Ext w w':=by
 apply Ez;refine gU λa w1 ra ea z1 f1=>gU λb w2 rb eb z2 f2=> ?_;have ra:=ra.ext f2;simp only[sx,ra.cell];refine gZ rb rfl rfl λw3 r3 f3 z3=> ?_;simp only[d_,gJ,gK,r3.cell];exact⟨by trivial,(f1.trans f2).new (f3 (·=b) rfl) λx hx e=>by omega⟩
def wG:T7->T4|(q0,q1,q2,q3,_,_,_,())=>(q0,q1,q2,q3,())
def xH:T7->T3|(_,_,_,_,q4,q5,q6,())=>(q4,q5,q6,())
theorem agw {q0 q1 q2 q3 q4 q5 q6:Int} (w:θ):Bv q0 q1 q2 q3 q4 q5 q6 w λr0 r1 r2 r3 w'=>(r0=q0/\r1=q1/\r2=q2/\r3=q3)/\Ext w w':=by
 apply KZ;refine gU λa w1 ra ea z1 f1=>gU λb w2 rb eb z2 f2=> ?_;have ra:=ra.ext f2;simp only[sx,ra.cell];refine gZ rb rfl rfl λw3 r3 f3 z3=> ?_;simp only[d_,gJ,gK,r3.cell,alQ,afp];exact(f1.trans f2).new (f3 (·=b) rfl) λx hx e=>by omega
theorem agS {q0 q1 q2 q3 q4 q5 q6:Int} (w:θ):Bz q0 q1 q2 q3 q4 q5 q6 w λr0 r1 r2 w'=>(r0=q4/\r1=q5/\r2=q6)/\Ext w w':=by
 apply K_;refine gU λa w1 ra ea z1 f1=>gU λb w2 rb eb z2 f2=> ?_;have ra:=ra.ext f2;simp only[sx,ra.cell];refine gZ rb rfl rfl λw3 r3 f3 z3=> ?_;simp only[d_,gJ,gK,r3.cell,alQ,afp];exact(f1.trans f2).new (f3 (·=b) rfl) λx hx e=>by omega
theorem kJ {f:FuncId} {cap:Array Value} {sh:List Shape} {args:List Value} {w:θ} {K:Value->b_} (hb:o9 υ f=true) (h:Ii υ sh f (args++cap.toList) w K):
  jF υ sh (.func (.func f) #[] cap) args w K:=by
 unfold jF;simp only[hb,abt];exact h
theorem ab4:Wy (.func (.func KU) #[] #[]) (λx:Int=>Β x) [.one ν] (λ_=>True) (λx=>Β x):=by
 intro x W K _ hK;refine kJ (by kernel_rfl) ?_;refine Calls.mono (Ji (K:=λr W'=>r=x/\Ext W W') ?_) ?_
 ·exact⟨rfl,Ext.refl _⟩
 ·rintro e W' ⟨r,he,rfl,hf⟩;exact⟨r,he,hK W' hf⟩
theorem Ϲ:Wy (.func (.func EW) #[] #[]) (λx:T16=>Value.agg ⟨e16 x⟩) [.agg K16] (λ_=>True) (λx:T16=>Value.agg ⟨e16 x⟩):=by
 intro x W K _ hK;obtain⟨p0,p1,p2,p3,p4,p5,p6,p7,p8,p9,p10,p11,p12,p13,p14,p15,⟨⟩⟩:=x;refine kJ (by kernel_rfl) ?_;refine Calls.mono (agy W) ?_;rintro e W' ⟨r0,r1,r2,r3,r4,r5,r6,r7,r8,r9,u,I,J,N,O,R,he,h,hf⟩;refine⟨r0,r1,r2,r3,r4,r5,r6,r7,r8,r9,u,I,J,N,O,R,he,?_⟩;have hK:=hK W' hf;rw[<- h] at hK;exact hK
theorem agb:Wy (.func (.func Nr) #[] #[]) (λx:T7=>Value.agg ⟨e7 x⟩) [.agg K4] (λ_=>True) (λx:T7=>Value.agg ⟨e4 (wG x)⟩):=by
 intro x W K _ hK;obtain⟨q0,q1,q2,q3,q4,q5,q6,⟨⟩⟩:=x;refine kJ (by kernel_rfl) ?_;refine Calls.mono (agw W) ?_;rintro e W' ⟨r0,r1,r2,r3,he,⟨rfl,rfl,rfl,rfl⟩,hf⟩;exact⟨r0,r1,r2,r3,he,hK W' hf⟩
theorem agc:Wy (.func (.func Ns) #[] #[]) (λx:T7=>Value.agg ⟨e7 x⟩) [.agg K3] (λ_=>True) (λx:T7=>Value.agg ⟨e3 (xH x)⟩):=by
 intro x W K _ hK;obtain⟨q0,q1,q2,q3,q4,q5,q6,⟨⟩⟩:=x;refine kJ (by kernel_rfl) ?_;refine Calls.mono (agS W) ?_;rintro e W' ⟨r0,r1,r2,he,⟨rfl,rfl,rfl⟩,hf⟩;exact⟨r0,r1,r2,he,hK W' hf⟩
theorem ab3:Wy (.func (.func Qh) #[] #[]) (λx:T16=>Value.agg ⟨e16 x⟩) [.one .bool] (λ_=>True) (λx:T16=> .bool (!qm x)):=by
 intro x W K _ hK;obtain⟨p0,p1,p2,p3,p4,p5,p6,p7,p8,p9,p10,p11,p12,p13,p14,p15,⟨⟩⟩:=x;refine kJ (by kernel_rfl) ?_;refine Calls.mono (OO (K:=λr W'=>r= !qm (p0,p1,p2,p3,p4,p5,p6,p7,p8,p9,p10,p11,p12,p13,p14,p15,())/\Ext W W') ?_) ?_
 ·refine gU λa w1 ra ea z1 f1=> ?_;simp only[sx,ra.cell];refine cmS0 (Rj w1) ?_;rintro _ w' ⟨rfl,hf⟩;exact⟨rfl,f1.trans hf⟩
 ·rintro e W' ⟨r,he,rfl,hf⟩;exact⟨_,he,hK W' hf⟩
theorem Ϻ:Wy (.func (.func Qi) #[] #[]) (λx:Int=>Β x) [.one .bool] (λ_=>True) (λx:Int=> .bool (!decide (nC x))):=by
 intro x W K _ hK;refine kJ (by kernel_rfl) ?_;refine Calls.mono (OQ (K:=λr W'=>r= !decide (nC x)/\Ext W W') ?_) ?_
 ·refine cmS0 (AV x W) ?_;simp
 ·rintro e W' ⟨r,he,rfl,hf⟩;exact⟨_,he,hK W' hf⟩
theorem agf {f0:Nat} {p0 p1 p2 p3 p4 p5 p6 p7 p8 p9 p10 p11 p12 p13 p14 p15:Int} {sw po:gG} {n18 n19 n20 n21 n22 n23 n24 n25 n26 n27 n28 n29 n30 n31 n32 n33 n34:Int} {st:gG} {pl:List Int} (h:sw.len<=2^62) (u:po.len<=2^62):
  Wy (.func (.func Qj) #[] #[.pointer (some ⟨f0,0,none⟩)]) (λx:T7=>Value.agg ⟨e7 x⟩) [.one .bool]
   (λW=>Row W f0 (.int .u8 p0:: .int .u8 p1:: .int .u8 p2:: .int .u8 p3:: .int .u8 p4:: .int .u8 p5:: .int .u8 p6:: .int .u8 p7:: .int .u8 p8:: .int .u8 p9:: .int .u8 p10:: .int .u8 p11:: .int .u8 p12:: .int .u8 p13:: .int .u8 p14:: .int .u8 p15:: Δ sw:: Δ po:: Β n18:: Β n19:: Β n20:: Β n21:: Β n22:: Β n23:: Β n24:: Β n25:: Β n26:: Β n27:: Β n28:: Β n29:: Β n30:: Β n31:: Β n32:: Β n33:: Β n34:: Δ st::[])/\ny 1 eI W po pl) (λx:T7=> .bool (!decide (Fq sw.len pl x))):=by
 rintro x W K ⟨hr,I⟩ hK;obtain⟨q0,q1,q2,q3,q4,q5,q6,⟨⟩⟩:=x;refine kJ (by kernel_rfl) ?_;refine Calls.mono (OT (K:=λr W'=>r= !decide (Fq sw.len pl (q0,q1,q2,q3,q4,q5,q6,()))/\Ext W W') ?_) ?_
 ·refine gU λa w1 ra ea z1 f1=> ?_;have hr:=hr.ext f1;simp only[sx,ra.cell,hr.cell];refine cmS0 (Ti h (I.ext f1) u) ?_;rintro _ w' ⟨rfl,hf⟩;exact⟨rfl,f1.trans hf⟩
 ·rintro e W' ⟨r,he,rfl,hf⟩;exact⟨_,he,hK W' hf⟩
theorem ahR {f0:Nat} {p0 p1 p2 p3 p4 p5 p6 p7 p8 p9 p10 p11 p12 p13 p14 p15:Int} {sw po:gG} {n18 n19 n20 n21 n22 n23 n24 n25 n26 n27 n28 n29 n30 n31 n32 n33 n34:Int} {st:gG}:
  Wy (.func (.func Nu) #[] #[.pointer (some ⟨f0,0,none⟩)]) (λx:Int=>Β x) [.one .bool]
   (λW=>Row W f0 (.int .u8 p0:: .int .u8 p1:: .int .u8 p2:: .int .u8 p3:: .int .u8 p4:: .int .u8 p5:: .int .u8 p6:: .int .u8 p7:: .int .u8 p8:: .int .u8 p9:: .int .u8 p10:: .int .u8 p11:: .int .u8 p12:: .int .u8 p13:: .int .u8 p14:: .int .u8 p15:: Δ sw:: Δ po:: Β n18:: Β n19:: Β n20:: Β n21:: Β n22:: Β n23:: Β n24:: Β n25:: Β n26:: Β n27:: Β n28:: Β n29:: Β n30:: Β n31:: Β n32:: Β n33:: Β n34:: Δ st::[])) (λx:Int=> .bool (decide (x>n20))):=by
 rintro x W K hr hK;refine kJ (by kernel_rfl) ?_;refine Calls.mono (La (K:=λr W'=>r=decide (x>n20)/\Ext W W') ?_) ?_
 ·simp only[sx,hr.cell];exact⟨by trivial,Ext.refl _⟩
 ·rintro e W' ⟨r,he,rfl,hf⟩;exact⟨_,he,hK W' hf⟩
end Go.Proofs.CN
namespace Go.Proofs.CN
open Gp
theorem SX {α β:Type} {xs:List α} {k:α->β} {i:Nat} {x:α} (h:xs[i]? =some x):(((xs.map k).map λy=>(y,())):List (β×Unit))[i]? =some (k x,()):=by
 simp_all
theorem Oz {f0 f1:Nat} {s:gG} {xs:List Int} {fv:Value} {k:Int->Int} (hl:s.len<=2^62) (hk:Wy fv (λx:Int=>Β x) [.one ν] (λ_=>True) (λx=>(λx:Int=>Β x) (k x))):
  qE υ [.one ν] (Value.func (.func EU) #[] #[.pointer (some ⟨f0,0,none⟩),.pointer (some ⟨f1,0,none⟩)]) (λW=>Row W f0 [Δ s]/\Row W f1 [fv]/\ny 1 eI W s xs) ((xs.map k).map λy=>(y,())):=by
 refine⟨by kernel_rfl,λl Q D hC hQ hD hy w h0=> ?_⟩;refine Calls.mono (Ey ?_) (λe w' h=>h);obtain⟨r0,r1,hs⟩:=hC _ _ h0;simp only[sx,r0.cell];refine g_ (λst W=>∃j:Nat,j<=xs.length/\st.1=(j:Int)/\Q j W) (λst _=>(s.len - st.1).toNat) ⟨0,by omega,rfl,h0⟩ ?_;rintro⟨i,⟨⟩⟩ W ⟨j,hj,hi,hq⟩ next u
 simp only at hi;subst hi;obtain⟨r0,r1,hs⟩:=hC _ _ hq;have hlen:=hs.len;by_cases J:(j:Int)<(s.len:Int)
 ·simp only[J,acI,abt];have hx:=adP (show j<xs.length by omega);generalize xs[j]=x at hx;have N:=SX (k:=k) hx;refine SlN_ix jJ (by omega) hs (by omega) (by rw[abu];exact hx) λa hc=> ?_;have I:=hk x;dsimp only at I;generalize k x=y at I N;obtain x:=x;have c0:=hc 0 _ rfl;rw[show a.add 0=a from rfl] at c0;simp only[afe,gJ,gK,Kv,c0,r1.cell];obtain⟨W1,hW1⟩:∃W1,W1=W:=⟨W,rfl⟩;subst hW1;have hq1:=hq;refine I W1 _ trivial λW2 hf2=> ?_;have hq2:=hQ _ _ _ hq1 hf2;obtain y:=y;refine⟨y,rfl,?_⟩;refine kP (hy j _ W2 _ N hq2 ?_ ?_)
  ·intro W' hq';refine⟨true,rfl,?_⟩;simp only[adt,aaf];rw[Α];exact u _ _ ⟨j+1,by omega,by simp,hq'⟩ (by omega)
  simp_all
 ·simp only[J,acR,aaf]
  grind
theorem Y3 {w:θ} {s:gG} {xs:List Int} {fv:Value} {k:Int->Int} (hs:ny 1 eI w s xs) (hl:s.len<=2^62) (ho:iP fv=true) (hk:Wy fv (λx:Int=>Β x) [.one ν] (λ_=>True) (λx=>(λx:Int=>Β x) (k x))):
  rX s fv w λv w'=>Ext w w'/\∃C,qE υ [.one ν] v C ((xs.map k).map λy=>(y,()))/\∀W,Ext w' W->C W:=by
 apply Gz;refine⟨rfl,gU λa w1 ra ea z1 f1=>⟨ho,gU λb w2 rb eb z2 f2=> ?_⟩⟩;exact⟨f1.trans f2,_,Oz hl hk,λW hW=>⟨(ra.ext f2).ext hW,rb.ext hW,((hs.ext f1).ext f2).ext hW⟩⟩
theorem CW {f0 f1:Nat} {s:gG} {xs:List T16} {fv:Value} {k:T16->T16} (hl:s.len<=2^62) (hk:Wy fv (λx:T16=>Value.agg ⟨e16 x⟩) [.agg K16] (λ_=>True) (λx=>(λx:T16=>Value.agg ⟨e16 x⟩) (k x))):
  qE υ [.agg K16] (Value.func (.func xQ) #[] #[.pointer (some ⟨f0,0,none⟩),.pointer (some ⟨f1,0,none⟩)]) (λW=>Row W f0 [Δ s]/\Row W f1 [fv]/\ny 16 e16 W s xs) ((xs.map k).map λy=>(y,())):=by
 refine⟨by kernel_rfl,λl Q D hC hQ hD hy w h0=> ?_⟩;refine Calls.mono (xG ?_) (λe w' h=>h);obtain⟨r0,r1,hs⟩:=hC _ _ h0;simp only[sx,r0.cell];refine g_ (λst W=>∃j:Nat,j<=xs.length/\st.1=(j:Int)/\Q j W) (λst _=>(s.len - st.1).toNat) ⟨0,by omega,rfl,h0⟩ ?_;rintro⟨i,⟨⟩⟩ W ⟨j,hj,hi,hq⟩ next u
 simp only at hi;subst hi;obtain⟨r0,r1,hs⟩:=hC _ _ hq;have hlen:=hs.len;by_cases J:(j:Int)<(s.len:Int)
 ·simp only[J,acI,abt];have hx:=adP (show j<xs.length by omega);generalize xs[j]=x at hx;have N:=SX (k:=k) hx;refine SlN_ix qQ (by omega) hs (by omega) (by rw[abu];exact hx) λa hc=> ?_;have I:=hk x;dsimp only at I;generalize k x=y at I N;obtain⟨x0,x1,x2,x3,x4,x5,x6,x7,x8,x9,O,R,U,Y,Z,aa,⟨⟩⟩:=x;have c0:W.cell? (a.add 0)=some (.int .u8 x0):=hc 0 _ rfl;have c1:W.cell? (a.add 1)=some (.int .u8 x1):=hc 1 _ rfl;have c2:W.cell? (a.add 2)=some (.int .u8 x2):=hc 2 _ rfl;have c3:W.cell? (a.add 3)=some (.int .u8 x3):=hc 3 _ rfl;have c4:W.cell? (a.add 4)=some (.int .u8 x4):=hc 4 _ rfl;have c5:W.cell? (a.add 5)=some (.int .u8 x5):=hc 5 _ rfl;have c6:W.cell? (a.add 6)=some (.int .u8 x6):=hc 6 _ rfl;have c7:W.cell? (a.add 7)=some (.int .u8 x7):=hc 7 _ rfl;have c8:W.cell? (a.add 8)=some (.int .u8 x8):=hc 8 _ rfl;have c9:W.cell? (a.add 9)=some (.int .u8 x9):=hc 9 _ rfl;have ab:W.cell? (a.add 10)=some (.int .u8 O):=hc 10 _ rfl;have ac:W.cell? (a.add 11)=some (.int .u8 R):=hc 11 _ rfl;have ae:W.cell? (a.add 12)=some (.int .u8 U):=hc 12 _ rfl;have af:W.cell? (a.add 13)=some (.int .u8 Y):=hc 13 _ rfl;have ag:W.cell? (a.add 14)=some (.int .u8 Z):=hc 14 _ rfl;have ah:W.cell? (a.add 15)=some (.int .u8 aa):=hc 15 _ rfl;simp only[gJ,gK,c0,c1,c2,c3,c4,c5,c6,c7,c8,c9,ab,ac,ae,af,ag,ah];refine D5 rfl rfl λt W1 rt et zt ft=> ?_;have r1:=r1.ext ft;have hq1:=hQ _ _ _ hq ft;simp only[sx,r1.cell,rt.cell];refine I W1 _ trivial λW2 hf2=> ?_;have hq2:=hQ _ _ _ hq1 hf2;obtain⟨y0,y1,y2,y3,y4,y5,y6,y7,y8,y9,ai,aj,ak,am,an,ao,⟨⟩⟩:=y;refine⟨y0,y1,y2,y3,y4,y5,y6,y7,y8,y9,ai,aj,ak,am,an,ao,rfl,?_⟩;refine kP (hy j _ W2 _ N hq2 ?_ ?_)
  ·intro W' hq';refine⟨true,rfl,?_⟩;simp only[adt,aaf];rw[Α];exact u _ _ ⟨j+1,by omega,by simp,hq'⟩ (by omega)
  grind
 ·simp only[J,acR,aaf]
  grind
theorem IW {w:θ} {s:gG} {xs:List T16} {fv:Value} {k:T16->T16} (hs:ny 16 e16 w s xs) (hl:s.len<=2^62) (ho:iP fv=true) (hk:Wy fv (λx:T16=>Value.agg ⟨e16 x⟩) [.agg K16] (λ_=>True) (λx=>(λx:T16=>Value.agg ⟨e16 x⟩) (k x))):
  mZ s fv w λv w'=>Ext w w'/\∃C,qE υ [.agg K16] v C ((xs.map k).map λy=>(y,()))/\∀W,Ext w' W->C W:=by
 apply yI;refine⟨rfl,gU λa w1 ra ea z1 f1=>⟨ho,gU λb w2 rb eb z2 f2=> ?_⟩⟩;exact⟨f1.trans f2,_,CW hl hk,λW hW=>⟨(ra.ext f2).ext hW,rb.ext hW,((hs.ext f1).ext f2).ext hW⟩⟩
theorem yE {f0 f1:Nat} {s:gG} {xs:List T7} {fv:Value} {k:T7->T4} (hl:s.len<=2^62) (hk:Wy fv (λx:T7=>Value.agg ⟨e7 x⟩) [.agg K4] (λ_=>True) (λx=>(λx:T4=>Value.agg ⟨e4 x⟩) (k x))):
  qE υ [.agg K4] (Value.func (.func vF) #[] #[.pointer (some ⟨f0,0,none⟩),.pointer (some ⟨f1,0,none⟩)]) (λW=>Row W f0 [Δ s]/\Row W f1 [fv]/\ny 7 e7 W s xs) ((xs.map k).map λy=>(y,())):=by
 refine⟨by kernel_rfl,λl Q D hC hQ hD hy w h0=> ?_⟩;refine Calls.mono (uH ?_) (λe w' h=>h);obtain⟨r0,r1,hs⟩:=hC _ _ h0;simp only[sx,r0.cell];refine g_ (λst W=>∃j:Nat,j<=xs.length/\st.1=(j:Int)/\Q j W) (λst _=>(s.len - st.1).toNat) ⟨0,by omega,rfl,h0⟩ ?_;rintro⟨i,⟨⟩⟩ W ⟨j,hj,hi,hq⟩ next u
 simp only at hi;subst hi;obtain⟨r0,r1,hs⟩:=hC _ _ hq;have hlen:=hs.len;by_cases J:(j:Int)<(s.len:Int)
 ·simp only[J,acI,abt];have hx:=adP (show j<xs.length by omega);generalize xs[j]=x at hx;have N:=SX (k:=k) hx;refine SlN_ix xw (by omega) hs (by omega) (by rw[abu];exact hx) λa hc=> ?_;have I:=hk x;dsimp only at I;generalize k x=y at I N;obtain⟨x0,x1,x2,x3,x4,x5,x6,⟨⟩⟩:=x;have c0:W.cell? (a.add 0)=some (Β x0):=hc 0 _ rfl;have c1:W.cell? (a.add 1)=some (Β x1):=hc 1 _ rfl;have c2:W.cell? (a.add 2)=some (Β x2):=hc 2 _ rfl;have c3:W.cell? (a.add 3)=some (Β x3):=hc 3 _ rfl;have c4:W.cell? (a.add 4)=some (Β x4):=hc 4 _ rfl;have c5:W.cell? (a.add 5)=some (Β x5):=hc 5 _ rfl;have c6:W.cell? (a.add 6)=some (Β x6):=hc 6 _ rfl;simp only[gJ,gK,c0,c1,c2,c3,c4,c5,c6];refine D5 rfl rfl λt W1 rt et zt ft=> ?_;have r1:=r1.ext ft;have hq1:=hQ _ _ _ hq ft;simp only[sx,r1.cell,rt.cell];refine I W1 _ trivial λW2 hf2=> ?_;have hq2:=hQ _ _ _ hq1 hf2;obtain⟨y0,y1,y2,y3,⟨⟩⟩:=y;refine⟨y0,y1,y2,y3,rfl,?_⟩;refine kP (hy j _ W2 _ N hq2 ?_ ?_)
  ·intro W' hq';refine⟨true,rfl,?_⟩;simp only[adt,aaf];rw[Α];exact u _ _ ⟨j+1,by omega,by simp,hq'⟩ (by omega)
  simp_all
 ·simp only[J,acR,aaf]
  grind
theorem CU {w:θ} {s:gG} {xs:List T7} {fv:Value} {k:T7->T4} (hs:ny 7 e7 w s xs) (hl:s.len<=2^62) (ho:iP fv=true) (hk:Wy fv (λx:T7=>Value.agg ⟨e7 x⟩) [.agg K4] (λ_=>True) (λx=>(λx:T4=>Value.agg ⟨e4 x⟩) (k x))):
  kV s fv w λv w'=>Ext w w'/\∃C,qE υ [.agg K4] v C ((xs.map k).map λy=>(y,()))/\∀W,Ext w' W->C W:=by
 apply vP;refine⟨rfl,gU λa w1 ra ea z1 f1=>⟨ho,gU λb w2 rb eb z2 f2=> ?_⟩⟩;exact⟨f1.trans f2,_,yE hl hk,λW hW=>⟨(ra.ext f2).ext hW,rb.ext hW,((hs.ext f1).ext f2).ext hW⟩⟩
theorem yF {f0 f1:Nat} {s:gG} {xs:List T7} {fv:Value} {k:T7->T3} (hl:s.len<=2^62) (hk:Wy fv (λx:T7=>Value.agg ⟨e7 x⟩) [.agg K3] (λ_=>True) (λx=>(λx:T3=>Value.agg ⟨e3 x⟩) (k x))):
  qE υ [.agg K3] (Value.func (.func vG) #[] #[.pointer (some ⟨f0,0,none⟩),.pointer (some ⟨f1,0,none⟩)]) (λW=>Row W f0 [Δ s]/\Row W f1 [fv]/\ny 7 e7 W s xs) ((xs.map k).map λy=>(y,())):=by
 refine⟨by kernel_rfl,λl Q D hC hQ hD hy w h0=> ?_⟩;refine Calls.mono (uI ?_) (λe w' h=>h);obtain⟨r0,r1,hs⟩:=hC _ _ h0;simp only[sx,r0.cell];refine g_ (λst W=>∃j:Nat,j<=xs.length/\st.1=(j:Int)/\Q j W) (λst _=>(s.len - st.1).toNat) ⟨0,by omega,rfl,h0⟩ ?_;rintro⟨i,⟨⟩⟩ W ⟨j,hj,hi,hq⟩ next u
 simp only at hi;subst hi;obtain⟨r0,r1,hs⟩:=hC _ _ hq;have hlen:=hs.len;by_cases J:(j:Int)<(s.len:Int)
 ·simp only[J,acI,abt];have hx:=adP (show j<xs.length by omega);generalize xs[j]=x at hx;have N:=SX (k:=k) hx;refine SlN_ix xw (by omega) hs (by omega) (by rw[abu];exact hx) λa hc=> ?_;have I:=hk x;dsimp only at I;generalize k x=y at I N;obtain⟨x0,x1,x2,x3,x4,x5,x6,⟨⟩⟩:=x;have c0:W.cell? (a.add 0)=some (Β x0):=hc 0 _ rfl;have c1:W.cell? (a.add 1)=some (Β x1):=hc 1 _ rfl;have c2:W.cell? (a.add 2)=some (Β x2):=hc 2 _ rfl;have c3:W.cell? (a.add 3)=some (Β x3):=hc 3 _ rfl;have c4:W.cell? (a.add 4)=some (Β x4):=hc 4 _ rfl;have c5:W.cell? (a.add 5)=some (Β x5):=hc 5 _ rfl;have c6:W.cell? (a.add 6)=some (Β x6):=hc 6 _ rfl;simp only[gJ,gK,c0,c1,c2,c3,c4,c5,c6];refine D5 rfl rfl λt W1 rt et zt ft=> ?_;have r1:=r1.ext ft;have hq1:=hQ _ _ _ hq ft;simp only[sx,r1.cell,rt.cell];refine I W1 _ trivial λW2 hf2=> ?_;have hq2:=hQ _ _ _ hq1 hf2;obtain⟨y0,y1,y2,⟨⟩⟩:=y;refine⟨y0,y1,y2,rfl,?_⟩;refine kP (hy j _ W2 _ N hq2 ?_ ?_)
  ·intro W' hq';refine⟨true,rfl,?_⟩;simp only[adt,aaf];rw[Α];exact u _ _ ⟨j+1,by omega,by simp,hq'⟩ (by omega)
  simp_all
 ·simp only[J,acR,aaf]
  grind
theorem CV {w:θ} {s:gG} {xs:List T7} {fv:Value} {k:T7->T3} (hs:ny 7 e7 w s xs) (hl:s.len<=2^62) (ho:iP fv=true) (hk:Wy fv (λx:T7=>Value.agg ⟨e7 x⟩) [.agg K3] (λ_=>True) (λx=>(λx:T3=>Value.agg ⟨e3 x⟩) (k x))):
  kW s fv w λv w'=>Ext w w'/\∃C,qE υ [.agg K3] v C ((xs.map k).map λy=>(y,()))/\∀W,Ext w' W->C W:=by
 apply vS;refine⟨rfl,gU λa w1 ra ea z1 f1=>⟨ho,gU λb w2 rb eb z2 f2=> ?_⟩⟩;exact⟨f1.trans f2,_,yF hl hk,λW hW=>⟨(ra.ext f2).ext hW,rb.ext hW,((hs.ext f1).ext f2).ext hW⟩⟩
def yM (p:T16) (n:Nat) (sl:List T16) (pl:List Int) (tl:List T7):Bool:=
 qm p && (!(sl.any λx=> !qm x) && (!(pl.any λx=> !decide (nC x)) && !(tl.any λx=> !decide (Fq n pl x))))
theorem agU {w:θ} {p0 p1 p2 p3 p4 p5 p6 p7 p8 p9 p10 p11 p12 p13 p14 p15:Int} {sw po:gG} {n18 n19 n20 n21 n22 n23 n24 n25 n26 n27 n28 n29 n30 n31 n32 n33 n34:Int} {st:gG} {sl:List T16} {pl:List Int} {tl:List T7} (u:ny 16 e16 w sw sl) (h:ny 1 eI w po pl) (I:ny 7 e7 w st tl) (lsw:sw.len<=2^62) (lpo:po.len<=2^62) (lst:st.len<=2^62):
  BA p0 p1 p2 p3 p4 p5 p6 p7 p8 p9 p10 p11 p12 p13 p14 p15 sw po n18 n19 n20 n21 n22 n23 n24 n25 n26 n27 n28 n29 n30 n31 n32 n33 n34 st w λr w'=>r=yM (p0,p1,p2,p3,p4,p5,p6,p7,p8,p9,p10,p11,p12,p13,p14,p15,()) sw.len sl pl tl/\Ext w w':=by
 apply RQ;refine gU λa w1 ra ea z1 f1=> ?_;simp -zeta only[sx,ra.cell];intro J4;have hJ4:∀b W,Ext w1 W->b= !(qm (p0,p1,p2,p3,p4,p5,p6,p7,p8,p9,p10,p11,p12,p13,p14,p15,()) && !(sl.any λx=> !qm x))->J4 b W:=by
  intro b W hx hb;simp -zeta only[J4]
  cases b
  ·simp -zeta only[aaf];intro J7;have hJ7:∀b W',Ext W W'->b= !(!(pl.any λx=> !decide (nC x)) && !(tl.any λx=> !decide (Fq sw.len pl x)))->J7 b W':=by
    intro b2 W' hx' hb2;simp only[J7];have e1:(qm (p0,p1,p2,p3,p4,p5,p6,p7,p8,p9,p10,p11,p12,p13,p14,p15,()) && !(sl.any λx=> !qm x))=true:=by simp_all
    have xx:=(f1.trans hx).trans hx';have hr:yM (p0,p1,p2,p3,p4,p5,p6,p7,p8,p9,p10,p11,p12,p13,p14,p15,()) sw.len sl pl tl= !b2:=by
     unfold yM
     simp_all
    rw[hr]
    cases b2
    ·exact⟨rfl,xx⟩
    ·exact⟨rfl,xx⟩
   have raW:=ra.ext hx;simp -zeta only[d_,gJ,h_,raW.cell];refine cmS0 (Ud ((h.ext f1).ext hx) lpo Ϻ λ_ _=>trivial) ?_;rintro _ w' ⟨rfl,hf⟩
   cases hp:pl.any λx=> !decide (nC x)
   ·have ra':=raW.ext hf;simp -zeta only[aaf,aaf,d_,gJ,h_,ra'.cell];refine cmS0 (abR (((I.ext f1).ext hx).ext hf) lst (agf lsw lpo) λW hW=>⟨ra'.ext hW,(((h.ext f1).ext hx).ext hf).ext hW⟩) ?_;rintro _ w'' ⟨rfl,hf'⟩;exact hJ7 _ _ (hf.trans hf') (by rw[hp];simp)
   ·simp -zeta only[abt];exact hJ7 _ _ hf (by rw[hp];simp)
  ·simp only[abt];have e1:(qm (p0,p1,p2,p3,p4,p5,p6,p7,p8,p9,p10,p11,p12,p13,p14,p15,()) && !(sl.any λx=> !qm x))=false:=by grind
   refine⟨?_,f1.trans hx⟩;unfold yM
   grind
 refine cmS0 (Rj _) ?_;rintro _ w' ⟨rfl,hf⟩
 cases hp:qm (p0,p1,p2,p3,p4,p5,p6,p7,p8,p9,p10,p11,p12,p13,p14,p15,())
 ·simp -zeta only[afk,abt];exact hJ4 _ _ hf (by rw[hp];simp)
 ·have ra':=ra.ext hf;simp -zeta only[adt,aaf,aaf,d_,gJ,h_,ra'.cell];refine cmS0 (ϩ ((u.ext f1).ext hf) lsw ab3 λ_ _=>trivial) ?_;rintro _ w'' ⟨rfl,hf'⟩;exact hJ4 _ _ (hf.trans hf') (by rw[hp];simp)
end Go.Proofs.CN
