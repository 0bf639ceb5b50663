import Derived.Test.YtnemccmcpllhcaaGreatDoorW9
open List (map_take)
set_option maxRecDepth 100000
namespace Gp.Cfg
theorem vC {α:Type} {l:List α}:l.Nodup↔∀(i:Nat) x,l[i]? =some x->x∉l.take i:=by
 unfold List.Nodup;rw[alk];constructor
 ·intro h i x hx hm;obtain⟨hi,rfl⟩:=ady.1 hx;obtain⟨j,hj,he⟩:=alj.1 hm;exact h j i (by omega) hi (by omega) he
 ·intro h i j hi hj hlt he;exact h j l[j] (abe hj) (alj.2 ⟨i,by omega,he⟩)
theorem SY {α:Type} {l:List α} {a:α}:(l++[a]).Nodup↔l.Nodup/\a∉l:=by
 rw[akV];constructor
 ·rintro⟨h1,_,h3⟩;exact⟨h1,λhm=>h3 a hm a (by simp) rfl⟩
 ·rintro⟨h1,h2⟩;exact⟨h1,by simp,λx hx y hy e=>by simp only[aiB] at hy;subst hy;subst e;exact h2 hx⟩
theorem H_ {α β:Type} {f:α->β} {l:List α}:(l.map f).Nodup↔∀(i:Nat) x,l[i]? =some x->∀y∈l.take i,f y≠f x:=by
 rw[vC];constructor
 ·intro h i x hx y hy he;refine h i (f x) (by rw[aiF,hx];rfl) ?_;rw[<- map_take];exact ajX.2 ⟨y,hy,he⟩
 ·intro h i x hx hm;rw[aiF] at hx
  cases hl:l[i]? with
  |none=>rw[hl] at hx;cases hx
  |some z=>
   rw[hl] at hx;simp only[aik,afM] at hx;subst hx;rw[<- map_take] at hm;obtain⟨y,hy,he⟩:=ajX.1 hm;exact h i z hl y hy he
theorem take_snoc {α:Type} {l:List α} {i:Nat} {x:α} (h:l[i]? =some x):l.take (i+1)=l.take i++[x]:=by
 rw[akc,h];rfl
theorem acr {α:Type} (sw:α->Int) {l:List α} {n:Nat} {q:Int} (hq:1<=q) (hr:∀x∈l,0<=sw x/\sw x<(n:Int)):
  (∀k:Nat,k<n->((l.countP λy=>sw y==(k:Int):Nat):Int)<=q)↔∀(i:Nat) x,l[i]? =some x->1+(((l.take i).countP λy=>sw y==sw x:Nat):Int)<=q:=by
 constructor
 ·intro h i x hx;have hm:=hr x (ajF hx);have:=h (sw x).toNat (by omega);rw[show (((sw x).toNat:Nat):Int)=sw x by omega] at this;have hs:(l.take (i+1)).countP (λy=>sw y==sw x)<=l.countP λy=>sw y==sw x:=(List.take_sublist _ _).countP_le;rw[take_snoc hx,alC] at hs;simp only[alD,akK,ahN] at hs;omega
 ·intro h k _;have key:∀m:Nat,m<=l.length->(((l.take m).countP λy=>sw y==(k:Int):Nat):Int)<=q:=by
   intro m
   induction m with
   |zero=>intro _;simp;omega
   |succ m ih=>
    intro hm;have hx:=abe (show m<l.length by omega);rw[take_snoc hx,alC,alD];have h1:=h m _ hx;have h2:=ih (by omega);by_cases he:sw l[m]=(k:Int)
    ·rw[he] at h1;rw[Ζ (by simpa using he)];omega
    ·rw[Ε (by simpa using he)];omega
  have:=key l.length (aiq _)
  rwa [ajU] at this
structure Fine {α β γ:Type} (fi:α->β) (fo:α->γ) (sw:α->Int) (q:Int) (l:List α) (i:Nat) (x:α):Prop where
 one:∀y∈l.take i,fi y≠fi x/\fo y≠fo x
 few:1+(((l.take i).countP λy=>sw y==sw x:Nat):Int)<=q
theorem Zx {α β γ:Type} {fi:α->β} {fo:α->γ} (sw:α->Int) {l:List α} {n:Nat} {q:Int} (hq:1<=q) (hr:∀x∈l,0<=sw x/\sw x<(n:Int)):
  (∀(i:Nat) x,l[i]? =some x->Fine fi fo sw q l i x)↔((l.map fi).Nodup/\(l.map fo).Nodup/\∀k:Nat,k<n->((l.countP λy=>sw y==(k:Int):Nat):Int)<=q):=by
 rw[H_,H_,acr sw hq hr];constructor
 ·intro h;exact⟨λi x hx y hy=>((h i x hx).one y hy).1,λi x hx y hy=>((h i x hx).one y hy).2,λi x hx=>(h i x hx).few⟩
 ·rintro⟨h1,h2,h3⟩ i x hx;exact⟨λy hy=>⟨h1 i x hx y hy,h2 i x hx y hy⟩,h3 i x hx⟩
end Gp.Cfg
namespace Go.Proofs.CN
open Gp
abbrev eI (x:Int):List Value:=[.int .i64 x]
theorem jc (x:Int):(eI x).length=1:=rfl
theorem jE {α:Type} {n:Nat} {f:α->List Value} {w:θ} {s:fU} {xs:List α} (hn:∀x,(f x).length=n) (hn0:0<n) (h:lD n f w s xs) {i:Int} {K:Addr->Prop} {x:α} (h0:0<=i) (hx:xs[i.toNat]? =some x)
  (hK:∀a:Addr,(∀j v,(f x)[j]? =some v->w.cell? (a.add j)=some v)->K a):iF s n i K:=by
 obtain⟨a,ha,hc⟩:=h.at_ hn hn0 hx;have hlt:=(ady.1 hx).1;obtain⟨sa,sl,sc⟩:=s;simp only at ha;subst ha;have hl:sl=xs.length:=h.len;refine(zU ..).2 ⟨h0,by omega,hK _ λj v hj=> ?_⟩;rw[<- hc j v hj];congr 1;obtain⟨b,o,t⟩:=a;unfold Addr.add;by_cases h1:i.toNat * n=0<;>by_cases h2:j=0<;>simp[h1,h2,akr]
def idx {α:Type} (xs:List α) (x:α) (r:Int):Prop:=(∃i:Nat,r=(i:Int)/\xs[i]? =some x/\x∉xs.take i)\/(r= -1/\x∉xs)
theorem ahV {α:Type} {xs:List α} {x:α} {r:Int} (h:idx xs x r):r>=0↔x∈xs:=by
 rcases h with ⟨i,rfl,h1,_⟩|⟨rfl,h1⟩
 ·exact⟨λ_=>ajF h1,λ_=>by omega⟩
 ·exact⟨λh=>by omega,λh=>absurd h h1⟩
theorem aeJ {w:θ} {s:fU} {xs:List Int} (hs:lD 1 eI w s xs) (hl:s.len<=2^62) (x:Int):mP s x w λr w'=>idx xs x r/\w'=w:=by
 apply vJ;refine gK (λst W=>∃j:Nat,j<=xs.length/\st.1=(j:Int)/\W=w/\x∉xs.take j) (λst _=>(s.len - st.1).toNat) ⟨0,by omega,rfl,rfl,by simp⟩ ?_;rintro⟨i,⟨⟩⟩ W ⟨j,hj,hi,hw,hm⟩ next u
 simp only at hi;subst hi;subst hw;have hlen:=hs.len;by_cases I:(j:Int)<(s.len:Int)
 ·simp only[I,aaA,Δ];have hx:=abe (show j<xs.length by omega);refine jE jc (by omega) hs (by omega) (by rw[Η];exact hx) λa hc=> ?_;have c0:=hc 0 _ rfl;rw[show a.add 0=a from rfl] at c0;simp only[sx,c0];by_cases he:x=xs[j]
  ·rw[show (x==xs[j])=true by simpa using he,Δ];exact⟨.inl ⟨j,rfl,by rw[hx,<- he],hm⟩,by trivial⟩
  ·rw[show (x==xs[j])=false by simpa using he,Β];rw[Α];refine u _ _ ⟨j+1,by omega,by simp,rfl,?_⟩ (by simp only;omega);rw[Gp.Cfg.take_snoc hx,ajk,aiB];exact λh=>h.elim hm he
 ·simp only[I,aaV,Β];refine⟨.inr ⟨rfl,?_⟩,by trivial⟩
  rwa [aji (by omega)] at hm
theorem BZ {w:θ} {s:fU} {xs:List Int} (hs:lD 1 eI w s xs) (hl:s.len<=2^62) (x:Int):iR s x w λr w'=>r=decide (x∈xs)/\w'=w:=by
 apply sJ;refine cmS1 (aeJ hs hl x) ?_;rintro r w' ⟨h,hw⟩;exact⟨by simp only[akq];exact ahV h,hw⟩
def mD (a:Int):Prop:=16777216<=a/\a<3758096384/\a / 16777216≠127
instance (a:Int):Decidable (mD a):=inferInstanceAs (Decidable (_/\_/\_))
theorem Wq {a:Int} (h:0<=a) (h2:a<4294967296):abA a↔mD a:=by
 obtain⟨n,rfl⟩:∃n:Nat,a=(n:Int):=⟨a.toNat,by omega⟩;unfold abA mD;rw[show (0:Int)=((0:Nat):Int) from rfl,show (2130706432:Int)=((2130706432:Nat):Int) from rfl,show (3758096384:Int)=((3758096384:Nat):Int) from rfl,
  show (24:Int)=((24:Nat):Int) from rfl,show (29:Int)=((29:Nat):Int) from rfl,CJ (by omega),CJ (by omega),CJ (by omega),CJ (by omega),CJ (by omega)]
 simp only[U1,decide_eq_false_iff_not];omega
theorem zN (a:Int) (w:θ):rU a w λr w'=>r=decide (mD a)/\Ext w w':=by
 by_cases hA:abA a
 ·refine cmS0 (af8 hA w) ?_;rintro _ w' ⟨rfl,hf⟩;exact⟨(ab9 ((Wq hA.1 hA.2.1).1 hA)).symm,hf⟩
 apply ND;refine cmS0 (yI a _) ?_;rintro _ w' ⟨rfl,hw⟩;subst hw;by_cases hr:0<=a/\a<4294967296
 ·have hF:¬mD a:=λh=>hA ((Wq hr.1 hr.2).2 h);simp only[hr,aj7,aaA,ab6,Β];refine gu λt w1 r1 e1 z1 f1=> ?_;refine cmS0 (K:=λr w2=>r=true/\Ext w1 w2) ?_ ?_
  ·apply P5;refine gK (λst W=>∃j:Nat,j<=3/\st.1=(j:Int)/\Ext w1 W/\(0<j->(jy .i64 a 24==jy .i64 0 24)=false)/\(1<j->(jy .i64 a 24==jy .i64 2130706432 24)=false)/\(2<j->(jy .i64 a 29==jy .i64 3758096384 29)=false)) (λst _=>(3 - st.1).toNat)
    ⟨0,by omega,rfl,Ext.refl _,by omega,by omega,by omega⟩ ?_
   rintro⟨i,⟨⟩⟩ W ⟨j,hj,hi,hx,g1,g2,g3⟩ next u
   simp only at hi;subst hi;have r:=r1.ext hx;by_cases I:j<3
   ·have hl:((j:Int)<((3:Nat):Int)):=by omega
    have J:∃x y:Int,0<=y/\y<=32/\W.cell? ⟨t,j * 2,none⟩=some (.int .i64 x)/\W.cell? ⟨t,j * 2+1,none⟩=some (.int .i64 y)/\
      (((jy .i64 a (32 - y)==jy .i64 x (32 - y))=false)->(0<j+1->(jy .i64 a 24==jy .i64 0 24)=false)/\(1<j+1->(jy .i64 a 24==jy .i64 2130706432 24)=false)/\(2<j+1->(jy .i64 a 29==jy .i64 3758096384 29)=false)):=by
     match j,I,g1,g2,g3 with
     |0,_,_,_,_=>exact⟨0,8,by omega,by omega,r.cell 0,r.cell 1,λh=>⟨λ_=>h,by omega,by omega⟩⟩
     |1,_,g1,_,_=>exact⟨2130706432,8,by omega,by omega,r.cell 2,r.cell 3,λh=>⟨λ_=>g1 (by omega),λ_=>h,by omega⟩⟩
     |2,_,g1,g2,_=>exact⟨3758096384,3,by omega,by omega,r.cell 4,r.cell 5,λh=>⟨λ_=>g1 (by omega),λ_=>g2 (by omega),λ_=>h⟩⟩
    obtain⟨x,y,hy,hy2,c0,c1,hg⟩:=J;simp only[sx,hl,aaA,Η,c0,c1];refine⟨by first|trivial|omega,by first|trivial|omega,?_⟩
    refine Gu rfl rfl λb w3 r3 e3 z3 x3=> ?_;simp only[sx,r3.cell];refine cmS0 (Zg hy hy2 _) ?_;rintro _ w4 ⟨rfl,x4⟩;by_cases hs:(jy .i64 a (32 - y)==jy .i64 x (32 - y))=true
    ·simp only[hs,hr,aj7,aaA,aln,Δ];exact⟨by trivial,(hx.trans x3).trans x4⟩
    ·have hs:(jy .i64 a (32 - y)==jy .i64 x (32 - y))=false:=by simpa only [alm] using hs
     obtain⟨g1,g2,g3⟩:=hg hs;simp only[hs,Bool.and_false,Β];rw[Α];exact u _ _ ⟨j+1,by omega,by simp,(hx.trans x3).trans x4,g1,g2,g3⟩ (by simp only;omega)
   ·exact absurd ⟨hr.1,hr.2,g1 (by omega),g2 (by omega),g3 (by omega)⟩ hA
  ·rintro _ w2 ⟨rfl,f2⟩;exact⟨by simp[hF],f1.trans f2⟩
 ·simp only[hr,aaV,aek,Δ];have hF:¬mD a:=λh=>hr (by unfold mD at h;omega);exact⟨by simp[hF],Ext.refl _⟩
theorem P7 (a:Int) (w:θ):zF a w λr w'=>r=decide (mD a)/\w'=w:=by
 apply Vs;simp -zeta only;intro J;have hJ:∀b,b=decide (mD a)->J b:=λb hb=>⟨hb,by trivial⟩;clear_value J;by_cases h1:a>=16777216
 ·by_cases h2:a<3758096384
  ·simp only[h1,h2,aaA,Δ];refine⟨by decide,hJ _ ?_⟩;rw[akP (by omega),Α];unfold mD;by_cases h3:a / 16777216=127<;>simp[h1,h2,h3]
  ·simp only[h1,h2,aaA,aaV,Δ,Β];exact hJ _ (by unfold mD;simp[h2])
 ·simp only[h1,aaV,Β];exact hJ _ (by unfold mD;simp[h1])
theorem yu (n lo hi:Int) (w:θ):kK n lo hi w λr w'=>r=decide (lo<=n/\n<=hi)/\Ext w w':=by
 apply LD;refine gu λt w1 r1 e1 z1 f1=> ?_;simp only[sx,r1.cell];by_cases h:lo<=n
 ·simp only[h,aaA,Δ,aeA];exact f1
 ·simp only[h,aaV,Β,false_and];exact⟨by trivial,f1⟩
theorem aiZ (n lo hi:Int) (w:θ):iP n lo hi w λr w'=>r=decide (lo<=n/\n<=hi)/\w'=w:=by
 apply Z8;by_cases h:lo<=n
 ·have h':n>=lo:=h;simp only[h,aaA,Δ,aeA,aj7]
 ·have h':¬n>=lo:=h;simp only[h,aaV,Β,false_and,aj7]
def ZM (m:Int):Prop:=m=0\/(536<=m/\m<=65535)
instance (m:Int):Decidable (ZM m):=inferInstanceAs (Decidable (_\/_))
theorem afl (m:Int) (w:θ):Ar m w λr w'=>r=decide (ZM m)/\Ext w w':=by
 apply Qr;by_cases h:m=0
 ·subst h;simp only[akK,Δ];exact⟨by simp[ZM],Ext.refl _⟩
 ·rw[show (m==0)=false by simpa using h];simp only[Β];refine cmS0 (yu _ _ _ _) ?_;rintro _ w' ⟨rfl,hf⟩;exact⟨by simp[ZM,h],hf⟩
theorem aaU (n:Int) (w:θ):Aq n w λr w'=>r=decide (n=1\/n=6\/n=17)/\Ext w w':=by
 apply Qq;refine gu λt w1 r1 e1 z1 f1=> ?_;have hs:lD 1 eI w1 ⟨some ⟨t,0,none⟩,3,3⟩ [1,6,17]:=(iY.row (xs:=[(1:Int),6,17]) (f:=eI) (n:=1) r1).sl jc (by omega);refine cmS0 (BZ hs (by simp) n) ?_;rintro _ w2 ⟨rfl,hw⟩;subst hw;exact⟨by simp,f1⟩
end Go.Proofs.CN
namespace Go.Proofs.CN
open Gp
abbrev K16:List Kind:=[.int .u8,.int .u8,.int .u8,.int .u8,.int .u8,.int .u8,.int .u8,.int .u8,.int .u8,.int .u8,.int .u8,.int .u8,.int .u8,.int .u8,.int .u8,.int .u8]
abbrev K7:List Kind:=[.int .i64,.int .i64,.int .i64,.int .i64,.int .i64,.int .i64,.int .i64]
abbrev K4:List Kind:=[.int .i64,.int .i64,.int .i64,.int .i64]
abbrev K3:List Kind:=[.int .i64,.int .i64,.int .i64]
abbrev T16:=Int×Int×Int×Int×Int×Int×Int×Int×Int×Int×Int×Int×Int×Int×Int×Int×Unit
abbrev T7:=Int×Int×Int×Int×Int×Int×Int×Unit
abbrev T4:=Int×Int×Int×Int×Unit
abbrev T3:=Int×Int×Int×Unit
abbrev e16 (x:T16):List Value:=XA K16 x
abbrev e7 (x:T7):List Value:=XA K7 x
abbrev e4 (x:T4):List Value:=XA K4 x
abbrev e3 (x:T3):List Value:=XA K3 x
theorem qx (x:T16):(e16 x).length=16:=rfl
theorem wF (x:T7):(e7 x).length=7:=rfl
def UH {α:Type} (v:Value) (ev:α->Value) (sh:List Shape) (C:b_) (r:α->Value):Prop:=
 ∀x W (K:Value->b_),C W->(∀W',Ext W W'->K (r x) W')->jB υ sh v [ev x] W K
theorem aga {w:θ} {s:fU} {xs:List Int} {v:Value} {p:Int->Bool} {C:b_} (hs:lD 1 eI w s xs) (hl:s.len<=2^62) (hp:UH v (λx:Int=>Value.int .i64 x) [.one .bool] C λx=> .bool (p x)) (hC:∀W,Ext w W->C W):
  jO s v w λr w'=>(r>=0↔xs.any p=true)/\Ext w w':=by
 apply rF;refine gK (λst W=>∃j:Nat,j<=xs.length/\st.1=(j:Int)/\Ext w W/\(xs.take j).any p=false) (λst _=>(s.len - st.1).toNat) ⟨0,by omega,rfl,Ext.refl _,by simp⟩ ?_;rintro⟨i,⟨⟩⟩ W ⟨j,hj,hi,hw,hm⟩ next u
 simp only at hi;subst hi;have hlen:=hs.len;by_cases J:(j:Int)<(s.len:Int)
 ·simp only[J,aaA,Δ];have hx:=abe (show j<xs.length by omega);have N:=Gp.Cfg.take_snoc hx;have I:=ajm (show j<xs.length by omega);generalize xs[j]=x at hx N I;refine jE jc (by omega) (hs.ext hw) (by omega) (by rw[Η];exact hx) λa hc=> ?_;have hp:=hp x;dsimp only at hp;by_cases he:p x=true
  ·rw[he] at hp;obtain x:=x;have c0:=hc 0 _ rfl;rw[show a.add 0=a from rfl] at c0;simp only[sx,c0];refine hp W _ (hC W hw) λW' hf=>⟨true,rfl,?_⟩;simp only[Δ];exact⟨⟨λ_=>alE.2 ⟨_,I,he⟩,λ_=>by omega⟩,hw.trans hf⟩
  ·have he:p x=false:=by simpa only [alm] using he
   rw[he] at hp;obtain x:=x;have c0:=hc 0 _ rfl;rw[show a.add 0=a from rfl] at c0;simp only[sx,c0];refine hp W _ (hC W hw) λW' hf=>⟨false,rfl,?_⟩;simp only[Β];rw[Α];refine u _ _ ⟨j+1,by omega,by simp,hw.trans hf,?_⟩ (by simp only;omega);rw[N,ak6,hm,ak7,he,ak8];rfl
 ·simp only[J,aaV,Β];rw[aji (by omega)] at hm;exact⟨⟨λh=>by omega,λh=>by rw[hm] at h;cases h⟩,hw⟩
theorem RH {w:θ} {s:fU} {xs:List Int} {v:Value} {p:Int->Bool} {C:b_} (hs:lD 1 eI w s xs) (hl:s.len<=2^62) (hp:UH v (λx:Int=>Value.int .i64 x) [.one .bool] C λx=> .bool (p x)) (hC:∀W,Ext w W->C W):
  jU s v w λr w'=>r=xs.any p/\Ext w w':=by
 apply xw;refine cmS1 (aga hs hl hp hC) ?_;rintro r w' ⟨h,hf⟩;refine⟨?_,hf⟩
 cases hb:xs.any p with
 |true=>exact ab9 (h.2 hb)
 |false=>exact abW λhh=>by rw[h.1 hh] at hb;cases hb
theorem aeI {w:θ} {s:fU} {xs:List T16} {v:Value} {p:T16->Bool} {C:b_} (hs:lD 16 e16 w s xs) (hl:s.len<=2^62) (hp:UH v (λx:T16=>Value.agg ⟨e16 x⟩) [.one .bool] C λx=> .bool (p x)) (hC:∀W,Ext w W->C W):
  kE s v w λr w'=>(r>=0↔xs.any p=true)/\Ext w w':=by
 apply uP;refine gK (λst W=>∃j:Nat,j<=xs.length/\st.1=(j:Int)/\Ext w W/\(xs.take j).any p=false) (λst _=>(s.len - st.1).toNat) ⟨0,by omega,rfl,Ext.refl _,by simp⟩ ?_;rintro⟨i,⟨⟩⟩ W ⟨j,hj,hi,hw,hm⟩ next u
 simp only at hi;subst hi;have hlen:=hs.len;by_cases Z:(j:Int)<(s.len:Int)
 ·simp only[Z,aaA,Δ];have hx:=abe (show j<xs.length by omega);have aa:=Gp.Cfg.take_snoc hx;have I:=ajm (show j<xs.length by omega);generalize xs[j]=x at hx aa I;refine jE qx (by omega) (hs.ext hw) (by omega) (by rw[Η];exact hx) λa hc=> ?_;have hp:=hp x;dsimp only at hp;by_cases he:p x=true
  ·rw[he] at hp;obtain⟨x0,x1,x2,x3,x4,x5,x6,x7,x8,x9,ab,ac,ae,af,ag,ah,⟨⟩⟩:=x;have c0:=hc 0 _ rfl;have c1:=hc 1 _ rfl;have c2:=hc 2 _ rfl;have c3:=hc 3 _ rfl;have c4:=hc 4 _ rfl;have c5:=hc 5 _ rfl;have c6:=hc 6 _ rfl;have c7:=hc 7 _ rfl;have c8:=hc 8 _ rfl;have c9:=hc 9 _ rfl;have J:=hc 10 _ rfl;have N:=hc 11 _ rfl;have O:=hc 12 _ rfl;have R:=hc 13 _ rfl;have U:=hc 14 _ rfl;have Y:=hc 15 _ rfl
   skip
   simp only[sx,c0,c1,c2,c3,c4,c5,c6,c7,c8,c9,J,N,O,R,U,Y];refine hp W _ (hC W hw) λW' hf=>⟨true,rfl,?_⟩;simp only[Δ];exact⟨⟨λ_=>alE.2 ⟨_,I,he⟩,λ_=>by omega⟩,hw.trans hf⟩
  ·have he:p x=false:=by simpa only [alm] using he
   rw[he] at hp;obtain⟨x0,x1,x2,x3,x4,x5,x6,x7,x8,x9,ab,ac,ae,af,ag,ah,⟨⟩⟩:=x;have c0:=hc 0 _ rfl;have c1:=hc 1 _ rfl;have c2:=hc 2 _ rfl;have c3:=hc 3 _ rfl;have c4:=hc 4 _ rfl;have c5:=hc 5 _ rfl;have c6:=hc 6 _ rfl;have c7:=hc 7 _ rfl;have c8:=hc 8 _ rfl;have c9:=hc 9 _ rfl;have J:=hc 10 _ rfl;have N:=hc 11 _ rfl;have O:=hc 12 _ rfl;have R:=hc 13 _ rfl;have U:=hc 14 _ rfl;have Y:=hc 15 _ rfl
   skip
   simp only[sx,c0,c1,c2,c3,c4,c5,c6,c7,c8,c9,J,N,O,R,U,Y];refine hp W _ (hC W hw) λW' hf=>⟨false,rfl,?_⟩;simp only[Β];rw[Α];refine u _ _ ⟨j+1,by omega,by simp,hw.trans hf,?_⟩ (by simp only;omega);rw[aa,ak6,hm,ak7,he,ak8];rfl
 ·simp only[Z,aaV,Β];rw[aji (by omega)] at hm;exact⟨⟨λh=>by omega,λh=>by rw[hm] at h;cases h⟩,hw⟩
theorem Zl {w:θ} {s:fU} {xs:List T16} {v:Value} {p:T16->Bool} {C:b_} (hs:lD 16 e16 w s xs) (hl:s.len<=2^62) (hp:UH v (λx:T16=>Value.agg ⟨e16 x⟩) [.one .bool] C λx=> .bool (p x)) (hC:∀W,Ext w W->C W):
  jR s v w λr w'=>r=xs.any p/\Ext w w':=by
 apply sH;refine cmS1 (aeI hs hl hp hC) ?_;rintro r w' ⟨h,hf⟩;refine⟨?_,hf⟩
 cases hb:xs.any p with
 |true=>exact ab9 (h.2 hb)
 |false=>exact abW λhh=>by rw[h.1 hh] at hb;cases hb
theorem agb {w:θ} {s:fU} {xs:List T7} {v:Value} {p:T7->Bool} {C:b_} (hs:lD 7 e7 w s xs) (hl:s.len<=2^62) (hp:UH v (λx:T7=>Value.agg ⟨e7 x⟩) [.one .bool] C λx=> .bool (p x)) (hC:∀W,Ext w W->C W):
  jH s v w λr w'=>(r>=0↔xs.any p=true)/\Ext w w':=by
 apply qJ;refine gK (λst W=>∃j:Nat,j<=xs.length/\st.1=(j:Int)/\Ext w W/\(xs.take j).any p=false) (λst _=>(s.len - st.1).toNat) ⟨0,by omega,rfl,Ext.refl _,by simp⟩ ?_;rintro⟨i,⟨⟩⟩ W ⟨j,hj,hi,hw,hm⟩ next u
 simp only at hi;subst hi;have hlen:=hs.len;by_cases J:(j:Int)<(s.len:Int)
 ·simp only[J,aaA,Δ];have hx:=abe (show j<xs.length by omega);have N:=Gp.Cfg.take_snoc hx;have I:=ajm (show j<xs.length by omega);generalize xs[j]=x at hx N I;refine jE wF (by omega) (hs.ext hw) (by omega) (by rw[Η];exact hx) λa hc=> ?_;have hp:=hp x;dsimp only at hp;by_cases he:p x=true
  ·rw[he] at hp;obtain⟨x0,x1,x2,x3,x4,x5,x6,⟨⟩⟩:=x;have c0:=hc 0 _ rfl;have c1:=hc 1 _ rfl;have c2:=hc 2 _ rfl;have c3:=hc 3 _ rfl;have c4:=hc 4 _ rfl;have c5:=hc 5 _ rfl;have c6:=hc 6 _ rfl
   skip
   simp only[sx,c0,c1,c2,c3,c4,c5,c6];refine hp W _ (hC W hw) λW' hf=>⟨true,rfl,?_⟩;simp only[Δ];exact⟨⟨λ_=>alE.2 ⟨_,I,he⟩,λ_=>by omega⟩,hw.trans hf⟩
  ·have he:p x=false:=by simpa only [alm] using he
   rw[he] at hp;obtain⟨x0,x1,x2,x3,x4,x5,x6,⟨⟩⟩:=x;have c0:=hc 0 _ rfl;have c1:=hc 1 _ rfl;have c2:=hc 2 _ rfl;have c3:=hc 3 _ rfl;have c4:=hc 4 _ rfl;have c5:=hc 5 _ rfl;have c6:=hc 6 _ rfl
   skip
   simp only[sx,c0,c1,c2,c3,c4,c5,c6];refine hp W _ (hC W hw) λW' hf=>⟨false,rfl,?_⟩;simp only[Β];rw[Α];refine u _ _ ⟨j+1,by omega,by simp,hw.trans hf,?_⟩ (by simp only;omega);rw[N,ak6,hm,ak7,he,ak8];rfl
 ·simp only[J,aaV,Β];rw[aji (by omega)] at hm;exact⟨⟨λh=>by omega,λh=>by rw[hm] at h;cases h⟩,hw⟩
theorem aae {w:θ} {s:fU} {xs:List T7} {v:Value} {p:T7->Bool} {C:b_} (hs:lD 7 e7 w s xs) (hl:s.len<=2^62) (hp:UH v (λx:T7=>Value.agg ⟨e7 x⟩) [.one .bool] C λx=> .bool (p x)) (hC:∀W,Ext w W->C W):
  jh s v w λr w'=>r=xs.any p/\Ext w w':=by
 apply pF;refine cmS1 (agb hs hl hp hC) ?_;rintro r w' ⟨h,hf⟩;refine⟨?_,hf⟩
 cases hb:xs.any p with
 |true=>exact ab9 (h.2 hb)
 |false=>exact abW λhh=>by rw[h.1 hh] at hb;cases hb
end Go.Proofs.CN
namespace Go.Proofs.CN
open Gp
instance :DecidableEq T16:=(@instDecidableEqProd Int _ inferInstance (@instDecidableEqProd Int _ inferInstance (@instDecidableEqProd Int _ inferInstance (@instDecidableEqProd Int _ inferInstance (@instDecidableEqProd Int _ inferInstance (@instDecidableEqProd Int _ inferInstance (@instDecidableEqProd Int _ inferInstance (@instDecidableEqProd Int _ inferInstance (@instDecidableEqProd Int _ inferInstance (@instDecidableEqProd Int _ inferInstance (@instDecidableEqProd Int _ inferInstance (@instDecidableEqProd Int _ inferInstance (@instDecidableEqProd Int _ inferInstance (@instDecidableEqProd Int _ inferInstance (@instDecidableEqProd Int _ inferInstance (@instDecidableEqProd Int _ inferInstance inferInstance))))))))))))))))
instance :DecidableEq T7:=(@instDecidableEqProd Int _ inferInstance (@instDecidableEqProd Int _ inferInstance (@instDecidableEqProd Int _ inferInstance (@instDecidableEqProd Int _ inferInstance (@instDecidableEqProd Int _ inferInstance (@instDecidableEqProd Int _ inferInstance (@instDecidableEqProd Int _ inferInstance inferInstance)))))))
instance :DecidableEq T4:=(@instDecidableEqProd Int _ inferInstance (@instDecidableEqProd Int _ inferInstance (@instDecidableEqProd Int _ inferInstance (@instDecidableEqProd Int _ inferInstance inferInstance))))
instance :DecidableEq T3:=(@instDecidableEqProd Int _ inferInstance (@instDecidableEqProd Int _ inferInstance (@instDecidableEqProd Int _ inferInstance inferInstance)))
theorem aiW (a b:T16):E8 υ 16 23 (.agg ⟨e16 a⟩) (.agg ⟨e16 b⟩)=some (decide (a=b)):=by
 obtain⟨a0,a1,a2,a3,a4,a5,a6,a7,a8,a9,u,I,a12,J,N,O,⟨⟩⟩:=a;obtain⟨b0,b1,b2,b3,b4,b5,b6,b7,b8,b9,R,U,Y,Z,aa,ab,⟨⟩⟩:=b;have h:E8 υ 16 23 (.agg ⟨e16 (a0,a1,a2,a3,a4,a5,a6,a7,a8,a9,u,I,a12,J,N,O,())⟩) (.agg ⟨e16 (b0,b1,b2,b3,b4,b5,b6,b7,b8,b9,R,U,Y,Z,aa,ab,())⟩)=some ((a0==b0) && ((a1==b1) && ((a2==b2) && ((a3==b3) && ((a4==b4) && ((a5==b5) && ((a6==b6) && ((a7==b7) && ((a8==b8) && ((a9==b9) && ((u==R) && ((I==U) && ((a12==Y) && ((J==Z) && ((N==aa) && ((O==ab) && true)))))))))))))))):=by kernel_rfl
 rw[h];simp[U1,ajW]
theorem eq4 (a b:T4):E8 υ 16 46 (.agg ⟨e4 a⟩) (.agg ⟨e4 b⟩)=some (decide (a=b)):=by
 obtain⟨a0,a1,a2,a3,⟨⟩⟩:=a;obtain⟨b0,b1,b2,b3,⟨⟩⟩:=b;have h:E8 υ 16 46 (.agg ⟨e4 (a0,a1,a2,a3,())⟩) (.agg ⟨e4 (b0,b1,b2,b3,())⟩)=some ((a0==b0) && ((a1==b1) && ((a2==b2) && ((a3==b3) && true)))):=by kernel_rfl
 rw[h];simp[U1,ajW]
theorem eq3 (a b:T3):E8 υ 16 48 (.agg ⟨e3 a⟩) (.agg ⟨e3 b⟩)=some (decide (a=b)):=by
 obtain⟨a0,a1,a2,⟨⟩⟩:=a;obtain⟨b0,b1,b2,⟨⟩⟩:=b;have h:E8 υ 16 48 (.agg ⟨e3 (a0,a1,a2,())⟩) (.agg ⟨e3 (b0,b1,b2,())⟩)=some ((a0==b0) && ((a1==b1) && ((a2==b2) && true))):=by kernel_rfl
 rw[h];simp[U1,ajW]
theorem ai1 (a:T16):oz υ 23 (.agg ⟨e16 a⟩)=true:=by unfold oz;rw[aiW];rfl
theorem agk (a:T4):oz υ 46 (.agg ⟨e4 a⟩)=true:=by unfold oz;rw[eq4];rfl
theorem agj (a:T3):oz υ 48 (.agg ⟨e3 a⟩)=true:=by unfold oz;rw[eq3];rfl
theorem eq1 (a b:Int):E8 υ 16 3 (.int .i64 a) (.int .i64 b)=some (decide (a=b)):=eqP a b
theorem key1 (a:Int):oz υ 3 (.int .i64 a)=true:=agl a
theorem YS {α:Type} [DecidableEq α] {sh:List Shape} {kt T:TypeId} {f:α->Ae sh} {enc:α->Value} (eqE:∀a b,E8 υ 16 kt (enc a) (enc b)=some (decide (a=b))) (keyE:∀a,oz υ kt (enc a)=true) {w:θ} {v:Value} {C:b_} {ys:List α} (hv:oO υ sh v C (ys.map f)) (hC:∀W,Ext w W->C W)
  {body:Addr->Addr->Nat->Ae sh->θ->(Exit->b_)->Prop} {K:Bool->b_} (hK:∀r w',(r=true↔¬ys.Nodup)->Ext w w'->K r w')
  (hb:∀(a b m l:Nat) (y:α) (W:θ) (Kb:Exit->b_),Row W b [.map (some m)]->l<W.heap.size->b≠l->(∀W',Ext W W'->rP υ kt .bool (some m) (enc y) (.bool false) (gG W' l) λx=>bif x then St (gG W' l) ⟨a,0,none⟩ (.bool true) λw=>Kb .ret w else oP υ kt (some m) (enc y) (.bool true) (gG W' l) λw=>Kb .normal w)->body ⟨a,0,none⟩ ⟨b,0,none⟩ l (f y) W Kb):
  Al w (.cells ⟨[.bool false]⟩ 4) λa3 w2=>Al w2 (.map #[] 0) λa5 w4=>Al w4 (.cells ⟨[.map none]⟩ T) λa7 w6=>St w6 a7 (.map (some w2.heap.size)) λw8=>zn υ none sh v w8 (body a3 a7)
   (λR=>St R a3 (.bool false) λI=>I.heap[w8.heap.size]? =some (.deferred (some []))/\Ld .bool (I.putObj w8.heap.size (.deferred none)) a3 λU=>K U (I.putObj w8.heap.size (.deferred none)))
   (λJ=>J.heap[w8.heap.size]? =some (.deferred (some []))/\Ld .bool (J.putObj w8.heap.size (.deferred none)) a3 λY=>K Y (J.putObj w8.heap.size (.deferred none))) []:=by
 refine gu λa w1 ra ea z1 f1=>ahq λw2 m2 z2 f2=>gu λb w3 rb eb z3 f3=> ?_;refine gX rb rfl (by simp) λw4 rb f4 z4=> ?_;simp only[agE] at rb;have ra4:=((ra.ext f2).ext f3).fr (f4 (·=b) rfl) (by omega);have m4:=((m2 _ enc).ext f3).fr (f4 (·=b) rfl) (by omega);have x4:Ext w w4:=((f1.trans f2).trans f3).new (f4 (·=b) rfl) λx hx e=>by omega
 clear f4;generalize hm:w1.heap.size=m at *;have lq:nG none w4=w4.heap.size+1:=rfl;refine Bh hv (λi W=>Row W a [.bool false]/\Row W b [.map (some m)]/\zl enc W m (ys.take i)/\(ys.take i).Nodup/\Ext w W)
  (λe W=>e= .ret/\Row W a [.bool true]/\¬ys.Nodup/\Ext w W) (by simp) (λW hx _=>⟨ra4.ext hx,rb.ext hx,m4.ext hx,by simp,x4.trans hx⟩) (λi W h=>hC W h.2.2.2.2) ?_ ?_ (λe W hJ=> .inl hJ.1) ?_ ?_ ?_ (λid W h=>by cases h.1)
 ·rintro i W W' ⟨h1,h2,h3,h4,h5⟩ hf;rw[lq] at hf;exact⟨h1.fr hf (by omega),h2.fr hf (by omega),h3.fr hf (by omega),h4,h5.new hf λx hx e=>by omega⟩
 ·rintro e W W' ⟨h1,h2,h3,h4⟩ hf;rw[lq] at hf;exact⟨h1,h2.fr hf (by omega),h3,h4.new hf λx hx e=>by omega⟩
 ·rintro i y W Kb hx ⟨h1,h2,h3,h4,h5⟩ N hn hj;obtain⟨y',hy',rfl⟩:=akW.1 (by rw[aiF] at hx;exact hx);have O:=Gp.Cfg.take_snoc hy';rw[lq] at N hn hj ⊢;refine hb a b m _ y' W Kb h2 N (by omega) λW' hW'=> ?_;have fb:gU W' (gG W' (w4.heap.size+1)) (·=w4.heap.size+1):=gU.gG W' _;have fc:∀S:Nat->Prop,gU (gG W (w4.heap.size+1)) (gG W' (w4.heap.size+1)) S:=λS=>QG (hW' S) _;generalize gG W' (w4.heap.size+1)=W3 at fb fc ⊢;have k1:=(h1.ext hW').fr fb (by omega);have k2:=(h2.ext hW').fr fb (by omega);have k3:=(h3.ext hW').fr fb (by omega);have k5:Ext w W3:=(h5.trans hW').new fb λx hx e=>by omega
  refine adD k3 eqE y' (keyE _) ?_;by_cases u:y'∈ys.take i
  ·simp only[u,aaA,Δ];refine gX k1 rfl (by simp) λW4 q1 g1 z4=> ?_;simp only[agE] at q1;refine hj .ret W4 (·=a) ((fc _).trans (g1 (·=a) rfl) λ_ _ e=>e) (λx hx1 hx2 e=>by omega) ⟨rfl,q1,λZ=>Gp.Cfg.vC.1 Z i _ hy' u,k5.new (g1 (·=a) rfl) λx hx e=>by omega⟩
  ·simp only[u,aaV,Β];refine adF k3 eqE _ (keyE _) u λW4 q3 g3 z4=> ?_;refine hn W4 (·=m) ((fc _).trans g3 λ_ _ e=>e) (λx hx1 hx2 e=>by omega) ⟨k1.fr g3 (by omega),k2.fr g3 (by omega),?_,?_,k5.new g3 λx hx e=>by omega⟩
   ·rw[O];exact q3
   ·rw[O,Gp.Cfg.SY];exact⟨h4,u⟩
 ·rintro W ⟨h1,h2,h3,h4,h5⟩ hm';have hm':=hm' rfl;rw[aji (by simp)] at h4;refine gX h1 rfl (by simp) λW4 q1 g1 z4=> ?_;simp only[agE] at q1;have z5:=x4.size;refine⟨by rw[<- hm'];exact(g1 (·=a) rfl).same _ (by have:=(aiQ.1 hm').1;omega) (by omega),Ld_b 0 false (q1.fr (gU.pJ W4 w4.heap.size (.deferred none)) (by omega)) ?_⟩;exact hK _ _ (by simp[h4]) ((h5.new (g1 (·=a) rfl) λx hx e=>by omega).new (gU.pJ W4 w4.heap.size (.deferred none)) λx hx e=>by omega)
 ·rintro W ⟨_,h1,h2,h3⟩ hm';have z5:=x4.size;refine⟨hm' rfl,Ld_b 0 true (h1.fr (gU.pJ W w4.heap.size (.deferred none)) (by omega)) ?_⟩;exact hK _ _ (by simp[h2]) (h3.new (gU.pJ W w4.heap.size (.deferred none)) λx hx e=>by omega)
theorem aiv {w:θ} {v:Value} {C:b_} {ys:List Int} (hv:oO υ [.one ν] v C (ys.map λy=>(y,()))) (hC:∀W,Ext w W->C W):
  uU v w λr w'=>(r=true↔¬ys.Nodup)/\Ext w w':=by
 apply JM;refine YS (K:=λr w'=>(r=true↔¬ys.Nodup)/\Ext w w') eq1 key1 hv hC (λ_ _ h1 h2=>⟨h1,h2⟩) λa b m l y W Kb hr hl u h=>⟨rfl,?_⟩;simp only[sx,(hr.fr (gU.gG W l) u).cell];exact h W (Ext.refl W)
theorem ag2 {w:θ} {v:Value} {C:b_} {ys:List T16} (hv:oO υ [.agg K16] v C (ys.map λy=>(y,()))) (hC:∀W,Ext w W->C W):
  pW v w λr w'=>(r=true↔¬ys.Nodup)/\Ext w w':=by
 apply D8;refine YS (K:=λr w'=>(r=true↔¬ys.Nodup)/\Ext w w') aiW ai1 hv hC (λ_ _ h1 h2=>⟨h1,h2⟩) λa b m l y W Kb hr hl u h=> ?_;obtain⟨y0,y1,y2,y3,y4,y5,y6,y7,y8,y9,y10,y11,y12,y13,y14,y15,⟨⟩⟩:=y;refine gu λt w1 r1 e1 z1 f1=>gZ r1 rfl rfl λw2 r2 f2' z2=> ?_;have f2:Ext W w2:=f1.new (f2' (·=t) rfl) λx hx e=>by omega
 have hl2:=f2.size;refine⟨(f2 λ_=>False).same _ hl (by simp),?_⟩;simp only[sx,((hr.ext f2).fr (gU.gG w2 l) u).cell,(r2.fr (gU.gG w2 l) (by omega)).cell];exact h w2 f2
theorem aix {w:θ} {v:Value} {C:b_} {ys:List T4} (hv:oO υ [.agg K4] v C (ys.map λy=>(y,()))) (hC:∀W,Ext w W->C W):
  oD v w λr w'=>(r=true↔¬ys.Nodup)/\Ext w w':=by
 apply BA;refine YS (K:=λr w'=>(r=true↔¬ys.Nodup)/\Ext w w') eq4 agk hv hC (λ_ _ h1 h2=>⟨h1,h2⟩) λa b m l y W Kb hr hl u h=> ?_;obtain⟨y0,y1,y2,y3,⟨⟩⟩:=y;refine gu λt w1 r1 e1 z1 f1=>gZ r1 rfl rfl λw2 r2 f2' z2=> ?_;have f2:Ext W w2:=f1.new (f2' (·=t) rfl) λx hx e=>by omega
 have hl2:=f2.size;refine⟨(f2 λ_=>False).same _ hl (by simp),?_⟩;simp only[sx,((hr.ext f2).fr (gU.gG w2 l) u).cell,(r2.fr (gU.gG w2 l) (by omega)).cell];exact h w2 f2
theorem aiw {w:θ} {v:Value} {C:b_} {ys:List T3} (hv:oO υ [.agg K3] v C (ys.map λy=>(y,()))) (hC:∀W,Ext w W->C W):
  oG v w λr w'=>(r=true↔¬ys.Nodup)/\Ext w w':=by
 apply BD;refine YS (K:=λr w'=>(r=true↔¬ys.Nodup)/\Ext w w') eq3 agj hv hC (λ_ _ h1 h2=>⟨h1,h2⟩) λa b m l y W Kb hr hl u h=> ?_;obtain⟨y0,y1,y2,⟨⟩⟩:=y;refine gu λt w1 r1 e1 z1 f1=>gZ r1 rfl rfl λw2 r2 f2' z2=> ?_;have f2:Ext W w2:=f1.new (f2' (·=t) rfl) λx hx e=>by omega
 have hl2:=f2.size;refine⟨(f2 λ_=>False).same _ hl (by simp),?_⟩;simp only[sx,((hr.ext f2).fr (gU.gG w2 l) u).cell,(r2.fr (gU.gG w2 l) (by omega)).cell];exact h w2 f2
end Go.Proofs.CN
namespace Go.Proofs.CN
open Gp
def ahE:T16->Bool
 |(x0,x1,x2,x3,x4,x5,x6,x7,x8,x9,x10,x11,x12,x13,x14,x15,())=>((x0==0) && ((x1==0) && ((x2==0) && ((x3==0) && ((x4==0) && ((x5==0) && ((x6==0) && ((x7==0) && ((x8==0) && ((x9==0) && ((x10==0) && ((x11==0) && ((x12==0) && ((x13==0) && ((x14==0) && ((x15==0) && true))))))))))))))))
def ou (x:T16):Bool:= !(ahE x) && (x.1 !=255)
theorem P9 {p0 p1 p2 p3 p4 p5 p6 p7 p8 p9 p10 p11 p12 p13 p14 p15:Int} (w:θ):ER p0 p1 p2 p3 p4 p5 p6 p7 p8 p9 p10 p11 p12 p13 p14 p15 w λr w'=>r=ou (p0,p1,p2,p3,p4,p5,p6,p7,p8,p9,p10,p11,p12,p13,p14,p15,())/\Ext w w':=by
 apply Z9;refine gu λa w1 ra ea z1 f1=>gu λb w2 rb eb z2 f2=> ?_;have ra:=ra.ext f2;simp only[sx,ra.cell,rb.cell];have he:∀c:Bool,c=ahE (p0,p1,p2,p3,p4,p5,p6,p7,p8,p9,p10,p11,p12,p13,p14,p15,())->((bif !c then (0:Int)<=0/\(0:Int)<16/\((p0 !=255)=ou (p0,p1,p2,p3,p4,p5,p6,p7,p8,p9,p10,p11,p12,p13,p14,p15,())/\Ext w w2) else (false=ou (p0,p1,p2,p3,p4,p5,p6,p7,p8,p9,p10,p11,p12,p13,p14,p15,())/\Ext w w2))):=by
  intro c hc;unfold ou;rw[<- hc]
  cases c
  ·exact⟨by omega,by omega,by simp,f1.trans f2⟩
  ·exact⟨by simp,f1.trans f2⟩
 exact he _ rfl
theorem Um {p0 p1 p2 p3 p4 p5 p6 p7 p8 p9 p10 p11 p12 p13 p14 p15:Int} (w:θ):zG p0 p1 p2 p3 p4 p5 p6 p7 p8 p9 p10 p11 p12 p13 p14 p15 w λr w'=>r=ou (p0,p1,p2,p3,p4,p5,p6,p7,p8,p9,p10,p11,p12,p13,p14,p15,())/\Ext w w':=by
 apply Vt;refine gu λa w1 ra ea z1 f1=> ?_;simp only[sx,ra.cell];have he:∀c:Bool,c=ahE (p0,p1,p2,p3,p4,p5,p6,p7,p8,p9,p10,p11,p12,p13,p14,p15,())->((bif !c then (0:Int)<=0/\(0:Int)<16/\((p0 !=255)=ou (p0,p1,p2,p3,p4,p5,p6,p7,p8,p9,p10,p11,p12,p13,p14,p15,())/\Ext w w1) else (false=ou (p0,p1,p2,p3,p4,p5,p6,p7,p8,p9,p10,p11,p12,p13,p14,p15,())/\Ext w w1))):=by
  intro c hc;unfold ou;rw[<- hc]
  cases c
  ·exact⟨by omega,by omega,by simp,f1⟩
  ·exact⟨by simp,f1⟩
 exact he _ rfl
def Ej (n:Nat) (pl:List Int):T7->Prop
 |(q0,q1,q2,q3,q4,q5,q6,())=>((0<=q3/\q3<=65535)/\(0<=q6/\q6<=65535))/\(mD q2/\q5∈pl)/\((q1=1\/q1=6\/q1=17)/\q1=q4)/\(0<=q0/\q0<=(n:Int) - 1)
instance (n:Nat) (pl:List Int) (x:T7):Decidable (Ej n pl x):=by
 obtain⟨q0,q1,q2,q3,q4,q5,q6,⟨⟩⟩:=x;exact inferInstanceAs (Decidable (_/\_/\_/\_))
theorem YP {w:θ} {p0 p1 p2 p3 p4 p5 p6 p7 p8 p9 p10 p11 p12 p13 p14 p15:Int} {sw po:fU} {n18 n19 n20 n21 n22 n23 n24 n25 n26 n27 n28 n29 n30 n31 n32 n33 n34:Int} {st:fU} {q0 q1 q2 q3 q4 q5 q6:Int} {pl:List Int} (hsl:sw.len<=2^62) (J:lD 1 eI w po pl) (N:po.len<=2^62):
  CV p0 p1 p2 p3 p4 p5 p6 p7 p8 p9 p10 p11 p12 p13 p14 p15 sw po n18 n19 n20 n21 n22 n23 n24 n25 n26 n27 n28 n29 n30 n31 n32 n33 n34 st q0 q1 q2 q3 q4 q5 q6 w λr w'=>r=decide (Ej sw.len pl (q0,q1,q2,q3,q4,q5,q6,()))/\Ext w w':=by
 apply TD;refine gu λa w1 ra ea z1 f1=>gu λb w2 rb eb z2 f2=> ?_;have ra:=ra.ext f2;have x2:=f1.trans f2;clear f1 f2;simp -zeta only[sx,rb.cell];intro J7;have hJ7:∀c1 W,Ext w2 W->c1=decide ((0<=q3/\q3<=65535)/\(0<=q6/\q6<=65535))->J7 c1 W:=by
  intro c1 W hx h1;have ra:=ra.ext hx;have rb:=rb.ext hx;simp -zeta only[J7];intro u;have hJ10:∀c2 W',Ext W W'->c2=decide (mD q2/\q5∈pl)->u c2 W':=by
   intro c2 W' hx' h2;have ra:=ra.ext hx';have rb:=rb.ext hx';simp -zeta only[u];intro I;have hJ13:∀c3 W'',Ext W' W''->c3=decide ((q1=1\/q1=6\/q1=17)/\q1=q4)->I c3 W'':=by
    intro c3 W'' hx'' h3;have ra:=ra.ext hx'';have rb:=rb.ext hx'';simp only[I,d_,fZ,gI,gq,ra.cell,rb.cell];have xx:=((x2.trans hx).trans hx').trans hx'';have fin:∀c4:Bool,c4=(decide ((0<=q3/\q3<=65535)/\(0<=q6/\q6<=65535)) && (decide (mD q2/\q5∈pl) && (decide ((q1=1\/q1=6\/q1=17)/\q1=q4) && decide (0<=q0/\q0<=(sw.len:Int) - 1))))->c4=decide (Ej sw.len pl (q0,q1,q2,q3,q4,q5,q6,())):=by
     intro c4 h;rw[h,<- ajW,<- ajW,<- ajW];rfl
    rw[<- h1,<- h2,<- h3] at fin
    cases c1
    ·exact⟨fin _ (by simp),xx⟩
    ·cases c2
     ·exact⟨fin _ (by simp),xx⟩
     ·cases c3
      ·exact⟨fin _ (by simp),xx⟩
      ·simp only[Δ];rw[Α];refine cmS0 (yu _ _ _ _) ?_;rintro _ w' ⟨rfl,hf⟩;exact⟨fin _ (by simp),xx.trans hf⟩
   simp -zeta only[d_,fZ,gq,rb.cell];refine cmS0 (aaU _ _) ?_;rintro _ w' ⟨rfl,hf⟩;have rb:=rb.ext hf;by_cases hp:(q1=1\/q1=6\/q1=17)
   ·simp -zeta only[hp,aaA,Δ,Δ,d_,fZ,gq,rb.cell];exact hJ13 _ _ hf (by rw[U1,akq];exact⟨λh=>⟨hp,h⟩,λh=>h.2⟩)
   ·simp -zeta only[hp,aaV,Β];exact hJ13 _ _ hf (abW λh=>hp h.1).symm
  simp -zeta only[d_,fZ,gq,rb.cell];refine cmS0 (zN _ _) ?_;rintro _ w' ⟨rfl,hf⟩;have rb:=rb.ext hf;have ra:=ra.ext hf;by_cases hp:mD q2
  ·simp -zeta only[hp,aaA,Δ,Δ,d_,fZ,gI,gq,rb.cell,ra.cell];refine cmS0 (BZ (((J.ext x2).ext hx).ext hf) N _) ?_;rintro _ w'' ⟨rfl,hw⟩;subst hw;exact hJ10 _ _ hf (by simp[hp])
  ·simp -zeta only[hp,aaV,Β];exact hJ10 _ _ hf (by simp[hp])
 refine cmS0 (yu _ _ _ _) ?_;rintro _ w' ⟨rfl,hf⟩;have rb:=rb.ext hf;by_cases hp:(0<=q3/\q3<=65535)
 ·simp -zeta only[hp,aj7,aaA,Δ,Δ,d_,fZ,gq,rb.cell];refine cmS0 (yu _ _ _ _) ?_;rintro _ w'' ⟨rfl,hf'⟩;exact hJ7 _ _ (hf.trans hf') (by simp[hp])
 ·simp -zeta only[hp,aaV,Β];exact hJ7 _ _ hf (by simp[hp])
theorem aeM {p0 p1 p2 p3 p4 p5 p6 p7 p8 p9 p10 p11 p12 p13 p14 p15:Int} (w:θ):vH p0 p1 p2 p3 p4 p5 p6 p7 p8 p9 p10 p11 p12 p13 p14 p15 w λr0 r1 r2 r3 r4 r5 r6 r7 r8 r9 h u I J N O w'=>((r0,r1,r2,r3,r4,r5,r6,r7,r8,r9,h,u,I,J,N,O,()):T16)=(p0,p1,p2,p3,p4,p5,p6,p7,p8,p9,p10,p11,p12,p13,p14,p15,())/\Ext w w':=by
 apply Dy;refine gu λa w1 ra ea z1 f1=>gu λb w2 rb eb z2 f2=> ?_;have ra:=ra.ext f2;simp only[sx,ra.cell];refine gZ rb rfl rfl λw3 r3 f3 z3=> ?_;simp only[d_,fZ,gq,r3.cell];exact⟨by trivial,(f1.trans f2).new (f3 (·=b) rfl) λx hx e=>by omega⟩
def nU:T7->T4|(q0,q1,q2,q3,q4,q5,q6,())=>(q0,q1,q2,q3,())
def pI:T7->T3|(q0,q1,q2,q3,q4,q5,q6,())=>(q4,q5,q6,())
theorem aeK {q0 q1 q2 q3 q4 q5 q6:Int} (w:θ):Ak q0 q1 q2 q3 q4 q5 q6 w λr0 r1 r2 r3 w'=>(r0=q0/\r1=q1/\r2=q2/\r3=q3)/\Ext w w':=by
 apply JJ;refine gu λa w1 ra ea z1 f1=>gu λb w2 rb eb z2 f2=> ?_;have ra:=ra.ext f2;simp only[sx,ra.cell];refine gZ rb rfl rfl λw3 r3 f3 z3=> ?_;simp only[d_,fZ,gq,r3.cell,aj7,aeA];exact(f1.trans f2).new (f3 (·=b) rfl) λx hx e=>by omega
theorem ae5 {q0 q1 q2 q3 q4 q5 q6:Int} (w:θ):Am q0 q1 q2 q3 q4 q5 q6 w λr0 r1 r2 w'=>(r0=q4/\r1=q5/\r2=q6)/\Ext w w':=by
 apply JK;refine gu λa w1 ra ea z1 f1=>gu λb w2 rb eb z2 f2=> ?_;have ra:=ra.ext f2;simp only[sx,ra.cell];refine gZ rb rfl rfl λw3 r3 f3 z3=> ?_;simp only[d_,fZ,gq,r3.cell,aj7,aeA];exact(f1.trans f2).new (f3 (·=b) rfl) λx hx e=>by omega
theorem jZ {f:FuncId} {cap:Array Value} {sh:List Shape} {args:List Value} {w:θ} {K:Value->b_} (hb:oq υ f=true) (h:Gw υ sh f (args++cap.toList) w K):
  jB υ sh (.func (.func f) #[] cap) args w K:=by
 unfold jB;simp only[hb,Δ];exact h
theorem aap:UH (.func (.func JF) #[] #[]) (λx:Int=>Value.int .i64 x) [.one ν] (λ_=>True) (λx=>Value.int .i64 x):=by
 intro x W K _ hK;refine jZ (by kernel_rfl) ?_;refine Calls.mono (Ih (a0:=x) (w:=W) (K:=λr W'=>r=x/\Ext W W') ?_) ?_
 ·exact⟨rfl,Ext.refl _⟩
 ·rintro e W' ⟨r,he,rfl,hf⟩;exact⟨r,he,hK W' hf⟩
theorem Zz:UH (.func (.func D6) #[] #[]) (λx:T16=>Value.agg ⟨e16 x⟩) [.agg K16] (λ_=>True) (λx:T16=>Value.agg ⟨e16 x⟩):=by
 intro x W K _ hK;obtain⟨p0,p1,p2,p3,p4,p5,p6,p7,p8,p9,p10,p11,p12,p13,p14,p15,⟨⟩⟩:=x;refine jZ (by kernel_rfl) ?_;refine Calls.mono (aeM W) ?_;rintro e W' ⟨r0,r1,r2,r3,r4,r5,r6,r7,r8,r9,u,I,J,N,O,R,he,h,hf⟩;refine⟨r0,r1,r2,r3,r4,r5,r6,r7,r8,r9,u,I,J,N,O,R,he,?_⟩;have hK:=hK W' hf;rw[<- h] at hK;exact hK
theorem aer:UH (.func (.func Lr) #[] #[]) (λx:T7=>Value.agg ⟨e7 x⟩) [.agg K4] (λ_=>True) (λx:T7=>Value.agg ⟨e4 (nU x)⟩):=by
 intro x W K _ hK;obtain⟨q0,q1,q2,q3,q4,q5,q6,⟨⟩⟩:=x;refine jZ (by kernel_rfl) ?_;refine Calls.mono (aeK W) ?_;rintro e W' ⟨r0,r1,r2,r3,he,⟨rfl,rfl,rfl,rfl⟩,hf⟩;exact⟨r0,r1,r2,r3,he,hK W' hf⟩
theorem aes:UH (.func (.func Ls) #[] #[]) (λx:T7=>Value.agg ⟨e7 x⟩) [.agg K3] (λ_=>True) (λx:T7=>Value.agg ⟨e3 (pI x)⟩):=by
 intro x W K _ hK;obtain⟨q0,q1,q2,q3,q4,q5,q6,⟨⟩⟩:=x;refine jZ (by kernel_rfl) ?_;refine Calls.mono (ae5 W) ?_;rintro e W' ⟨r0,r1,r2,he,⟨rfl,rfl,rfl⟩,hf⟩;exact⟨r0,r1,r2,he,hK W' hf⟩
theorem aao:UH (.func (.func OM) #[] #[]) (λx:T16=>Value.agg ⟨e16 x⟩) [.one .bool] (λ_=>True) (λx:T16=> .bool (!ou x)):=by
 intro x W K _ hK;obtain⟨p0,p1,p2,p3,p4,p5,p6,p7,p8,p9,p10,p11,p12,p13,p14,p15,⟨⟩⟩:=x;refine jZ (by kernel_rfl) ?_;refine Calls.mono (Nw (w:=W) (K:=λr W'=>r= !ou (p0,p1,p2,p3,p4,p5,p6,p7,p8,p9,p10,p11,p12,p13,p14,p15,())/\Ext W W') ?_) ?_
 ·refine gu λa w1 ra ea z1 f1=> ?_;simp only[sx,ra.cell];refine cmS0 (P9 w1) ?_;rintro _ w' ⟨rfl,hf⟩;exact⟨rfl,f1.trans hf⟩
 ·rintro e W' ⟨r,he,rfl,hf⟩;exact⟨_,he,hK W' hf⟩
theorem ZA:UH (.func (.func OO) #[] #[]) (λx:Int=>Value.int .i64 x) [.one .bool] (λ_=>True) (λx:Int=> .bool (!decide (mD x))):=by
 intro x W K _ hK;refine jZ (by kernel_rfl) ?_;refine Calls.mono (Ny (a0:=x) (w:=W) (K:=λr W'=>r= !decide (mD x)/\Ext W W') ?_) ?_
 ·refine cmS0 (zN x W) ?_;rintro _ w' ⟨rfl,hf⟩;exact⟨rfl,hf⟩
 ·rintro e W' ⟨r,he,rfl,hf⟩;exact⟨_,he,hK W' hf⟩
theorem aev {f0:Nat} {p0 p1 p2 p3 p4 p5 p6 p7 p8 p9 p10 p11 p12 p13 p14 p15:Int} {sw po:fU} {n18 n19 n20 n21 n22 n23 n24 n25 n26 n27 n28 n29 n30 n31 n32 n33 n34:Int} {st:fU} {pl:List Int} (h:sw.len<=2^62) (u:po.len<=2^62):
  UH (.func (.func OQ) #[] #[.pointer (some ⟨f0,0,none⟩)]) (λx:T7=>Value.agg ⟨e7 x⟩) [.one .bool]
   (λW=>Row W f0 (.int .u8 p0:: .int .u8 p1:: .int .u8 p2:: .int .u8 p3:: .int .u8 p4:: .int .u8 p5:: .int .u8 p6:: .int .u8 p7:: .int .u8 p8:: .int .u8 p9:: .int .u8 p10:: .int .u8 p11:: .int .u8 p12:: .int .u8 p13:: .int .u8 p14:: .int .u8 p15:: .slice sw.a sw.len sw.cap:: .slice po.a po.len po.cap:: .int .i64 n18:: .int .i64 n19:: .int .i64 n20:: .int .i64 n21:: .int .i64 n22:: .int .i64 n23:: .int .i64 n24:: .int .i64 n25:: .int .i64 n26:: .int .i64 n27:: .int .i64 n28:: .int .i64 n29:: .int .i64 n30:: .int .i64 n31:: .int .i64 n32:: .int .i64 n33:: .int .i64 n34:: .slice st.a st.len st.cap::[])/\lD 1 eI W po pl) (λx:T7=> .bool (!decide (Ej sw.len pl x))):=by
 rintro x W K ⟨hr,I⟩ hK;obtain⟨q0,q1,q2,q3,q4,q5,q6,⟨⟩⟩:=x;refine jZ (by kernel_rfl) ?_;refine Calls.mono (Nz (f0:=⟨f0,0,none⟩) (w:=W) (K:=λr W'=>r= !decide (Ej sw.len pl (q0,q1,q2,q3,q4,q5,q6,()))/\Ext W W') ?_) ?_
 ·refine gu λa w1 ra ea z1 f1=> ?_;have hr:=hr.ext f1;simp only[sx,ra.cell,hr.cell];refine cmS0 (YP h (I.ext f1) u) ?_;rintro _ w' ⟨rfl,hf⟩;exact⟨rfl,f1.trans hf⟩
 ·rintro e W' ⟨r,he,rfl,hf⟩;exact⟨_,he,hK W' hf⟩
theorem afX {f0:Nat} {p0 p1 p2 p3 p4 p5 p6 p7 p8 p9 p10 p11 p12 p13 p14 p15:Int} {sw po:fU} {n18 n19 n20 n21 n22 n23 n24 n25 n26 n27 n28 n29 n30 n31 n32 n33 n34:Int} {st:fU}:
  UH (.func (.func Lu) #[] #[.pointer (some ⟨f0,0,none⟩)]) (λx:Int=>Value.int .i64 x) [.one .bool]
   (λW=>Row W f0 (.int .u8 p0:: .int .u8 p1:: .int .u8 p2:: .int .u8 p3:: .int .u8 p4:: .int .u8 p5:: .int .u8 p6:: .int .u8 p7:: .int .u8 p8:: .int .u8 p9:: .int .u8 p10:: .int .u8 p11:: .int .u8 p12:: .int .u8 p13:: .int .u8 p14:: .int .u8 p15:: .slice sw.a sw.len sw.cap:: .slice po.a po.len po.cap:: .int .i64 n18:: .int .i64 n19:: .int .i64 n20:: .int .i64 n21:: .int .i64 n22:: .int .i64 n23:: .int .i64 n24:: .int .i64 n25:: .int .i64 n26:: .int .i64 n27:: .int .i64 n28:: .int .i64 n29:: .int .i64 n30:: .int .i64 n31:: .int .i64 n32:: .int .i64 n33:: .int .i64 n34:: .slice st.a st.len st.cap::[])) (λx:Int=> .bool (decide (x>n20))):=by
 rintro x W K hr hK;refine jZ (by kernel_rfl) ?_;refine Calls.mono (JL (a0:=x) (f0:=⟨f0,0,none⟩) (w:=W) (K:=λr W'=>r=decide (x>n20)/\Ext W W') ?_) ?_
 ·simp only[sx,hr.cell];exact⟨by trivial,Ext.refl _⟩
 ·rintro e W' ⟨r,he,rfl,hf⟩;exact⟨_,he,hK W' hf⟩
end Go.Proofs.CN
namespace Go.Proofs.CN
open Gp
theorem QO {α β:Type} {xs:List α} {k:α->β} {i:Nat} {x:α} (h:xs[i]? =some x):(((xs.map k).map λy=>(y,())):List (β×Unit))[i]? =some (k x,()):=by
 rw[aiF,aiF,h];rfl
theorem M_ {f0 f1:Nat} {s:fU} {xs:List Int} {fv:Value} {k:Int->Int} (hl:s.len<=2^62) (hk:UH fv (λx:Int=>Value.int .i64 x) [.one ν] (λ_=>True) (λx=>(λx:Int=>Value.int .i64 x) (k x))):
  oO υ [.one ν] (Value.func (.func D5) #[] #[.pointer (some ⟨f0,0,none⟩),.pointer (some ⟨f1,0,none⟩)]) (λW=>Row W f0 [.slice s.a s.len s.cap]/\Row W f1 [fv]/\lD 1 eI W s xs) ((xs.map k).map λy=>(y,())):=by
 refine⟨by kernel_rfl,λl Q D hC hQ hD hy w h0=> ?_⟩;refine Calls.mono (Dx (a0:= .func (.yield l) #[] #[]) (f0:=⟨f0,0,none⟩) (f1:=⟨f1,0,none⟩) (K:=λw'=>Q (((xs.map k).map λy=>(y,())):List (Int×Unit)).length w'\/D w') ?_) (λe w' h=>h);obtain⟨r0,r1,hs⟩:=hC _ _ h0;simp only[sx,r0.cell];refine gK (λst W=>∃j:Nat,j<=xs.length/\st.1=(j:Int)/\Q j W) (λst _=>(s.len - st.1).toNat) ⟨0,by omega,rfl,h0⟩ ?_;rintro⟨i,⟨⟩⟩ W ⟨j,hj,hi,hq⟩ next u
 simp only at hi;subst hi;obtain⟨r0,r1,hs⟩:=hC _ _ hq;have hlen:=hs.len;by_cases J:(j:Int)<(s.len:Int)
 ·simp only[J,aaA,Δ];have hx:=abe (show j<xs.length by omega);generalize xs[j]=x at hx;have N:=QO (k:=k) hx;refine jE jc (by omega) hs (by omega) (by rw[Η];exact hx) λa hc=> ?_;have I:=hk x;dsimp only at I;generalize k x=y at I N;obtain x:=x;have c0:W.cell? (a.add 0)=some (.int .i64 x):=hc 0 _ rfl;rw[show a.add 0=a from rfl] at c0;simp only[abY,fZ,gq,Jf,c0,r1.cell];obtain⟨W1,hW1⟩:∃W1,W1=W:=⟨W,rfl⟩;subst hW1;have hq1:=hq;refine I W1 _ trivial λW2 hf2=> ?_;have hq2:=hQ _ _ _ hq1 hf2;obtain y:=y;refine⟨y,rfl,?_⟩;refine lI (hy j _ W2 _ N hq2 ?_ ?_)
  ·intro W' hq';refine⟨true,rfl,?_⟩;simp only[ab6,Β];rw[Α];exact u _ _ ⟨j+1,by omega,by simp,hq'⟩ (by simp only;omega)
  ·intro W' hd;exact⟨false,rfl,by simp only[aek,Δ];exact .inr hd⟩
 ·simp only[J,aaV,Β];have:j=xs.length:=by omega
  subst this;exact .inl (by simpa using hq)
theorem Xz {w:θ} {s:fU} {xs:List Int} {fv:Value} {k:Int->Int} (hs:lD 1 eI w s xs) (hl:s.len<=2^62) (ho:iL fv=true) (hk:UH fv (λx:Int=>Value.int .i64 x) [.one ν] (λ_=>True) (λx=>(λx:Int=>Value.int .i64 x) (k x))):
  qP s fv w λv w'=>Ext w w'/\∃C,oO υ [.one ν] v C ((xs.map k).map λy=>(y,()))/\∀W,Ext w' W->C W:=by
 apply Fh;refine⟨rfl,gu λa w1 ra ea z1 f1=>⟨ho,gu λb w2 rb eb z2 f2=> ?_⟩⟩;exact⟨f1.trans f2,_,M_ hl hk,λW hW=>⟨(ra.ext f2).ext hW,rb.ext hW,((hs.ext f1).ext f2).ext hW⟩⟩
theorem Bz {f0 f1:Nat} {s:fU} {xs:List T16} {fv:Value} {k:T16->T16} (hl:s.len<=2^62) (hk:UH fv (λx:T16=>Value.agg ⟨e16 x⟩) [.agg K16] (λ_=>True) (λx=>(λx:T16=>Value.agg ⟨e16 x⟩) (k x))):
  oO υ [.agg K16] (Value.func (.func wP) #[] #[.pointer (some ⟨f0,0,none⟩),.pointer (some ⟨f1,0,none⟩)]) (λW=>Row W f0 [.slice s.a s.len s.cap]/\Row W f1 [fv]/\lD 16 e16 W s xs) ((xs.map k).map λy=>(y,())):=by
 refine⟨by kernel_rfl,λl Q D hC hQ hD hy w h0=> ?_⟩;refine Calls.mono (wJ (a0:= .func (.yield l) #[] #[]) (f0:=⟨f0,0,none⟩) (f1:=⟨f1,0,none⟩) (K:=λw'=>Q (((xs.map k).map λy=>(y,())):List (T16×Unit)).length w'\/D w') ?_) (λe w' h=>h);obtain⟨r0,r1,hs⟩:=hC _ _ h0;simp only[sx,r0.cell];refine gK (λst W=>∃j:Nat,j<=xs.length/\st.1=(j:Int)/\Q j W) (λst _=>(s.len - st.1).toNat) ⟨0,by omega,rfl,h0⟩ ?_;rintro⟨i,⟨⟩⟩ W ⟨j,hj,hi,hq⟩ next u
 simp only at hi;subst hi;obtain⟨r0,r1,hs⟩:=hC _ _ hq;have hlen:=hs.len;by_cases J:(j:Int)<(s.len:Int)
 ·simp only[J,aaA,Δ];have hx:=abe (show j<xs.length by omega);generalize xs[j]=x at hx;have N:=QO (k:=k) hx;refine jE qx (by omega) hs (by omega) (by rw[Η];exact hx) λa hc=> ?_;have I:=hk x;dsimp only at I;generalize k x=y at I N;obtain⟨x0,x1,x2,x3,x4,x5,x6,x7,x8,x9,O,R,U,Y,Z,aa,⟨⟩⟩:=x;have c0:W.cell? (a.add 0)=some (.int .u8 x0):=hc 0 _ rfl;have c1:W.cell? (a.add 1)=some (.int .u8 x1):=hc 1 _ rfl;have c2:W.cell? (a.add 2)=some (.int .u8 x2):=hc 2 _ rfl;have c3:W.cell? (a.add 3)=some (.int .u8 x3):=hc 3 _ rfl;have c4:W.cell? (a.add 4)=some (.int .u8 x4):=hc 4 _ rfl;have c5:W.cell? (a.add 5)=some (.int .u8 x5):=hc 5 _ rfl;have c6:W.cell? (a.add 6)=some (.int .u8 x6):=hc 6 _ rfl;have c7:W.cell? (a.add 7)=some (.int .u8 x7):=hc 7 _ rfl;have c8:W.cell? (a.add 8)=some (.int .u8 x8):=hc 8 _ rfl;have c9:W.cell? (a.add 9)=some (.int .u8 x9):=hc 9 _ rfl;have ab:W.cell? (a.add 10)=some (.int .u8 O):=hc 10 _ rfl;have ac:W.cell? (a.add 11)=some (.int .u8 R):=hc 11 _ rfl;have ae:W.cell? (a.add 12)=some (.int .u8 U):=hc 12 _ rfl;have af:W.cell? (a.add 13)=some (.int .u8 Y):=hc 13 _ rfl;have ag:W.cell? (a.add 14)=some (.int .u8 Z):=hc 14 _ rfl;have ah:W.cell? (a.add 15)=some (.int .u8 aa):=hc 15 _ rfl;simp only[fZ,gq,c0,c1,c2,c3,c4,c5,c6,c7,c8,c9,ab,ac,ae,af,ag,ah];refine Gu rfl rfl λt W1 rt et zt ft=> ?_;have r1:=r1.ext ft;have hq1:=hQ _ _ _ hq ft;simp only[sx,r1.cell,rt.cell];refine I W1 _ trivial λW2 hf2=> ?_;have hq2:=hQ _ _ _ hq1 hf2;obtain⟨y0,y1,y2,y3,y4,y5,y6,y7,y8,y9,ai,aj,ak,am,an,ao,⟨⟩⟩:=y;refine⟨y0,y1,y2,y3,y4,y5,y6,y7,y8,y9,ai,aj,ak,am,an,ao,rfl,?_⟩;refine lI (hy j _ W2 _ N hq2 ?_ ?_)
  ·intro W' hq';refine⟨true,rfl,?_⟩;simp only[ab6,Β];rw[Α];exact u _ _ ⟨j+1,by omega,by simp,hq'⟩ (by simp only;omega)
  ·intro W' hd;exact⟨false,rfl,by simp only[aek,Δ];exact .inr hd⟩
 ·simp only[J,aaV,Β];have:j=xs.length:=by omega
  subst this;exact .inl (by simpa using hq)
theorem Hq {w:θ} {s:fU} {xs:List T16} {fv:Value} {k:T16->T16} (hs:lD 16 e16 w s xs) (hl:s.len<=2^62) (ho:iL fv=true) (hk:UH fv (λx:T16=>Value.agg ⟨e16 x⟩) [.agg K16] (λ_=>True) (λx=>(λx:T16=>Value.agg ⟨e16 x⟩) (k x))):
  lG s fv w λv w'=>Ext w w'/\∃C,oO υ [.agg K16] v C ((xs.map k).map λy=>(y,()))/\∀W,Ext w' W->C W:=by
 apply xq;refine⟨rfl,gu λa w1 ra ea z1 f1=>⟨ho,gu λb w2 rb eb z2 f2=> ?_⟩⟩;exact⟨f1.trans f2,_,Bz hl hk,λW hW=>⟨(ra.ext f2).ext hW,rb.ext hW,((hs.ext f1).ext f2).ext hW⟩⟩
theorem wZ {f0 f1:Nat} {s:fU} {xs:List T7} {fv:Value} {k:T7->T4} (hl:s.len<=2^62) (hk:UH fv (λx:T7=>Value.agg ⟨e7 x⟩) [.agg K4] (λ_=>True) (λx=>(λx:T4=>Value.agg ⟨e4 x⟩) (k x))):
  oO υ [.agg K4] (Value.func (.func uD) #[] #[.pointer (some ⟨f0,0,none⟩),.pointer (some ⟨f1,0,none⟩)]) (λW=>Row W f0 [.slice s.a s.len s.cap]/\Row W f1 [fv]/\lD 7 e7 W s xs) ((xs.map k).map λy=>(y,())):=by
 refine⟨by kernel_rfl,λl Q D hC hQ hD hy w h0=> ?_⟩;refine Calls.mono (tH (a0:= .func (.yield l) #[] #[]) (f0:=⟨f0,0,none⟩) (f1:=⟨f1,0,none⟩) (K:=λw'=>Q (((xs.map k).map λy=>(y,())):List (T4×Unit)).length w'\/D w') ?_) (λe w' h=>h);obtain⟨r0,r1,hs⟩:=hC _ _ h0;simp only[sx,r0.cell];refine gK (λst W=>∃j:Nat,j<=xs.length/\st.1=(j:Int)/\Q j W) (λst _=>(s.len - st.1).toNat) ⟨0,by omega,rfl,h0⟩ ?_;rintro⟨i,⟨⟩⟩ W ⟨j,hj,hi,hq⟩ next u
 simp only at hi;subst hi;obtain⟨r0,r1,hs⟩:=hC _ _ hq;have hlen:=hs.len;by_cases J:(j:Int)<(s.len:Int)
 ·simp only[J,aaA,Δ];have hx:=abe (show j<xs.length by omega);generalize xs[j]=x at hx;have N:=QO (k:=k) hx;refine jE wF (by omega) hs (by omega) (by rw[Η];exact hx) λa hc=> ?_;have I:=hk x;dsimp only at I;generalize k x=y at I N;obtain⟨x0,x1,x2,x3,x4,x5,x6,⟨⟩⟩:=x;have c0:W.cell? (a.add 0)=some (.int .i64 x0):=hc 0 _ rfl;have c1:W.cell? (a.add 1)=some (.int .i64 x1):=hc 1 _ rfl;have c2:W.cell? (a.add 2)=some (.int .i64 x2):=hc 2 _ rfl;have c3:W.cell? (a.add 3)=some (.int .i64 x3):=hc 3 _ rfl;have c4:W.cell? (a.add 4)=some (.int .i64 x4):=hc 4 _ rfl;have c5:W.cell? (a.add 5)=some (.int .i64 x5):=hc 5 _ rfl;have c6:W.cell? (a.add 6)=some (.int .i64 x6):=hc 6 _ rfl;simp only[fZ,gq,c0,c1,c2,c3,c4,c5,c6];refine Gu rfl rfl λt W1 rt et zt ft=> ?_;have r1:=r1.ext ft;have hq1:=hQ _ _ _ hq ft;simp only[sx,r1.cell,rt.cell];refine I W1 _ trivial λW2 hf2=> ?_;have hq2:=hQ _ _ _ hq1 hf2;obtain⟨y0,y1,y2,y3,⟨⟩⟩:=y;refine⟨y0,y1,y2,y3,rfl,?_⟩;refine lI (hy j _ W2 _ N hq2 ?_ ?_)
  ·intro W' hq';refine⟨true,rfl,?_⟩;simp only[ab6,Β];rw[Α];exact u _ _ ⟨j+1,by omega,by simp,hq'⟩ (by simp only;omega)
  ·intro W' hd;exact⟨false,rfl,by simp only[aek,Δ];exact .inr hd⟩
 ·simp only[J,aaV,Β];have:j=xs.length:=by omega
  subst this;exact .inl (by simpa using hq)
theorem Bq {w:θ} {s:fU} {xs:List T7} {fv:Value} {k:T7->T4} (hs:lD 7 e7 w s xs) (hl:s.len<=2^62) (ho:iL fv=true) (hk:UH fv (λx:T7=>Value.agg ⟨e7 x⟩) [.agg K4] (λ_=>True) (λx=>(λx:T4=>Value.agg ⟨e4 x⟩) (k x))):
  kC s fv w λv w'=>Ext w w'/\∃C,oO υ [.agg K4] v C ((xs.map k).map λy=>(y,()))/\∀W,Ext w' W->C W:=by
 apply uN;refine⟨rfl,gu λa w1 ra ea z1 f1=>⟨ho,gu λb w2 rb eb z2 f2=> ?_⟩⟩;exact⟨f1.trans f2,_,wZ hl hk,λW hW=>⟨(ra.ext f2).ext hW,rb.ext hW,((hs.ext f1).ext f2).ext hW⟩⟩
theorem w_ {f0 f1:Nat} {s:fU} {xs:List T7} {fv:Value} {k:T7->T3} (hl:s.len<=2^62) (hk:UH fv (λx:T7=>Value.agg ⟨e7 x⟩) [.agg K3] (λ_=>True) (λx=>(λx:T3=>Value.agg ⟨e3 x⟩) (k x))):
  oO υ [.agg K3] (Value.func (.func uF) #[] #[.pointer (some ⟨f0,0,none⟩),.pointer (some ⟨f1,0,none⟩)]) (λW=>Row W f0 [.slice s.a s.len s.cap]/\Row W f1 [fv]/\lD 7 e7 W s xs) ((xs.map k).map λy=>(y,())):=by
 refine⟨by kernel_rfl,λl Q D hC hQ hD hy w h0=> ?_⟩;refine Calls.mono (tJ (a0:= .func (.yield l) #[] #[]) (f0:=⟨f0,0,none⟩) (f1:=⟨f1,0,none⟩) (K:=λw'=>Q (((xs.map k).map λy=>(y,())):List (T3×Unit)).length w'\/D w') ?_) (λe w' h=>h);obtain⟨r0,r1,hs⟩:=hC _ _ h0;simp only[sx,r0.cell];refine gK (λst W=>∃j:Nat,j<=xs.length/\st.1=(j:Int)/\Q j W) (λst _=>(s.len - st.1).toNat) ⟨0,by omega,rfl,h0⟩ ?_;rintro⟨i,⟨⟩⟩ W ⟨j,hj,hi,hq⟩ next u
 simp only at hi;subst hi;obtain⟨r0,r1,hs⟩:=hC _ _ hq;have hlen:=hs.len;by_cases J:(j:Int)<(s.len:Int)
 ·simp only[J,aaA,Δ];have hx:=abe (show j<xs.length by omega);generalize xs[j]=x at hx;have N:=QO (k:=k) hx;refine jE wF (by omega) hs (by omega) (by rw[Η];exact hx) λa hc=> ?_;have I:=hk x;dsimp only at I;generalize k x=y at I N;obtain⟨x0,x1,x2,x3,x4,x5,x6,⟨⟩⟩:=x;have c0:W.cell? (a.add 0)=some (.int .i64 x0):=hc 0 _ rfl;have c1:W.cell? (a.add 1)=some (.int .i64 x1):=hc 1 _ rfl;have c2:W.cell? (a.add 2)=some (.int .i64 x2):=hc 2 _ rfl;have c3:W.cell? (a.add 3)=some (.int .i64 x3):=hc 3 _ rfl;have c4:W.cell? (a.add 4)=some (.int .i64 x4):=hc 4 _ rfl;have c5:W.cell? (a.add 5)=some (.int .i64 x5):=hc 5 _ rfl;have c6:W.cell? (a.add 6)=some (.int .i64 x6):=hc 6 _ rfl;simp only[fZ,gq,c0,c1,c2,c3,c4,c5,c6];refine Gu rfl rfl λt W1 rt et zt ft=> ?_;have r1:=r1.ext ft;have hq1:=hQ _ _ _ hq ft;simp only[sx,r1.cell,rt.cell];refine I W1 _ trivial λW2 hf2=> ?_;have hq2:=hQ _ _ _ hq1 hf2;obtain⟨y0,y1,y2,⟨⟩⟩:=y;refine⟨y0,y1,y2,rfl,?_⟩;refine lI (hy j _ W2 _ N hq2 ?_ ?_)
  ·intro W' hq';refine⟨true,rfl,?_⟩;simp only[ab6,Β];rw[Α];exact u _ _ ⟨j+1,by omega,by simp,hq'⟩ (by simp only;omega)
  ·intro W' hd;exact⟨false,rfl,by simp only[aek,Δ];exact .inr hd⟩
 ·simp only[J,aaV,Β];have:j=xs.length:=by omega
  subst this;exact .inl (by simpa using hq)
theorem Bv {w:θ} {s:fU} {xs:List T7} {fv:Value} {k:T7->T3} (hs:lD 7 e7 w s xs) (hl:s.len<=2^62) (ho:iL fv=true) (hk:UH fv (λx:T7=>Value.agg ⟨e7 x⟩) [.agg K3] (λ_=>True) (λx=>(λx:T3=>Value.agg ⟨e3 x⟩) (k x))):
  kD s fv w λv w'=>Ext w w'/\∃C,oO υ [.agg K3] v C ((xs.map k).map λy=>(y,()))/\∀W,Ext w' W->C W:=by
 apply uO;refine⟨rfl,gu λa w1 ra ea z1 f1=>⟨ho,gu λb w2 rb eb z2 f2=> ?_⟩⟩;exact⟨f1.trans f2,_,w_ hl hk,λW hW=>⟨(ra.ext f2).ext hW,rb.ext hW,((hs.ext f1).ext f2).ext hW⟩⟩
def xA (p:T16) (n:Nat) (sl:List T16) (pl:List Int) (tl:List T7):Bool:=
 ou p && (!(sl.any λx=> !ou x) && (!(pl.any λx=> !decide (mD x)) && !(tl.any λx=> !decide (Ej n pl x))))
theorem ae7 {w:θ} {p0 p1 p2 p3 p4 p5 p6 p7 p8 p9 p10 p11 p12 p13 p14 p15:Int} {sw po:fU} {n18 n19 n20 n21 n22 n23 n24 n25 n26 n27 n28 n29 n30 n31 n32 n33 n34:Int} {st:fU} {sl:List T16} {pl:List Int} {tl:List T7} (u:lD 16 e16 w sw sl) (h:lD 1 eI w po pl) (I:lD 7 e7 w st tl) (lsw:sw.len<=2^62) (lpo:po.len<=2^62) (lst:st.len<=2^62):
  Ap p0 p1 p2 p3 p4 p5 p6 p7 p8 p9 p10 p11 p12 p13 p14 p15 sw po n18 n19 n20 n21 n22 n23 n24 n25 n26 n27 n28 n29 n30 n31 n32 n33 n34 st w λr w'=>r=xA (p0,p1,p2,p3,p4,p5,p6,p7,p8,p9,p10,p11,p12,p13,p14,p15,()) sw.len sl pl tl/\Ext w w':=by
 apply Qp;refine gu λa w1 ra ea z1 f1=> ?_;simp -zeta only[sx,ra.cell];intro J4;have hJ4:∀b W,Ext w1 W->b= !(ou (p0,p1,p2,p3,p4,p5,p6,p7,p8,p9,p10,p11,p12,p13,p14,p15,()) && !(sl.any λx=> !ou x))->J4 b W:=by
  intro b W hx hb;simp -zeta only[J4]
  cases b
  ·simp -zeta only[Β];intro J7;have hJ7:∀b W',Ext W W'->b= !(!(pl.any λx=> !decide (mD x)) && !(tl.any λx=> !decide (Ej sw.len pl x)))->J7 b W':=by
    intro b2 W' hx' hb2;simp only[J7];have e1:(ou (p0,p1,p2,p3,p4,p5,p6,p7,p8,p9,p10,p11,p12,p13,p14,p15,()) && !(sl.any λx=> !ou x))=true:=by rw[<- Bool.not_not (ou _ && _),<- hb];rfl
    have xx:=(f1.trans hx).trans hx';have hr:xA (p0,p1,p2,p3,p4,p5,p6,p7,p8,p9,p10,p11,p12,p13,p14,p15,()) sw.len sl pl tl= !b2:=by
     unfold xA;rw[<- Bool.and_assoc,e1,hb2,alb,Bool.not_not]
    rw[hr]
    cases b2
    ·exact⟨rfl,xx⟩
    ·exact⟨rfl,xx⟩
   have raW:=ra.ext hx;simp -zeta only[d_,fZ,gI,raW.cell];refine cmS0 (RH ((h.ext f1).ext hx) lpo ZA λ_ _=>trivial) ?_;rintro _ w' ⟨rfl,hf⟩
   cases hp:pl.any λx=> !decide (mD x)
   ·have ra':=raW.ext hf;simp -zeta only[Β,Β,d_,fZ,gI,ra'.cell];refine cmS0 (aae (((I.ext f1).ext hx).ext hf) lst (aev lsw lpo) λW hW=>⟨ra'.ext hW,(((h.ext f1).ext hx).ext hf).ext hW⟩) ?_;rintro _ w'' ⟨rfl,hf'⟩;exact hJ7 _ _ (hf.trans hf') (by rw[hp];simp)
   ·simp -zeta only[Δ];exact hJ7 _ _ hf (by rw[hp];simp)
  ·simp only[Δ];have e1:(ou (p0,p1,p2,p3,p4,p5,p6,p7,p8,p9,p10,p11,p12,p13,p14,p15,()) && !(sl.any λx=> !ou x))=false:=by rw[<- Bool.not_not (ou _ && _),<- hb];rfl
   refine⟨?_,f1.trans hx⟩;unfold xA;rw[<- Bool.and_assoc,e1,Bool.false_and]
 refine cmS0 (P9 _) ?_;rintro _ w' ⟨rfl,hf⟩
 cases hp:ou (p0,p1,p2,p3,p4,p5,p6,p7,p8,p9,p10,p11,p12,p13,p14,p15,())
 ·simp -zeta only[aek,Δ];exact hJ4 _ _ hf (by rw[hp];simp)
 ·have ra':=ra.ext hf;simp -zeta only[ab6,Β,Β,d_,fZ,gI,ra'.cell];refine cmS0 (Zl ((u.ext f1).ext hf) lsw aao λ_ _=>trivial) ?_;rintro _ w'' ⟨rfl,hf'⟩;exact hJ4 _ _ (hf.trans hf') (by rw[hp];simp)
end Go.Proofs.CN
