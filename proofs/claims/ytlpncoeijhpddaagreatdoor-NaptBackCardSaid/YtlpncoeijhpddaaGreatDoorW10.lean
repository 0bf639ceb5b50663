import Derived.Test.YtlpncoeijhpddaaGreatDoorPc1
import Derived.Test.YtlpncoeijhpddaaGreatDoorW5
import Derived.Test.YtlpncoeijhpddaaGreatDoorW3
import Derived.Test.YtlpncoeijhpddaaGreatDoorW2
import Derived.Test.YtlpncoeijhpddaaGreatDoorG27x
open List (map_id')
set_option maxRecDepth 100000
section
namespace Go.Proofs.CN
open Gp
theorem Y1 (x:T16):∀v∈e16 x,iP v=true:=by
 obtain⟨x0,x1,x2,x3,x4,x5,x6,x7,x8,x9,h,u,I,J,N,O,⟨⟩⟩:=x;intro v hv;have:(e16 (x0,x1,x2,x3,x4,x5,x6,x7,x8,x9,h,u,I,J,N,O,())).all iP=true:=rfl
 simp_all
theorem ac6 {w:θ} {s:gG} {xs:List T16} (hs:ny 16 e16 w s xs) (hl:s.len<=2^40):
  kF s w λr w'=>Ext w w'/\jc 16 e16 w' r xs/\∀b,gG.at r b->w.heap.size<=b:=by
 apply xR;have hlen:=hs.len
 cases ha:s.a with
 |none=>
  have hc:=hs.cells;rw[ha] at hc;have h0:=hc;have u:=jh e16 16 qQ xs;rw[h0] at u;have:xs=[]:=by
   cases xs with
   |nil=>rfl
   |cons _ _=>trivial
  subst this;simp only[ana,abt];exact⟨Ext.refl _,jc.nil,λb ⟨o,hb⟩=>by cases hb⟩
 |some a=>
  simp only[amG,aaf];refine gU λt w1 rt et zt f1=> ?_;have hb:jc 16 e16 w1 ⟨some ⟨t,0,none⟩,0,0⟩ ([]:List T16):=jc.row (xs:=[]) rt;refine mO qQ hb (hs.ext f1) rfl (by omega) Y1 (by grind) (by grind) λs' w' h1 h2 h3=> ?_;refine⟨f1.new h2 λb hb ⟨o,he⟩=>by simp_all,h1,λb hb=> ?_⟩;rcases h3 b hb with ⟨o,he⟩|h
  ·simp_all
  ·omega
def MI (x:T7):Int:=x.1
def cnt (tl:List T7) (k:Nat):Nat:=tl.countP λy=>MI y==(k:Int)
def cnts (n:Nat) (tl:List T7):List Int:=(List.range n).map λk=>(cnt tl k:Int)
theorem Ku (n:Nat) (tl:List T7):(cnts n tl).flatMap eI=(List.range n).map λk=>Β (cnt tl k:Int):=by
 unfold cnts;generalize List.range n=l
 induction l with
 |nil=>rfl
 |cons a l ih=>simp_all
theorem afq {α:Type} {n:Nat} {f:α->List Value} {w:θ} {s:gG} {xs:List α} {a:Addr} (hn:∀x,(f x).length=n) (hn0:0<n) (h:ny n f w s xs) (ha:s.a=some a) (hx:0<xs.length):a.block<w.heap.size:=by
 have hc:=h.cells;rw[ha] at hc;have hfl:=jh f n hn xs;have hp:=Nat.mul_pos hx hn0;have h0:=hc.2 0 (by omega);rw[adP (by omega)] at h0;exact cell_lt h0
theorem afL (tl:List T7) (x:T7) (k:Nat):cnt (tl++[x]) k=cnt tl k+if MI x=(k:Int) then 1 else 0:=by
 unfold cnt;simp
theorem afM {n:Nat} {tl:List T7} {x:T7} (h0:0<=MI x):
  ((cnts n tl).flatMap eI).set (MI x).toNat (Β ((cnt tl (MI x).toNat:Int)+1))=(cnts n (tl++[x])).flatMap eI:=by
 rw[Ku,Ku];refine am5 λi=> ?_;rw[akQ];by_cases hi:i<n
 ·rw[aiK,aiK,List.getElem?_range hi];simp only[ahF,aiz,List.length_range];rw[afL]
  grind
 simp_all
def fineP (p:T16) (sl:List T16) (pl:List Int) (tl:List T7) (n:Nat) (q:Int):Prop:=
 (sl++[p]).Nodup/\pl.Nodup/\(tl.map wG).Nodup/\(tl.map xH).Nodup/\∀k:Nat,k<n->(cnt tl k:Int)<=q
theorem afz {n:Nat} {tl:List T7} {q:Int}:((cnts n tl).any λx=>decide (x>q))=true↔¬∀k:Nat,k<n->(cnt tl k:Int)<=q:=by
 rw[anh];constructor
 ·rintro⟨x,hx,hq⟩ h;obtain⟨k,hk,rfl⟩:=alp.1 hx
  grind
 ·intro h;by_cases hk:∃k:Nat,k<n/\q<(cnt tl k:Int)
  ·obtain⟨k,h1,h2⟩:=hk;exact⟨_,alp.2 ⟨k,List.mem_range.2 h1,rfl⟩,by simp_all⟩
  simp_all
theorem abU {w:θ} {p0 p1 p2 p3 p4 p5 p6 p7 p8 p9 p10 p11 p12 p13 p14 p15:Int} {sw po:gG} {n18 n19 n20 n21 n22 n23 n24 n25 n26 n27 n28 n29 n30 n31 n32 n33 n34:Int} {st:gG} {sl:List T16} {pl:List Int} {tl:List T7} (Y:ny 16 e16 w sw sl) (J:ny 1 eI w po pl) (u:ny 7 e7 w st tl) (lsw:sw.len<=2^40) (lpo:po.len<=2^40) (lst:st.len<=2^40)
  (hr:∀x∈tl,0<=MI x/\MI x<(sw.len:Int)):
  yj p0 p1 p2 p3 p4 p5 p6 p7 p8 p9 p10 p11 p12 p13 p14 p15 sw po n18 n19 n20 n21 n22 n23 n24 n25 n26 n27 n28 n29 n30 n31 n32 n33 n34 st w λr w'=>(r=true↔¬fineP (p0,p1,p2,p3,p4,p5,p6,p7,p8,p9,p10,p11,p12,p13,p14,p15,()) sl pl tl sw.len n20)/\Ext w w':=by
 apply OM;have lens:=Y.len;refine gU λa w1 ra ea z1 f1=> ?_;simp -zeta only[sx,ra.drew.cell];intro J4;have hJ4:∀s W,Ext w1 W->jc 16 e16 W s (sl++[(p0,p1,p2,p3,p4,p5,p6,p7,p8,p9,p10,p11,p12,p13,p14,p15,())])->J4 s W:=by
  intro s W hx hb;have ra:=ra.ext hx;have J:=(J.ext f1).ext hx;have u:=(u.ext f1).ext hx;have xx:=f1.trans hx;simp -zeta only[J4];intro J7;have hJ7:∀c W',Ext W W'->(c=true↔¬((sl++[(p0,p1,p2,p3,p4,p5,p6,p7,p8,p9,p10,p11,p12,p13,p14,p15,())]).Nodup/\pl.Nodup/\(tl.map wG).Nodup/\(tl.map xH).Nodup))->J7 c W':=by
   intro c W' hx' hc;simp only[J7]
   cases c
   ·have ra:=ra.ext hx';have u:=u.ext hx';have hf:(sl++[(p0,p1,p2,p3,p4,p5,p6,p7,p8,p9,p10,p11,p12,p13,p14,p15,())]).Nodup/\pl.Nodup/\(tl.map wG).Nodup/\(tl.map xH).Nodup:=by
     simp_all
    simp only[aaf,aaf,d_,gJ,h_,ra.cell];refine Ik (by omega) (by omega) (by omega) (by omega) λm w2 rm em z2 f2=> ?_;have f2:Ext W' w2:=f2;have la1:=ra.lt;have Z:=u;have ra:=ra.ext f2;have u:=u.ext f2;have hlt:=u.len;simp only[sx,abu,ra.cell];have rm0:Row w2 m ((cnts sw.len (tl.take 0)).flatMap eI):=by
     have e:(cnts sw.len (tl.take 0)).flatMap eI=iw [Β 0] ((sw.len:Int)).toNat:=by
      rw[Ku,abu];generalize sw.len=n;rw[List.take_zero];have:∀l:List Nat,(l.map λk=>Β ((cnt [] k:Nat):Int))=iw [Β 0] l.length:=by
       intro l
       induction l with
       |nil=>rfl
       |cons a l ih=>simp only[akh,ajg,iw,ih];rfl
      simp_all
     rw[e];exact rm
    refine g_ (λst' V=>∃j:Nat,j<=tl.length/\st'.1=(j:Int)/\Row V m ((cnts sw.len (tl.take j)).flatMap eI)/\ig w2 V (·=m)) (λst' _=>(tl.length - st'.1).toNat) ⟨0,by omega,rfl,rm0,ig.refl _ _⟩ ?_;rintro⟨i,⟨⟩⟩ V ⟨j,hj,hi,rmV,U⟩ next N
    simp only at hi;subst hi;have lra:=hx'.size;have raV:=ra.fr U (by omega);have aa:=u.fr U (λa' ha' hl'=>by
     have:=afq xw (by omega) Z ha' hl';omega)
    by_cases O:(j:Int)<(st.len:Int)
    ·simp only[O,acI,abt];have hx:=adP (show j<tl.length by omega);have R:=akU (show j<tl.length by omega);generalize tl[j]=x at hx R;have ae:=Gp.Cfg.take_snoc hx;have ab:=hr x R;have I:=afM (n:=sw.len) (tl:=tl.take j) ab.1;rw[<- ae] at I;have ac:cnt (tl.take j) (MI x).toNat<=tl.length:=akK (List.countP_le_length) (by simp;omega);refine SlN_ix xw (by omega) aa (by omega) (by rw[abu];exact hx) λa' hc=> ?_;obtain⟨x0,x1,x2,x3,x4,x5,x6,⟨⟩⟩:=x;have c0:V.cell? (a'.add 0)=some (Β x0):=hc 0 _ rfl;have c1:V.cell? (a'.add 1)=some (Β x1):=hc 1 _ rfl;have c2:V.cell? (a'.add 2)=some (Β x2):=hc 2 _ rfl;have c3:V.cell? (a'.add 3)=some (Β x3):=hc 3 _ rfl;have c4:V.cell? (a'.add 4)=some (Β x4):=hc 4 _ rfl;have c5:V.cell? (a'.add 5)=some (Β x5):=hc 5 _ rfl;have c6:V.cell? (a'.add 6)=some (Β x6):=hc 6 _ rfl;simp only[gJ,gK,c0,c1,c2,c3,c4,c5,c6];refine D5 rfl rfl λt w3 rt et zt f3=> ?_;have rm3:=rmV.ext f3;have hq0:0<=x0/\x0<(sw.len:Int):=ab;have hg:((cnts sw.len (tl.take j)).flatMap eI)[x0.toNat]? =some (Β (cnt (tl.take j) x0.toNat:Int)):=by
      rw[Ku,aiK,List.getElem?_range (by omega)];rfl
     have ac:cnt (tl.take j) x0.toNat<=tl.length:=ac;have I:((cnts sw.len (tl.take j)).flatMap eI).set x0.toNat (Β ((cnt (tl.take j) x0.toNat:Int)+1))=(cnts sw.len (tl.take (j+1))).flatMap eI:=I;simp only[afe,gJ,gK,rt.cell,aiC,rm3.cell,hg];refine⟨hq0.1,hq0.2,hq0.1,hq0.2,?_⟩;rw[Α,Α];refine iC rm3 rfl (by grind) λw4 rm4 f4 z4=> ?_;rw[I] at rm4;exact N _ _ ⟨j+1,by omega,by simp,rm4,(U.ext f3).trans (f4 (·=m) rfl) λ_ _ e=>e⟩ (by omega)
    ·simp only[O,acR,aaf];rw[ali (by omega)] at rmV;have af:ny 1 eI V ⟨some ⟨m,0,none⟩,sw.len,sw.len⟩ (cnts sw.len tl):=by
      have:=(jc.row rmV).sl jJ (by omega);simpa [cnts] using this
     refine cmS0 (Ud af (by grind) ahR λW hW=>raV.ext hW) ?_;rintro r w5 ⟨rfl,f5⟩;have e5:=f2.new U λb hb e=>by omega
     refine⟨?_,((xx.trans hx').trans e5).trans f5⟩;rw[afz];exact⟨λh hh=>h hh.2.2.2.2,λh hh=>h ⟨hf.1,hf.2.1,hf.2.2.1,hf.2.2.2,hh⟩⟩
   ·simp only[abt];exact⟨⟨λ_ h=>hc.1 rfl ⟨h.1,h.2.1,h.2.2.1,h.2.2.2.1⟩,λ_=>by trivial⟩,xx.trans hx'⟩
  refine cmS4 (IW (hb.sl qQ (by omega)) ?_ rfl Ϲ) ?_
  ·rw[hb.len];grind
  rintro v w2 ⟨f2,C,hi,hC⟩;rw[map_id'] at hi;refine cmS0 (aiU hi hC) ?_;rintro r w3 ⟨h1,f3⟩
  cases r
  ·have f3:=f2.trans f3;have n1:(sl++[(p0,p1,p2,p3,p4,p5,p6,p7,p8,p9,p10,p11,p12,p13,p14,p15,())]).Nodup:=by
    simp_all
   have ra:=ra.ext f3;have J:=J.ext f3;have u:=u.ext f3;simp -zeta only[aaf,aaf,d_,gJ,h_,ra.cell];refine cmS4 (Y3 J (by grind) rfl ab4) ?_;rintro v w4 ⟨f4,C,hi,hC⟩;rw[map_id'] at hi;refine cmS0 (akm hi hC) ?_;rintro r w5 ⟨h2,f5⟩;have f5:=f4.trans f5
   cases r
   ·have n2:pl.Nodup:=by
     simp_all
    have ra:=ra.ext f5;have u:=u.ext f5;simp -zeta only[aaf,aaf,d_,gJ,h_,ra.cell];refine cmS4 (CU u (by grind) rfl agb) ?_;rintro v w6 ⟨f6,C,hi,hC⟩;refine cmS0 (ako hi hC) ?_;rintro r w7 ⟨h3,f7⟩;have f7:=f6.trans f7
    cases r
    ·have n3:(tl.map wG).Nodup:=by
      simp_all
     have ra:=ra.ext f7;have u:=u.ext f7;simp -zeta only[aaf,aaf,d_,gJ,h_,ra.cell];refine cmS4 (CV u (by grind) rfl agc) ?_;rintro v w8 ⟨f8,C,hi,hC⟩;refine cmS0 (akn hi hC) ?_;rintro r w9 ⟨h4,f9⟩;refine hJ7 _ _ ((((f3.trans f5).trans f7).trans f8).trans f9) (h4.trans ⟨λh hh=>h hh.2.2.2,λh hh=>h ⟨n1,n2,n3,hh⟩⟩)
    ·simp -zeta only[abt];exact hJ7 _ _ ((f3.trans f5).trans f7) ⟨λ_ h=>h3.1 rfl h.2.2.1,λ_=>rfl⟩
   ·simp -zeta only[abt];exact hJ7 _ _ (f3.trans f5) ⟨λ_ h=>h2.1 rfl h.2.1,λ_=>rfl⟩
  ·simp -zeta only[abt];exact hJ7 _ _ (f2.trans f3) ⟨λ_ h=>h1.1 rfl h.1,λ_=>rfl⟩
 have hd:=Ext.drew w1;refine⟨?_,?_⟩
 ·refine cmS2 (ac6 ((Y.ext f1).ext hd) lsw) ?_;rintro r w2 ⟨f2,hb,hb2⟩;have e2:=hd.trans f2;have ra2:=ra.ext e2;simp only[sx,iL,iT,ra2.cell,afp];refine gU λt w3 rt et zt f3=> ?_;have ra3:=ra2.ext f3;simp only[sx,ra3.cell,afp];have ht:=(jc.row (xs:=[((p0,p1,p2,p3,p4,p5,p6,p7,p8,p9,p10,p11,p12,p13,p14,p15,()):T16)]) rt).sl qQ (by omega);refine mO qQ (hb.ext f3) ht rfl (by omega) Y1 (by grind) (by grind) λs' w' h1 h2 h3=> ?_;have hz:=hd.size;exact hJ4 _ _ (((e2.trans f3).fr h2).new λb hb' hs=>by grind) h1
 ·refine gU λt w2 rt et zt f2=> ?_;have e2:=hd.trans f2;have ra2:=ra.ext e2;simp only[sx,iL,iT,ra2.cell,afp];refine cmS2 (ac6 ((Y.ext f1).ext e2) lsw) ?_;rintro r w3 ⟨f3,hb,hb2⟩;have e3:=e2.trans f3;have ra3:=ra2.ext f3;simp only[sx,ra3.cell,afp];have ht:=((jc.row (xs:=[((p0,p1,p2,p3,p4,p5,p6,p7,p8,p9,p10,p11,p12,p13,p14,p15,()):T16)]) rt).sl qQ (by omega)).ext f3;refine mO qQ hb ht rfl (by omega) Y1 (by grind) (by grind) λs' w' h1 h2 h3=> ?_;have hz:=e2.size;exact hJ4 _ _ ((e3.fr h2).new λb hb' hs=>by grind) h1
end Go.Proofs.CN
namespace Go.Proofs.CN
open Gp
def bnds (ls lp lt n18 n19 n20 n21 n22 n23 n24 n25 n26 n27 n29 n30 n31 n32 n33 n34:Int):List T3:=
 [(ls,1,64,()),(lp,1,16,()),(lt,0,if n21<64 then n21 else 64,()),(n18,1,65535,()),(n19,n18,65535,()),(n20,1,4096,()),(n21,1,4096,()),(n22,1,4096,()),(n23,0,4096,()),
  (n24,0,67108864,()),(n25,1280,65535,()),(n26,1280,65535,()),(n27,1,255,()),(n29,0,2,()),(n30,120,1048576,()),(n31,7440,1048576,()),(n32,240,1048576,()),(n33,60,1048576,()),(n34,1,1048576,())]
theorem afY (x:T3):(e3 x).length=3:=rfl
def okB (b:T3):Prop:=b.2.1<=b.1/\b.1<=b.2.2.1
instance (b:T3):Decidable (okB b):=inferInstanceAs (Decidable (_/\_))
theorem ad6 {p0 p1 p2 p3 p4 p5 p6 p7 p8 p9 p10 p11 p12 p13 p14 p15:Int} {sw po:gG} {n18 n19 n20 n21 n22 n23 n24 n25 n26 n27 n28 n29 n30 n31 n32 n33 n34:Int} {st:gG} (w:θ):z_ p0 p1 p2 p3 p4 p5 p6 p7 p8 p9 p10 p11 p12 p13 p14 p15 sw po n18 n19 n20 n21 n22 n23 n24 n25 n26 n27 n28 n29 n30 n31 n32 n33 n34 st w λr w'=>Ext w w'/\r.len=19/\ny 3 e3 w' r (bnds sw.len po.len st.len n18 n19 n20 n21 n22 n23 n24 n25 n26 n27 n29 n30 n31 n32 n33 n34):=by
 apply Qo;refine gU λa w1 ra ea z1 f1=> ?_;simp only[sx,ra.cell];refine gU λb w2 rb eb z2 f2=> ?_;have hb:=jc.row (n:=3) (f:=e3) (xs:=bnds sw.len po.len st.len n18 n19 n20 n21 n22 n23 n24 n25 n26 n27 n29 n30 n31 n32 n33 n34) rb;exact⟨f1.trans f2,by trivial,hb.sl afY (by omega)⟩
structure OkP (p:T16) (ls lp lt n18 n19 n20 n21 n22 n23 n24 n25 n26 n27 n28 n29 n30 n31 n32 n33 n34:Int) (n:Nat) (sl:List T16) (pl:List Int) (tl:List T7):Prop where
 nums:∀b∈bnds ls lp lt n18 n19 n20 n21 n22 n23 n24 n25 n26 n27 n29 n30 n31 n32 n33 n34,okB b
 mss:aap n28
 parts:yM p n sl pl tl=true
theorem adH {n:Nat} {pl:List Int} {x:T7} (h:Fq n pl x):0<=MI x/\MI x<(n:Int):=by
 obtain⟨q0,q1,q2,q3,q4,q5,q6,⟨⟩⟩:=x;have:=h.2.2.2;show 0<=q0/\q0<(n:Int);omega
theorem acG {p:T16} {n:Nat} {sl:List T16} {pl:List Int} {tl:List T7} (h:yM p n sl pl tl=true):∀x∈tl,Fq n pl x:=by
 intro x hx;unfold yM at h;simp only[alg,al_,List.any_eq_false] at h;have:=h.2.2.2 x hx;simpa using this
theorem Ol {w:θ} {p0 p1 p2 p3 p4 p5 p6 p7 p8 p9 p10 p11 p12 p13 p14 p15:Int} {sw po:gG} {n18 n19 n20 n21 n22 n23 n24 n25 n26 n27 n28 n29 n30 n31 n32 n33 n34:Int} {st:gG} {sl:List T16} {pl:List Int} {tl:List T7} (aa:ny 16 e16 w sw sl) (ab:ny 1 eI w po pl) (ac:ny 7 e7 w st tl) (lsw:sw.len<=2^40) (lpo:po.len<=2^40) (lst:st.len<=2^40):
  Bq p0 p1 p2 p3 p4 p5 p6 p7 p8 p9 p10 p11 p12 p13 p14 p15 sw po n18 n19 n20 n21 n22 n23 n24 n25 n26 n27 n28 n29 n30 n31 n32 n33 n34 st w λr w'=>((¬OkP (p0,p1,p2,p3,p4,p5,p6,p7,p8,p9,p10,p11,p12,p13,p14,p15,()) sw.len po.len st.len n18 n19 n20 n21 n22 n23 n24 n25 n26 n27 n28 n29 n30 n31 n32 n33 n34 sw.len sl pl tl/\r=1)\/
   (OkP (p0,p1,p2,p3,p4,p5,p6,p7,p8,p9,p10,p11,p12,p13,p14,p15,()) sw.len po.len st.len n18 n19 n20 n21 n22 n23 n24 n25 n26 n27 n28 n29 n30 n31 n32 n33 n34 sw.len sl pl tl/\((¬fineP (p0,p1,p2,p3,p4,p5,p6,p7,p8,p9,p10,p11,p12,p13,p14,p15,()) sl pl tl sw.len n20/\r=9)\/(fineP (p0,p1,p2,p3,p4,p5,p6,p7,p8,p9,p10,p11,p12,p13,p14,p15,()) sl pl tl sw.len n20/\r=0))))/\Ext w w':=by
 apply RP;refine gU λa w1 ra ea z1 f1=> ?_;simp -zeta only[sx,ra.cell];refine cmS2 (ad6 w1) ?_;rintro bs w2 ⟨f2,hl19,O⟩;generalize af:bnds sw.len po.len st.len n18 n19 n20 n21 n22 n23 n24 n25 n26 n27 n29 n30 n31 n32 n33 n34=bl at O;have hlb:=O.len;refine g_ (λst' W=>∃j:Nat,j<=19/\st'.1=(j:Int)/\Ext w2 W/\∀b∈bl.take j,okB b) (λst' _=>(19 - st'.1).toNat) ⟨0,by omega,rfl,Ext.refl _,by simp⟩ ?_;rintro⟨i,⟨⟩⟩ W ⟨j,hj,hi,hx,u⟩ next J
 simp only at hi;subst hi;have R:=f1.trans f2;have raW:=(ra.ext f2).ext hx;by_cases ae:(j:Int)<(bs.len:Int)
 ·simp -zeta only[ae,acI,abt];have U:=adP (show j<bl.length by omega);have Y:=akU (show j<bl.length by omega);generalize bl[j]=x at U Y;have ag:=Gp.Cfg.take_snoc U;refine SlN_ix afY (by omega) (O.ext hx) (by omega) (by rw[abu];exact U) λa' hc=> ?_;obtain⟨x0,x1,x2,⟨⟩⟩:=x;have c0:W.cell? (a'.add 0)=some (Β x0):=hc 0 _ rfl;have c1:W.cell? (a'.add 1)=some (Β x1):=hc 1 _ rfl;have c2:W.cell? (a'.add 2)=some (Β x2):=hc 2 _ rfl;simp -zeta only[gJ,gK,c0,c1,c2];refine D5 rfl rfl λt w3 rt et zt f3=> ?_;simp -zeta only[sx,rt.cell];refine cmS0 (zK _ _ _ _) ?_;rintro _ w4 ⟨rfl,f4⟩;by_cases I:x1<=x0/\x0<=x2
  ·simp -zeta only[I,alQ,acI,adt,aaf];rw[Α];refine J _ _ ⟨j+1,by omega,by simp,(hx.trans f3).trans f4,?_⟩ (by omega);rw[ag];intro b hb;rcases alj.1 hb with hb|hb
   ·exact u b hb
   ·rw[alk.1 hb];exact I
  ·simp -zeta only[I,acR,afk,abt];exact⟨.inl ⟨λh=>I (h.nums (x0,x1,x2,()) (by simp_all)),by trivial⟩,((R.trans hx).trans f3).trans f4⟩
 ·simp -zeta only[ae,acR,aaf];rw[ali (by omega)] at u;intro Z;have hJ:∀c W',Ext W W'->(c=false↔aap n28/\yM (p0,p1,p2,p3,p4,p5,p6,p7,p8,p9,p10,p11,p12,p13,p14,p15,()) sw.len sl pl tl=true)->Z c W':=by
   intro c W' hx' hc;have raW:=raW.ext hx';have xx:=(R.trans hx).trans hx';simp only[Z]
   cases c
   ·obtain⟨h1,h2⟩:=hc.1 rfl;have I:OkP (p0,p1,p2,p3,p4,p5,p6,p7,p8,p9,p10,p11,p12,p13,p14,p15,()) sw.len po.len st.len n18 n19 n20 n21 n22 n23 n24 n25 n26 n27 n28 n29 n30 n31 n32 n33 n34 sw.len sl pl tl:=⟨by rw[af];exact u,h1,h2⟩;simp only[aaf,aaf,d_,gJ,h_,gK,raW.cell];refine cmS0 (abU (aa.ext xx) (ab.ext xx) (ac.ext xx) lsw lpo lst λx hx=>adH (acG h2 x hx)) ?_;rintro r w5 ⟨h5,f5⟩
    cases r
    ·have N:fineP (p0,p1,p2,p3,p4,p5,p6,p7,p8,p9,p10,p11,p12,p13,p14,p15,()) sl pl tl sw.len n20:=by
      by_cases h:fineP (p0,p1,p2,p3,p4,p5,p6,p7,p8,p9,p10,p11,p12,p13,p14,p15,()) sl pl tl sw.len n20
      ·exact h
      ·exact absurd (h5.2 h) (by simp)
     exact⟨.inr ⟨I,.inr ⟨N,by trivial⟩⟩,xx.trans f5⟩
    ·exact⟨.inr ⟨I,.inl ⟨h5.1 rfl,by trivial⟩⟩,xx.trans f5⟩
   ·simp only[abt];refine⟨.inl ⟨λh=> ?_,by trivial⟩,xx⟩;have:=hc.2 ⟨h.mss,h.parts⟩
    cases this
  clear_value Z;simp -zeta only[d_,gJ,gK,raW.cell];refine cmS0 (aha _ _) ?_;rintro _ w3 ⟨rfl,f3⟩;by_cases hm:aap n28
  ·have raW:=raW.ext f3;rw[aff hm,adt,aaf];simp -zeta only[d_,gJ,h_,gK,raW.cell];have xx:=(R.trans hx).trans f3;refine cmS0 (agU (aa.ext xx) (ab.ext xx) (ac.ext xx) (akK lsw (by omega)) (akK lpo (by omega)) (akK lst (by omega))) ?_;rintro _ w4 ⟨rfl,f4⟩;exact hJ _ _ (f3.trans f4) (by cases yM (p0,p1,p2,p3,p4,p5,p6,p7,p8,p9,p10,p11,p12,p13,p14,p15,()) sw.len sl pl tl<;>simp[hm])
  ·rw[adX hm,afk,abt];exact hJ _ _ f3 (by simp[hm])
end Go.Proofs.CN
namespace Go.Proofs.CN
open Gp
theorem lK {n lo hi:Int} {w:θ} {K:Bool->b_} (h:lo<=n/\n<=hi->K true w) (h':¬(lo<=n/\n<=hi)->K false w):iY n lo hi w K:=by
 refine cmS0 (aag n lo hi w) ?_;rintro r w' ⟨hr,hw⟩;subst hw;by_cases hb:lo<=n/\n<=hi
 ·rw[aff hb] at hr;subst hr;exact h hb
 ·rw[adX hb] at hr;subst hr;exact h' hb
def JL (n20 n21 n22 n23 n24:Int):Prop:=(1<=n20/\n20<=4096)/\(1<=n21/\n21<=4096)/\(1<=n22/\n22<=4096)/\(0<=n23/\n23<=4096)/\(0<=n24/\n24<=67108864)
def MJ (n25 n26 n27 n28 n29:Int):Prop:=(1280<=n25/\n25<=65535)/\(1280<=n26/\n26<=65535)/\(1<=n27/\n27<=255)/\(n28=0\/(536<=n28/\n28<=65535))/\(0<=n29/\n29<=2)
def JU (n30 n31 n32 n33 n34:Int):Prop:=(120<=n30/\n30<=1048576)/\(7440<=n31/\n31<=1048576)/\(240<=n32/\n32<=1048576)/\(60<=n33/\n33<=1048576)/\(1<=n34/\n34<=1048576)
def QA (n18 n19:Int):Prop:=(1<=n18/\n18<=65535)/\(n18<=n19/\n19<=65535)
structure agM (n18 n19 n20 n21 n22 n23 n24 n25 n26 n27 n28 n29 n30 n31 n32 n33 n34:Int):Prop where
 rooms:JL n20 n21 n22 n23 n24
 ways:MJ n25 n26 n27 n28 n29
 waits:JU n30 n31 n32 n33 n34
 ports:QA n18 n19
theorem acw {p0 p1 p2 p3 p4 p5 p6 p7 p8 p9 p10 p11 p12 p13 p14 p15:Int} {sw po:gG} {n18 n19 n20 n21 n22 n23 n24 n25 n26 n27 n28 n29 n30 n31 n32 n33 n34:Int} {st:gG} (w:θ):Ae p0 p1 p2 p3 p4 p5 p6 p7 p8 p9 p10 p11 p12 p13 p14 p15 sw po n18 n19 n20 n21 n22 n23 n24 n25 n26 n27 n28 n29 n30 n31 n32 n33 n34 st w λr w'=>(r=true↔agM n18 n19 n20 n21 n22 n23 n24 n25 n26 n27 n28 n29 n30 n31 n32 n33 n34)/\Ext w w':=by
 apply Qv;refine gU λa w1 ra ea z1 f1=> ?_;simp -zeta only[sx,ra.cell];intro J4;have hJ4:∀j5,(j5=true↔JL n20 n21 n22 n23 n24)->J4 j5 w1:=by
  intro j5 h5;simp -zeta only[J4];simp -zeta only[d_,gJ,gK,ra.cell];intro J7;have hJ7:∀j8,(j8=true↔MJ n25 n26 n27 n28 n29)->J7 j8 w1:=by
   intro j8 h8;simp -zeta only[J7];simp -zeta only[d_,gJ,gK,ra.cell];intro N;have hJ10:∀I,(I=true↔JU n30 n31 n32 n33 n34)->N I w1:=by
    intro I O;simp -zeta only[N];intro J;have hJ13:∀u,(u=true↔(j5=true/\j8=true/\I=true/\QA n18 n19))->J u w1:=by
     intro u R;simp -zeta only[J];refine⟨R.trans ?_,f1⟩;rw[h5,h8,O];exact⟨λh=>⟨h.1,h.2.1,h.2.2.1,h.2.2.2⟩,λh=>⟨h.rooms,h.ways,h.waits,h.ports⟩⟩
    clear_value J
    cases j5
    ·rw[aaf];exact hJ13 _ ⟨λh=>(by cases h),λh=>(by cases h.1)⟩
    cases j8
    ·rw[abt,aaf];exact hJ13 _ ⟨λh=>(by cases h),λh=>(by cases h.2.1)⟩
    cases I
    ·rw[abt,abt,aaf];exact hJ13 _ ⟨λh=>(by cases h),λh=>(by cases h.2.2.1)⟩
    rw[abt,abt,abt];have hJ:∀u,(u=true↔QA n18 n19)->J u w1:=λj h=>hJ13 j ⟨λe=>⟨rfl,rfl,rfl,h.1 e⟩,λe=>h.2 e.2.2.2⟩;clear hJ13;simp -zeta only[d_,gJ,gK,ra.cell];refine lK (λh0=> ?_) (λhn=> ?_);rotate_left
    ·rw[aaf];exact hJ _ ⟨λh=>(by cases h),λh=>absurd (by unfold QA at h;omega) hn⟩
    rw[abt]
    try simp -zeta only[d_,gJ,gK,ra.cell]
    refine lK (λh1=> ?_) (λhn=> ?_);rotate_left;exact hJ _ ⟨λh=>(by cases h),λh=>absurd (by unfold QA at h;omega) hn⟩;exact hJ _ ⟨λ_=>(by unfold QA;omega),λ_=>rfl⟩
   clear_value N;refine lK (λh0=> ?_) (λhn=> ?_);rotate_left
   ·rw[aaf];exact hJ10 _ ⟨λh=>(by cases h),λh=>absurd (by unfold JU at h;omega) hn⟩
   rw[abt]
   try simp -zeta only[d_,gJ,gK,ra.cell]
   refine lK (λh1=> ?_) (λhn=> ?_);rotate_left
   ·rw[aaf];exact hJ10 _ ⟨λh=>(by cases h),λh=>absurd (by unfold JU at h;omega) hn⟩
   rw[abt]
   try simp -zeta only[d_,gJ,gK,ra.cell]
   refine lK (λh2=> ?_) (λhn=> ?_);rotate_left
   ·rw[aaf];exact hJ10 _ ⟨λh=>(by cases h),λh=>absurd (by unfold JU at h;omega) hn⟩
   rw[abt]
   try simp -zeta only[d_,gJ,gK,ra.cell]
   refine lK (λh3=> ?_) (λhn=> ?_);rotate_left
   ·rw[aaf];exact hJ10 _ ⟨λh=>(by cases h),λh=>absurd (by unfold JU at h;omega) hn⟩
   rw[abt]
   try simp -zeta only[d_,gJ,gK,ra.cell]
   refine lK (λh4=> ?_) (λhn=> ?_);rotate_left;exact hJ10 _ ⟨λh=>(by cases h),λh=>absurd (by unfold JU at h;omega) hn⟩;exact hJ10 _ ⟨λ_=>(by unfold JU;omega),λ_=>rfl⟩
  clear_value J7;refine lK (λh0=> ?_) (λhn=> ?_);rotate_left
  ·rw[aaf];exact hJ7 _ ⟨λh=>(by cases h),λh=>absurd (by unfold MJ at h;omega) hn⟩
  rw[abt]
  try simp -zeta only[d_,gJ,gK,ra.cell]
  refine lK (λh1=> ?_) (λhn=> ?_);rotate_left
  ·rw[aaf];exact hJ7 _ ⟨λh=>(by cases h),λh=>absurd (by unfold MJ at h;omega) hn⟩
  rw[abt]
  try simp -zeta only[d_,gJ,gK,ra.cell]
  refine lK (λh2=> ?_) (λhn=> ?_);rotate_left
  ·rw[aaf];exact hJ7 _ ⟨λh=>(by cases h),λh=>absurd (by unfold MJ at h;omega) hn⟩
  rw[abt]
  try simp -zeta only[d_,gJ,gK,ra.cell]
  by_cases hm:n28=0
  ·rw[show (n28==0)=true by simp_all,abt]
   try simp -zeta only[sx,ra.cell]
   refine lK (λh3=> ?_) (λhn=> ?_);rotate_left;exact hJ7 _ ⟨λh=>(by cases h),λh=>absurd (by unfold MJ at h;omega) hn⟩;exact hJ7 _ ⟨λ_=>(by unfold MJ;omega),λ_=>rfl⟩
  rw[show (n28==0)=false by simp_all,aaf]
  try simp -zeta only[sx,ra.cell]
  refine lK (λh4=> ?_) (λhn=> ?_);rotate_left
  ·rw[aaf];exact hJ7 _ ⟨λh=>(by cases h),λh=>absurd (by unfold MJ at h;omega) hn⟩
  rw[abt]
  try simp -zeta only[d_,gJ,gK,ra.cell]
  refine lK (λh5=> ?_) (λhn=> ?_);rotate_left;exact hJ7 _ ⟨λh=>(by cases h),λh=>absurd (by unfold MJ at h;omega) hn⟩;exact hJ7 _ ⟨λ_=>(by unfold MJ;omega),λ_=>rfl⟩
 clear_value J4;refine lK (λh0=> ?_) (λhn=> ?_);rotate_left
 ·rw[aaf];exact hJ4 _ ⟨λh=>(by cases h),λh=>absurd (by unfold JL at h;omega) hn⟩
 rw[abt]
 try simp -zeta only[d_,gJ,gK,ra.cell]
 refine lK (λh1=> ?_) (λhn=> ?_);rotate_left
 ·rw[aaf];exact hJ4 _ ⟨λh=>(by cases h),λh=>absurd (by unfold JL at h;omega) hn⟩
 rw[abt]
 try simp -zeta only[d_,gJ,gK,ra.cell]
 refine lK (λh2=> ?_) (λhn=> ?_);rotate_left
 ·rw[aaf];exact hJ4 _ ⟨λh=>(by cases h),λh=>absurd (by unfold JL at h;omega) hn⟩
 rw[abt]
 try simp -zeta only[d_,gJ,gK,ra.cell]
 refine lK (λh3=> ?_) (λhn=> ?_);rotate_left
 ·rw[aaf];exact hJ4 _ ⟨λh=>(by cases h),λh=>absurd (by unfold JL at h;omega) hn⟩
 rw[abt]
 try simp -zeta only[d_,gJ,gK,ra.cell]
 refine lK (λh4=> ?_) (λhn=> ?_);rotate_left;exact hJ4 _ ⟨λh=>(by cases h),λh=>absurd (by unfold JL at h;omega) hn⟩;exact hJ4 _ ⟨λ_=>(by unfold JL;omega),λ_=>rfl⟩
theorem acL {w:θ} {p0 p1 p2 p3 p4 p5 p6 p7 p8 p9 p10 p11 p12 p13 p14 p15:Int} {sw po:gG} {n18 n19 n20 n21 n22 n23 n24 n25 n26 n27 n28 n29 n30 n31 n32 n33 n34:Int} {st:gG} (x:Int) {pl:List Int} (u:ny 1 eI w po pl) (hl:po.len<=2^62):
  Gj p0 p1 p2 p3 p4 p5 p6 p7 p8 p9 p10 p11 p12 p13 p14 p15 sw po n18 n19 n20 n21 n22 n23 n24 n25 n26 n27 n28 n29 n30 n31 n32 n33 n34 st x w λr w'=>r=decide (x∈pl)/\Ext w w':=by
 apply XE;refine gU λa w1 ra ea z1 f1=> ?_;have u:=u.ext f1;have hlen:=u.len;refine g_ (λst' W=>∃j:Nat,j<=pl.length/\st'.1=(j:Int)/\W=w1/\x∉pl.take j) (λst' _=>(po.len - st'.1).toNat) ⟨0,by omega,rfl,rfl,by simp⟩ ?_;rintro⟨i,⟨⟩⟩ W ⟨j,hj,hi,hw,hm⟩ next h
 simp only at hi;subst hi;subst hw;simp only[sx,ra.cell];by_cases I:(j:Int)<(po.len:Int)
 ·simp only[I,acI,abt];have hx:=adP (show j<pl.length by omega);refine SlN_ix jJ (by omega) u (by omega) (by rw[abu];exact hx) λa hc=> ?_;have c0:=hc 0 _ rfl;rw[show a.add 0=a from rfl] at c0;simp only[gJ,gK,c0];by_cases he:pl[j]=x
  ·rw[show (pl[j]==x)=true by simp_all,abt]
   grind
  ·rw[show (pl[j]==x)=false by simp_all,aaf];rw[Α];refine h _ _ ⟨j+1,by omega,by simp,rfl,?_⟩ (by omega);rw[Gp.Cfg.take_snoc hx,alj,alk]
   grind
 ·simp only[I,acR,aaf]
  grind
theorem aeZ {w:θ} {p0 p1 p2 p3 p4 p5 p6 p7 p8 p9 p10 p11 p12 p13 p14 p15:Int} {sw po:gG} {n18 n19 n20 n21 n22 n23 n24 n25 n26 n27 n28 n29 n30 n31 n32 n33 n34:Int} {st:gG} {q0 q1 q2 q3 q4 q5 q6:Int} {pl:List Int} (hsl:sw.len<=2^62) (R:ny 1 eI w po pl) (U:po.len<=2^62):
  BN p0 p1 p2 p3 p4 p5 p6 p7 p8 p9 p10 p11 p12 p13 p14 p15 sw po n18 n19 n20 n21 n22 n23 n24 n25 n26 n27 n28 n29 n30 n31 n32 n33 n34 st q0 q1 q2 q3 q4 q5 q6 w λr w'=>(r=true↔Fq sw.len pl (q0,q1,q2,q3,q4,q5,q6,()))/\Ext w w':=by
 apply Sj;refine gU λa w1 ra ea z1 f1=>gU λb w2 rb eb z2 f2=> ?_;have ra:=ra.ext f2;have x2:=f1.trans f2;clear f1 f2;simp -zeta only[sx,rb.cell];intro J7;have hJ7:∀j8,(j8=true↔(q1=1\/q1=6\/q1=17))->J7 j8:=by
  intro j8 h8;simp -zeta only[J7]
  try simp -zeta only[sx,rb.cell]
  intro J9;have hJ9:∀u,(u=true↔((0<=q3/\q3<=65535)/\(0<=q6/\q6<=65535)))->J9 u w2:=by
   intro u Y;simp -zeta only[J9];intro J;have hJ12:∀N W,Ext w2 W->(N=true↔(j8=true/\u=true/\q4=q1/\(0<=q0/\q0<=(sw.len:Int) - 1)/\nC q2/\q5∈pl))->J N W:=by
    intro N W hx Z;simp -zeta only[J];refine⟨Z.trans ?_,x2.trans hx⟩;rw[h8,Y];exact⟨λ⟨h1,h2,h3,h4,h5,h6⟩=>⟨h2,⟨h5,h6⟩,⟨h1,h3.symm⟩,h4⟩,λ⟨h2,O,I,h4⟩=>⟨I.1,h2,I.2.symm,h4,O.1,O.2⟩⟩
   clear_value J
   cases j8
   ·rw[aaf];exact hJ12 _ _ (Ext.refl _) ⟨λh=>(by cases h),λh=>(by cases h.1)⟩
   cases u
   ·rw[abt,aaf];exact hJ12 _ _ (Ext.refl _) ⟨λh=>(by cases h),λh=>(by cases h.2.1)⟩
   rw[abt,abt]
   try simp -zeta only[d_,gJ,gK,rb.cell]
   by_cases he:q4=q1;rotate_left
   ·rw[show (q4==q1)=false by simp_all,aaf];exact hJ12 _ _ (Ext.refl _) ⟨λh=>(by cases h),λh=>absurd h.2.2.1 he⟩
   rw[show (q4==q1)=true by simp_all,abt];have rb0:=rb.cell 0;simp -zeta only[d_,gJ,h_,ra.cell];rw[Α];refine lK (λh4=> ?_) (λhn=> ?_);rotate_left
   ·rw[aaf];exact hJ12 _ _ (Ext.refl _) ⟨λh=>(by cases h),λh=>absurd h.2.2.2.1 hn⟩
   rw[abt]
   try simp -zeta only[d_,gJ,gK,rb.cell]
   refine cmS0 (Rh _ _) ?_;rintro _ w' ⟨rfl,hw⟩;subst hw;by_cases h5:nC q2;rotate_left
   ·rw[adX h5,aaf];exact hJ12 _ _ (Ext.refl _) ⟨λh=>(by cases h),λh=>absurd h.2.2.2.2.1 h5⟩
   rw[aff h5,abt];simp -zeta only[d_,gJ,h_,gK,ra.cell,rb.cell];refine cmS0 (acL _ (R.ext x2) U) ?_;rintro _ w' ⟨rfl,hf⟩;exact hJ12 _ _ hf ⟨λh=>⟨rfl,rfl,he,h4,h5,amV h⟩,λh=>aff h.2.2.2.2.2⟩
  clear_value J9;refine lK (λh1=> ?_) (λhn=> ?_);rotate_left
  ·rw[aaf];exact hJ9 _ ⟨λh=>(by cases h),λh=>absurd h.1 hn⟩
  rw[abt]
  try simp -zeta only[d_,gJ,gK,rb.cell]
  refine lK (λh2=> ?_) (λhn=> ?_)
  ·exact hJ9 _ ⟨λ_=>⟨h1,h2⟩,λ_=>rfl⟩
  ·exact hJ9 _ ⟨λh=>(by cases h),λh=>absurd h.2 hn⟩
 clear_value J7;by_cases h1:q1=1
 ·rw[show (q1==1)=true by simp_all,abt];exact hJ7 _ ⟨λ_=> .inl h1,λ_=>rfl⟩
 rw[show (q1==1)=false by simp_all,aaf]
 try simp -zeta only[sx,rb.cell]
 by_cases h6:q1=6
 ·rw[show (q1==6)=true by simp_all,abt];exact hJ7 _ ⟨λ_=> .inr (.inl h6),λ_=>rfl⟩
 rw[show (q1==6)=false by simp_all,aaf]
 try simp -zeta only[sx,rb.cell]
 exact hJ7 _ ⟨λh=> .inr (.inr (by simpa using h)),λh=>by simp_all⟩
end Go.Proofs.CN
namespace Go.Proofs.CN
open Gp
structure agD (p:T16) (ls lp lt n21:Int) (n:Nat) (sl:List T16) (pl:List Int) (tl:List T7):Prop where
 own:qm p=true
 nsw:1<=ls/\ls<=64
 npo:1<=lp/\lp<=16
 nst:lt<=64
 nbi:lt<=n21
 sws:∀x∈sl,qm x=true
 pos:∀x∈pl,nC x
 sts:∀x∈tl,Fq n pl x
theorem Oe {α:Type} {P:α->Prop} {l:List α} {j:Nat} {x:α} (hx:l[j]? =some x) (h:∀y∈l.take j,P y) (hp:P x):∀y∈l.take (j+1),P y:=by
 rw[Gp.Cfg.take_snoc hx];intro y hy;rcases alj.1 hy with hy|hy
 ·exact h y hy
 ·rw[alk.1 hy];exact hp
theorem agE {w:θ} {p0 p1 p2 p3 p4 p5 p6 p7 p8 p9 p10 p11 p12 p13 p14 p15:Int} {sw po:gG} {n18 n19 n20 n21 n22 n23 n24 n25 n26 n27 n28 n29 n30 n31 n32 n33 n34:Int} {st:gG} {sl:List T16} {pl:List Int} {tl:List T7} (ac:ny 16 e16 w sw sl) (ab:ny 1 eI w po pl) (ae:ny 7 e7 w st tl) (lsw:sw.len<=2^40) (lpo:po.len<=2^40) (lst:st.len<=2^40):
  Ei p0 p1 p2 p3 p4 p5 p6 p7 p8 p9 p10 p11 p12 p13 p14 p15 sw po n18 n19 n20 n21 n22 n23 n24 n25 n26 n27 n28 n29 n30 n31 n32 n33 n34 st w λr w'=>(r=true↔agD (p0,p1,p2,p3,p4,p5,p6,p7,p8,p9,p10,p11,p12,p13,p14,p15,()) sw.len po.len st.len n21 sw.len sl pl tl)/\Ext w w':=by
 apply Vw;refine gU λa w1 ra ea z1 f1=> ?_;simp -zeta only[sx,ra.cell];have hlsw:=ac.len;have hlpo:=ab.len;have hlst:=ae.len;intro J4;have hJ4:∀j5 W0,Ext w1 W0->(j5=false↔qm (p0,p1,p2,p3,p4,p5,p6,p7,p8,p9,p10,p11,p12,p13,p14,p15,())=true/\(1<=(sw.len:Int)/\(sw.len:Int)<=64)/\(1<=(po.len:Int)/\(po.len:Int)<=16)/\(st.len:Int)<=64/\(st.len:Int)<=n21)->J4 j5 W0:=by
  intro j5 W0 x0 h5;simp -zeta only[J4];have x0:=f1.trans x0
  cases j5
  rotate_left
  ·rw[abt];exact⟨⟨λh=>(by cases h),λh=>(by cases h5.2 ⟨h.own,h.nsw,h.npo,h.nst,h.nbi⟩)⟩,x0⟩
  rw[aaf];obtain⟨g1,g2,g3,g4,g5⟩:=h5.1 rfl;clear h5;refine g_ (λst' W=>∃j:Nat,j<=sl.length/\st'.1=(j:Int)/\Ext W0 W/\∀x∈sl.take j,qm x=true) (λst' _=>(sl.length - st'.1).toNat) ⟨0,by omega,rfl,Ext.refl _,by simp⟩ ?_;rintro⟨i,⟨⟩⟩ W ⟨j,hj,hi,hx,R⟩ next u
  simp only at hi;subst hi;have xW:=x0.trans hx;have raW:=(ra.ext (by assumption)).ext hx;simp -zeta only[d_,gJ,h_,raW.cell];by_cases af:(j:Int)<(sw.len:Int)
  ·rw[aff af,abt];have J:=adP (show j<sl.length by omega);have I:=akU (show j<sl.length by omega);generalize sl[j]=x at J I;have Y:=Oe J R;refine SlN_ix qQ (by omega) (ac.ext xW) (by omega) (by rw[abu];exact J) λa' hc=> ?_;obtain⟨x0,x1,x2,x3,x4,x5,x6,x7,x8,x9,ag,ah,ai,aj,ak,am,⟨⟩⟩:=x;have c0:=hc 0 _ rfl;have c1:=hc 1 _ rfl;have c2:=hc 2 _ rfl;have c3:=hc 3 _ rfl;have c4:=hc 4 _ rfl;have c5:=hc 5 _ rfl;have c6:=hc 6 _ rfl;have c7:=hc 7 _ rfl;have c8:=hc 8 _ rfl;have c9:=hc 9 _ rfl;have an:=hc 10 _ rfl;have ao:=hc 11 _ rfl;have aq:=hc 12 _ rfl;have ar:=hc 13 _ rfl;have au:=hc 14 _ rfl;have av:=hc 15 _ rfl;simp -zeta only[gJ,c0,c1,c2,c3,c4,c5,c6,c7,c8,c9,an,ao,aq,ar,au,av];refine cmS0 (VK _) ?_;rintro r w3 ⟨hr,f3⟩
   cases hh:qm (x0,x1,x2,x3,x4,x5,x6,x7,x8,x9,ag,ah,ai,aj,ak,am,())
   ·rw[hh] at hr;subst hr;rw[afk,abt];exact⟨⟨λh=>(by cases h),λh=>(by have:=h.sws _ I;simp_all)⟩,xW.trans f3⟩
   ·rw[hh] at hr;subst hr;rw[adt,aaf,Α];exact u _ _ ⟨j+1,by omega,by simp,hx.trans f3,Y hh⟩ (by omega)
  rw[adX af,aaf];rw[ali (by omega)] at R;clear u;refine g_ (λst' V=>∃j:Nat,j<=pl.length/\st'.1=(j:Int)/\Ext W V/\∀x∈pl.take j,nC x) (λst' _=>(pl.length - st'.1).toNat) ⟨0,by omega,rfl,Ext.refl _,by simp⟩ ?_;rintro⟨i,⟨⟩⟩ V ⟨k,hk,hi,hv,N⟩ next u
  simp only at hi;subst hi;have xV:=xW.trans hv;have raV:=raW.ext hv;simp -zeta only[d_,gJ,h_,raV.cell];by_cases Z:(k:Int)<(po.len:Int)
  ·rw[aff Z,abt];have J:=adP (show k<pl.length by omega);have I:=akU (show k<pl.length by omega);generalize pl[k]=x at J I;have Y:=Oe J N;refine SlN_ix jJ (by omega) (ab.ext xV) (by omega) (by rw[abu];exact J) λa' hc=> ?_;have c0:=hc 0 _ rfl;rw[show a'.add 0=a' from rfl] at c0;simp -zeta only[gJ,gK,c0];refine cmS0 (Rh _ _) ?_;rintro r w3 ⟨hr,hw⟩;subst hw;by_cases hh:nC x
   ·rw[aff hh] at hr;subst hr;rw[adt,aaf,Α];exact u _ _ ⟨k+1,by omega,by simp,hv,Y hh⟩ (by omega)
   ·rw[adX hh] at hr;subst hr;rw[afk,abt];exact⟨⟨λh=>(by cases h),λh=>absurd (h.pos _ I) hh⟩,xV⟩
  rw[adX Z,aaf];rw[ali (by omega)] at N;clear u;refine g_ (λst' U=>∃j:Nat,j<=tl.length/\st'.1=(j:Int)/\Ext V U/\∀x∈tl.take j,Fq sw.len pl x) (λst' _=>(tl.length - st'.1).toNat) ⟨0,by omega,rfl,Ext.refl _,by simp⟩ ?_;rintro⟨i,⟨⟩⟩ U ⟨m,hm,hi,hu,O⟩ next u
  simp only at hi;subst hi;have xU:=xV.trans hu;have raU:=raV.ext hu;have rdU:=raU.drew;have dU:=xU.trans (Ext.drew U);simp -zeta only[d_,gJ,h_,raU.cell];by_cases aa:(m:Int)<(st.len:Int)
  ·rw[aff aa,abt];have J:=adP (show m<tl.length by omega);have I:=akU (show m<tl.length by omega);generalize tl[m]=x at J I;have Y:=Oe J O;simp -zeta only[d_,gJ,h_,gK,rdU.cell];refine SlN_ix xw (by omega) (ae.ext dU) (by omega) (by rw[abu];exact J) λa' hc=> ?_;obtain⟨x0,x1,x2,x3,x4,x5,x6,⟨⟩⟩:=x;have c0:=hc 0 _ rfl;have c1:=hc 1 _ rfl;have c2:=hc 2 _ rfl;have c3:=hc 3 _ rfl;have c4:=hc 4 _ rfl;have c5:=hc 5 _ rfl;have c6:=hc 6 _ rfl;simp -zeta only[gJ,c0,c1,c2,c3,c4,c5,c6];refine cmS0 (aeZ (akK lsw (by omega)) (ab.ext dU) (akK lpo (by omega))) ?_;rintro r w3 ⟨hr,f3⟩
   cases r
   ·rw[afk,abt];exact⟨⟨λh=>(by cases h),λh=>(by cases hr.2 (h.sts _ I))⟩,dU.trans f3⟩
   ·rw[adt,aaf,Α];exact u _ _ ⟨m+1,by omega,by simp,(hu.trans (Ext.drew U)).trans f3,Y (hr.1 rfl)⟩ (by omega)
  rw[adX aa,aaf];rw[ali (by omega)] at O;exact⟨⟨λ_=>⟨g1,g2,g3,g4,g5,R,N,O⟩,λ_=>by trivial⟩,xU⟩
 clear_value J4;refine cmS0 (VK _) ?_;rintro r w3 ⟨hr,f3⟩
 cases hh:qm (p0,p1,p2,p3,p4,p5,p6,p7,p8,p9,p10,p11,p12,p13,p14,p15,())
 ·rw[hh] at hr;subst hr;rw[afk,abt];exact hJ4 _ _ f3 ⟨λh=>(by cases h),λh=>(by simp_all)⟩
 rw[hh] at hr;subst hr;rw[adt,aaf];have ra3:=ra.ext f3;simp -zeta only[d_,gJ,h_,ra3.cell];refine lK (λh2=> ?_) (λhn=> ?_);rotate_left
 ·rw[afk,abt];exact hJ4 _ _ f3 ⟨λh=>(by cases h),λh=>absurd h.2.1 hn⟩
 rw[adt,aaf]
 try simp -zeta only[d_,gJ,h_,ra3.cell]
 refine lK (λh3=> ?_) (λhn=> ?_);rotate_left
 ·rw[afk,abt];exact hJ4 _ _ f3 ⟨λh=>(by cases h),λh=>absurd h.2.2.1 hn⟩
 rw[adt,aaf]
 try simp -zeta only[d_,gJ,h_,gK,ra3.cell]
 by_cases h4:(st.len:Int)>64
 ·rw[aff h4,abt];exact hJ4 _ _ f3 ⟨λh=>(by cases h),λh=>by omega⟩
 rw[adX h4,aaf]
 try simp -zeta only[sx,ra3.cell]
 by_cases h5:(st.len:Int)>n21
 ·rw[aff h5];exact hJ4 _ _ f3 ⟨λh=>(by cases h),λh=>by omega⟩
 ·rw[adX h5];exact hJ4 _ _ f3 ⟨λ_=>⟨hh,h2,h3,by omega,by omega⟩,λ_=>by trivial⟩
end Go.Proofs.CN
namespace Go.Proofs.CN
open Gp
theorem aja {a0 a1 a2 a3 a4 a5 a6 a7 a8 a9 h u a12 I J N:Int} {b0 b1 b2 b3 b4 b5 b6 b7 b8 b9 O R U W Y Z:Int} (c:Bool) (hc:c=((a0==b0) && ((a1==b1) && ((a2==b2) && ((a3==b3) && ((a4==b4) && ((a5==b5) && ((a6==b6) && ((a7==b7) && ((a8==b8) && ((a9==b9) && ((h==O) && ((u==R) && ((a12==U) && ((I==W) && ((J==Y) && ((N==Z) && true))))))))))))))))):c=decide (((a0,a1,a2,a3,a4,a5,a6,a7,a8,a9,h,u,a12,I,J,N,()):T16)=(b0,b1,b2,b3,b4,b5,b6,b7,b8,b9,O,R,U,W,Y,Z,())):=by
 subst hc
 grind
theorem alC {a0 a1 a2 a3:Int} {b0 b1 b2 b3:Int} (c:Bool) (hc:c=((a0==b0) && ((a1==b1) && ((a2==b2) && ((a3==b3) && true))))):c=decide (((a0,a1,a2,a3,()):T4)=(b0,b1,b2,b3,())):=by
 subst hc
 grind
theorem alB {a0 a1 a2:Int} {b0 b1 b2:Int} (c:Bool) (hc:c=((a0==b0) && ((a1==b1) && ((a2==b2) && true)))):c=decide (((a0,a1,a2,()):T3)=(b0,b1,b2,())):=by
 subst hc
 grind
structure adg (p:T16) (sl:List T16) (pl:List Int) (tl:List T7) (q:Int):Prop where
 sws:∀(i:Nat) x,sl[i]? =some x->x∉sl.take i/\x≠p
 pos:∀(i:Nat) x,pl[i]? =some x->x∉pl.take i
 sts:∀(i:Nat) x,tl[i]? =some x->Gp.Cfg.Fine wG xH MI q tl i x
theorem Zo {α:Type} {P:Nat->α->Prop} {l:List α} {j:Nat} {x:α} (hx:l[j]? =some x) (h:∀(i:Nat) y,i<j->l[i]? =some y->P i y) (hp:P j x):∀(i:Nat) y,i<j+1->l[i]? =some y->P i y:=by
 intro i y hi hy;by_cases he:i=j
 ·subst he;rw[hx] at hy
  cases hy
  exact hp
 ·exact h i y (by omega) hy
theorem acj {α:Type} {P:Nat->α->Prop} {l:List α} {j:Nat} (hj:l.length<=j) (h:∀(i:Nat) y,i<j->l[i]? =some y->P i y):∀(i:Nat) y,l[i]? =some y->P i y:=
 λi y hy=>h i y (by grind) hy
theorem Jd {α:Type} {l:List α} {k j:Nat} {x:α} (hx:l[k]? =some x) (h:k<j):x∈l.take j:=by
 obtain⟨h1,rfl⟩:=afg.1 hx;exact am0.2 ⟨k,by omega,rfl⟩
theorem aaZ {w:θ} {p0 p1 p2 p3 p4 p5 p6 p7 p8 p9 p10 p11 p12 p13 p14 p15:Int} {sw po:gG} {n18 n19 n20 n21 n22 n23 n24 n25 n26 n27 n28 n29 n30 n31 n32 n33 n34:Int} {st:gG} {sl:List T16} {pl:List Int} {tl:List T7} (av:ny 16 e16 w sw sl) (aw:ny 1 eI w po pl) (au:ny 7 e7 w st tl) (lsw:sw.len<=2^40) (lpo:po.len<=2^40) (lst:st.len<=2^40):
  Ej p0 p1 p2 p3 p4 p5 p6 p7 p8 p9 p10 p11 p12 p13 p14 p15 sw po n18 n19 n20 n21 n22 n23 n24 n25 n26 n27 n28 n29 n30 n31 n32 n33 n34 st w λr w'=>(r=true↔¬adg (p0,p1,p2,p3,p4,p5,p6,p7,p8,p9,p10,p11,p12,p13,p14,p15,()) sl pl tl n20)/\Ext w w':=by
 apply Vx;refine gU λa w1 ra ea z1 f1=> ?_;have hlsw:=av.len;have hlpo:=aw.len;have hlst:=au.len;refine g_ (λst' W=>∃j:Nat,j<=sl.length/\st'.1=(j:Int)/\Ext w1 W/\∀(i:Nat) x,i<j->sl[i]? =some x->x∉sl.take i/\x≠(p0,p1,p2,p3,p4,p5,p6,p7,p8,p9,p10,p11,p12,p13,p14,p15,())) (λst' _=>(sl.length - st'.1).toNat) ⟨0,by omega,rfl,Ext.refl _,by omega⟩ ?_;rintro⟨i,⟨⟩⟩ W ⟨j,hj,hi,hx,ab⟩ next u
 simp only at hi;subst hi;have xW:=f1.trans hx;have raW:=ra.ext hx;simp -zeta only[sx,raW.cell];by_cases ax:(j:Int)<(sw.len:Int)
 ·rw[aff ax,abt];have J:=adP (show j<sl.length by omega);generalize sl[j]=x at J;refine g_ (λst' V=>∃k:Nat,k<=j/\st'.1=(k:Int)/\Ext W V/\x∉sl.take k) (λst' _=>(j - st'.1).toNat) ⟨0,by omega,rfl,Ext.refl _,by simp⟩ ?_;rintro⟨i,⟨⟩⟩ V ⟨k,hk,hi,hv,ar⟩ next2 I;simp only at hi;subst hi;have dV:=hv.trans (Ext.drew V);have xV:=xW.trans dV;have raV:=raW.ext dV;have ac:=av.ext xV;by_cases Z:(k:Int)<(j:Int)
  ·rw[aff Z,abt];simp -zeta only[d_,gJ,h_,raV.cell];have N:=adP (show k<sl.length by omega);generalize sl[k]=y at N;refine SlN_ix qQ (by omega) ac (by omega) (by rw[abu];exact N) λa' hc=> ?_;obtain⟨y0,y1,y2,y3,y4,y5,y6,y7,y8,y9,ay,az,aA,aB,aC,aD,⟨⟩⟩:=y;have c0:V.drew.cell? (a'.add 0)=some (.int .u8 y0):=hc 0 _ rfl;have c1:V.drew.cell? (a'.add 1)=some (.int .u8 y1):=hc 1 _ rfl;have c2:V.drew.cell? (a'.add 2)=some (.int .u8 y2):=hc 2 _ rfl;have c3:V.drew.cell? (a'.add 3)=some (.int .u8 y3):=hc 3 _ rfl;have c4:V.drew.cell? (a'.add 4)=some (.int .u8 y4):=hc 4 _ rfl;have c5:V.drew.cell? (a'.add 5)=some (.int .u8 y5):=hc 5 _ rfl;have c6:V.drew.cell? (a'.add 6)=some (.int .u8 y6):=hc 6 _ rfl;have c7:V.drew.cell? (a'.add 7)=some (.int .u8 y7):=hc 7 _ rfl;have c8:V.drew.cell? (a'.add 8)=some (.int .u8 y8):=hc 8 _ rfl;have c9:V.drew.cell? (a'.add 9)=some (.int .u8 y9):=hc 9 _ rfl;have aE:V.drew.cell? (a'.add 10)=some (.int .u8 ay):=hc 10 _ rfl;have aF:V.drew.cell? (a'.add 11)=some (.int .u8 az):=hc 11 _ rfl;have aG:V.drew.cell? (a'.add 12)=some (.int .u8 aA):=hc 12 _ rfl;have aH:V.drew.cell? (a'.add 13)=some (.int .u8 aB):=hc 13 _ rfl;have aI:V.drew.cell? (a'.add 14)=some (.int .u8 aC):=hc 14 _ rfl;have aJ:V.drew.cell? (a'.add 15)=some (.int .u8 aD):=hc 15 _ rfl;simp -zeta only[gJ,gK,c0,c1,c2,c3,c4,c5,c6,c7,c8,c9,aE,aF,aG,aH,aI,aJ];refine SlN_ix qQ (by omega) ac (by omega) (by rw[abu];exact J) λa'' hd=> ?_;obtain⟨x0,x1,x2,x3,x4,x5,x6,x7,x8,x9,ae,af,ag,ah,ai,aj,⟨⟩⟩:=x;have d0:V.drew.cell? (a''.add 0)=some (.int .u8 x0):=hd 0 _ rfl;have d1:V.drew.cell? (a''.add 1)=some (.int .u8 x1):=hd 1 _ rfl;have d2:V.drew.cell? (a''.add 2)=some (.int .u8 x2):=hd 2 _ rfl;have d3:V.drew.cell? (a''.add 3)=some (.int .u8 x3):=hd 3 _ rfl;have d4:V.drew.cell? (a''.add 4)=some (.int .u8 x4):=hd 4 _ rfl;have d5:V.drew.cell? (a''.add 5)=some (.int .u8 x5):=hd 5 _ rfl;have d6:V.drew.cell? (a''.add 6)=some (.int .u8 x6):=hd 6 _ rfl;have d7:V.drew.cell? (a''.add 7)=some (.int .u8 x7):=hd 7 _ rfl;have d8:V.drew.cell? (a''.add 8)=some (.int .u8 x8):=hd 8 _ rfl;have d9:V.drew.cell? (a''.add 9)=some (.int .u8 x9):=hd 9 _ rfl;have d10:V.drew.cell? (a''.add 10)=some (.int .u8 ae):=hd 10 _ rfl;have d11:V.drew.cell? (a''.add 11)=some (.int .u8 af):=hd 11 _ rfl;have d12:V.drew.cell? (a''.add 12)=some (.int .u8 ag):=hd 12 _ rfl;have d13:V.drew.cell? (a''.add 13)=some (.int .u8 ah):=hd 13 _ rfl;have d14:V.drew.cell? (a''.add 14)=some (.int .u8 ai):=hd 14 _ rfl;have d15:V.drew.cell? (a''.add 15)=some (.int .u8 aj):=hd 15 _ rfl;simp -zeta only[gJ,gK,d0,d1,d2,d3,d4,d5,d6,d7,d8,d9,d10,d11,d12,d13,d14,d15];rw[aja _ rfl];by_cases he:((y0,y1,y2,y3,y4,y5,y6,y7,y8,y9,ay,az,aA,aB,aC,aD,()):T16)=(x0,x1,x2,x3,x4,x5,x6,x7,x8,x9,ae,af,ag,ah,ai,aj,())
   ·rw[aff he,abt];refine⟨⟨λ_ h=> ?_,λ_=>by trivial⟩,xV⟩;exact(h.sws j _ J).1 (he ▸ Jd N (by omega))
   ·rw[adX he,aaf,Α];refine I _ _ ⟨k+1,by omega,by simp,dV,?_⟩ (by omega);rw[Gp.Cfg.take_snoc N];intro hm;rcases alj.1 hm with hm|hm
    ·exact ar hm
    ·exact he (alk.1 hm).symm
  ·have ak:k=j:=by omega
   subst ak;rw[adX Z,aaf];simp -zeta only[d_,gJ,h_,gK,raV.cell];refine SlN_ix qQ (by omega) ac (by omega) (by rw[abu];exact J) λa'' hd=> ?_;obtain⟨x0,x1,x2,x3,x4,x5,x6,x7,x8,x9,ae,af,ag,ah,ai,aj,⟨⟩⟩:=x;have d0:V.drew.cell? (a''.add 0)=some (.int .u8 x0):=hd 0 _ rfl;have d1:V.drew.cell? (a''.add 1)=some (.int .u8 x1):=hd 1 _ rfl;have d2:V.drew.cell? (a''.add 2)=some (.int .u8 x2):=hd 2 _ rfl;have d3:V.drew.cell? (a''.add 3)=some (.int .u8 x3):=hd 3 _ rfl;have d4:V.drew.cell? (a''.add 4)=some (.int .u8 x4):=hd 4 _ rfl;have d5:V.drew.cell? (a''.add 5)=some (.int .u8 x5):=hd 5 _ rfl;have d6:V.drew.cell? (a''.add 6)=some (.int .u8 x6):=hd 6 _ rfl;have d7:V.drew.cell? (a''.add 7)=some (.int .u8 x7):=hd 7 _ rfl;have d8:V.drew.cell? (a''.add 8)=some (.int .u8 x8):=hd 8 _ rfl;have d9:V.drew.cell? (a''.add 9)=some (.int .u8 x9):=hd 9 _ rfl;have d10:V.drew.cell? (a''.add 10)=some (.int .u8 ae):=hd 10 _ rfl;have d11:V.drew.cell? (a''.add 11)=some (.int .u8 af):=hd 11 _ rfl;have d12:V.drew.cell? (a''.add 12)=some (.int .u8 ag):=hd 12 _ rfl;have d13:V.drew.cell? (a''.add 13)=some (.int .u8 ah):=hd 13 _ rfl;have d14:V.drew.cell? (a''.add 14)=some (.int .u8 ai):=hd 14 _ rfl;have d15:V.drew.cell? (a''.add 15)=some (.int .u8 aj):=hd 15 _ rfl;simp -zeta only[gJ,gK,d0,d1,d2,d3,d4,d5,d6,d7,d8,d9,d10,d11,d12,d13,d14,d15];rw[aja _ rfl];by_cases he:((x0,x1,x2,x3,x4,x5,x6,x7,x8,x9,ae,af,ag,ah,ai,aj,()):T16)=(p0,p1,p2,p3,p4,p5,p6,p7,p8,p9,p10,p11,p12,p13,p14,p15,())
   ·rw[aff he,abt];exact⟨⟨λ_ h=>(h.sws _ _ J).2 he,λ_=>by trivial⟩,xV⟩
   ·rw[adX he,aaf,Α];exact u _ _ ⟨k+1,by omega,by simp,hx.trans dV,Zo J ab ⟨ar,he⟩⟩ (by omega)
 rw[adX ax,aaf];have ab:=acj (by omega) ab;clear u;refine g_ (λst' V=>∃j:Nat,j<=pl.length/\st'.1=(j:Int)/\Ext W V/\∀(i:Nat) x,i<j->pl[i]? =some x->x∉pl.take i) (λst' _=>(pl.length - st'.1).toNat) ⟨0,by omega,rfl,Ext.refl _,by omega⟩ ?_;rintro⟨i,⟨⟩⟩ V ⟨j2,hj2,hi,hv,R⟩ next u
 simp only at hi;subst hi;have xV:=xW.trans hv;have raV:=raW.ext hv;simp -zeta only[d_,gJ,h_,raV.cell];by_cases Z:(j2:Int)<(po.len:Int)
 ·rw[aff Z,abt];have J:=adP (show j2<pl.length by omega);generalize pl[j2]=x at J;refine g_ (λst' U=>∃k:Nat,k<=j2/\st'.1=(k:Int)/\Ext V U/\x∉pl.take k) (λst' _=>(j2 - st'.1).toNat) ⟨0,by omega,rfl,Ext.refl _,by simp⟩ ?_;rintro⟨i,⟨⟩⟩ U ⟨k,hk,hi,hu,ar⟩ next2 I;simp only at hi;subst hi;by_cases aa:(k:Int)<(j2:Int)
  ·have dU:=hu.trans (Ext.drew U);have xU:=xV.trans dU;have raU:=raV.ext dU;have am:=aw.ext xU;rw[aff aa,abt];simp -zeta only[d_,gJ,h_,raU.cell];have N:=adP (show k<pl.length by omega);generalize pl[k]=y at N;refine SlN_ix jJ (by omega) am (by omega) (by rw[abu];exact N) λa' hc=> ?_;have c0:=hc 0 _ rfl;rw[show a'.add 0=a' from rfl] at c0;simp -zeta only[gJ,gK,c0];refine SlN_ix jJ (by omega) am (by omega) (by rw[abu];exact J) λa'' hd=> ?_;have d0:=hd 0 _ rfl;rw[show a''.add 0=a'' from rfl] at d0;simp -zeta only[gJ,gK,d0];rw[agt];by_cases he:y=x
   ·rw[aff he,abt];refine⟨⟨λ_ h=> ?_,λ_=>by trivial⟩,xU⟩;exact h.pos j2 _ J (he ▸ Jd N (by omega))
   ·rw[adX he,aaf,Α];refine I _ _ ⟨k+1,by omega,by simp,dU,?_⟩ (by omega);rw[Gp.Cfg.take_snoc N]
    grind
  ·have ak:k=j2:=by omega
   subst ak;rw[adX aa,aaf,Α];exact u _ _ ⟨k+1,by omega,by simp,hv.trans hu,Zo J R ar⟩ (by omega)
 rw[adX Z,aaf];have R:=acj (by omega) R;clear u;refine g_ (λst' U=>∃j:Nat,j<=tl.length/\st'.1=(j:Int)/\Ext V U/\∀(i:Nat) x,i<j->tl[i]? =some x->Gp.Cfg.Fine wG xH MI n20 tl i x) (λst' _=>(tl.length - st'.1).toNat) ⟨0,by omega,rfl,Ext.refl _,by omega⟩ ?_;rintro⟨i,⟨⟩⟩ U ⟨j3,hj3,hi,hu,Y⟩ next u
 simp only at hi;subst hi;have xU:=xV.trans hu;have raU:=raV.ext hu;simp -zeta only[d_,gJ,h_,raU.cell];by_cases aa:(j3:Int)<(st.len:Int)
 ·rw[aff aa,abt];have J:=adP (show j3<tl.length by omega);generalize tl[j3]=x at J;refine g_ (λst' T=>∃k:Nat,k<=j3/\st'.2.1=(k:Int)/\st'.1=1+(((tl.take k).countP λy=>MI y==MI x:Nat):Int)/\Ext U T/\∀y∈tl.take k,wG y≠wG x/\xH y≠xH x) (λst' _=>(j3 - st'.2.1).toNat) ⟨0,by omega,rfl,by simp,Ext.refl _,by simp⟩ ?_;rintro⟨n,i,⟨⟩⟩ T ⟨k,hk,hi,hn,ht,an⟩ next2 I;simp only at hi hn;subst hi;by_cases ao:(k:Int)<(j3:Int)
  ·have dT:=ht.trans (Ext.drew T);have xT:=xU.trans dT;have raT:=raU.ext dT;rw[aff ao,abt];have N:=adP (show k<tl.length by omega);generalize tl[k]=y at N;have hcl:(tl.take k).countP (λy=>MI y==MI x)<=tl.length:=akK (List.countP_le_length) (by simp;omega);have aq:(tl.take (k+1)).countP (λz=>MI z==MI x)=(tl.take k).countP (λz=>MI z==MI x)+if MI y=MI x then 1 else 0:=by
    rw[Gp.Cfg.take_snoc N,List.countP_append,List.countP_singleton];simp
   have aK:=Oe N an;intro J101;have hJ101:∀n' T',Ext T.drew T'->n'=1+(((tl.take (k+1)).countP λy=>MI y==MI x:Nat):Int)->(wG y≠wG x/\xH y≠xH x)->J101 n' T':=by
    intro n' T' hT hn' ho;simp -zeta only[J101];rw[Α];exact I _ _ ⟨k+1,by omega,by simp,hn',dT.trans hT,aK ho⟩ (by grind)
   clear_value J101;intro J104;have hJ104:∀b T',Ext T.drew T'->(b=true↔¬(wG y≠wG x/\xH y≠xH x))->J104 b T':=by
    intro b T' hT hb;simp -zeta only[J104];have xT':=xT.trans hT
    cases b
    ·have ho:wG y≠wG x/\xH y≠xH x:=by
      grind
     rw[aaf];have hT2:=hT.trans (Ext.drew T');have raT':=raT.ext hT2;have O:=au.ext (xT.trans hT2);simp -zeta only[d_,gJ,h_,raT'.cell];refine SlN_ix xw (by omega) O (by omega) (by rw[abu];exact N) λa' hc=> ?_;have c0:T'.drew.cell? (a'.add 0)=some (Β (MI y)):=by obtain⟨y0,y1,y2,y3,y4,y5,y6,⟨⟩⟩:=y;exact hc 0 _ rfl
     rw[show a'.add 0=a' from rfl] at c0;simp -zeta only[gJ,gK,c0];refine SlN_ix xw (by omega) O (by omega) (by rw[abu];exact J) λa'' hd=> ?_;have d0:T'.drew.cell? (a''.add 0)=some (Β (MI x)):=by obtain⟨x0,x1,x2,x3,x4,x5,x6,⟨⟩⟩:=x;exact hd 0 _ rfl
     rw[show a''.add 0=a'' from rfl] at d0;simp -zeta only[gJ,gK,d0];rw[agt];by_cases he:MI y=MI x
     ·rw[adZ he] at aq;rw[aff he,abt,Α];exact hJ101 _ _ hT2 (by omega) ho
     ·rw[acZ he] at aq;rw[adX he,aaf];exact hJ101 _ _ hT2 (by omega) ho
    ·rw[abt];exact⟨⟨λ_ h=>(hb.1 rfl) ((h.sts j3 _ J).one y (Jd N (by omega))),λ_=>by trivial⟩,xT'⟩
   clear_value J104;have O:=au.ext xT;simp -zeta only[d_,gJ,h_,raT.cell];refine SlN_ix xw (by omega) O (by omega) (by rw[abu];exact N) λa' hc=> ?_;obtain⟨y0,y1,y2,y3,y4,y5,y6,⟨⟩⟩:=y;have c0:T.drew.cell? (a'.add 0)=some (Β y0):=hc 0 _ rfl;have c1:T.drew.cell? (a'.add 1)=some (Β y1):=hc 1 _ rfl;have c2:T.drew.cell? (a'.add 2)=some (Β y2):=hc 2 _ rfl;have c3:T.drew.cell? (a'.add 3)=some (Β y3):=hc 3 _ rfl;have c4:=hc 4 _ rfl;have c5:=hc 5 _ rfl;have c6:=hc 6 _ rfl;simp -zeta only[gJ,gK,c0,c1,c2,c3];refine SlN_ix xw (by omega) O (by omega) (by rw[abu];exact J) λa'' hd=> ?_;obtain⟨x0,x1,x2,x3,x4,x5,x6,⟨⟩⟩:=x;have d0:T.drew.cell? (a''.add 0)=some (Β x0):=hd 0 _ rfl;have d1:T.drew.cell? (a''.add 1)=some (Β x1):=hd 1 _ rfl;have d2:T.drew.cell? (a''.add 2)=some (Β x2):=hd 2 _ rfl;have d3:T.drew.cell? (a''.add 3)=some (Β x3):=hd 3 _ rfl;have d4:=hd 4 _ rfl;have d5:=hd 5 _ rfl;have d6:=hd 6 _ rfl;simp -zeta only[gJ,gK,d0,d1,d2,d3];rw[alC _ rfl];by_cases he:((y0,y1,y2,y3,()):T4)=(x0,x1,x2,x3,())
   ·rw[aff he,abt];exact hJ104 _ _ (Ext.refl _) ⟨λ_ h=>h.1 he,λ_=>rfl⟩
   rw[adX he,aaf]
   try simp -zeta only[sx,raT.cell]
   refine SlN_ix xw (by omega) O (by omega) (by rw[abu];exact N) λb' hc=> ?_;have c4:T.drew.cell? ((b'.add 4).add 0)=some (Β y4):=hc 4 _ rfl;have c5:T.drew.cell? ((b'.add 4).add 1)=some (Β y5):=hc 5 _ rfl;have c6:T.drew.cell? ((b'.add 4).add 2)=some (Β y6):=hc 6 _ rfl;simp -zeta only[gJ,gK,c4,c5,c6];refine SlN_ix xw (by omega) O (by omega) (by rw[abu];exact J) λb'' hd=> ?_;have d4:T.drew.cell? ((b''.add 4).add 0)=some (Β x4):=hd 4 _ rfl;have d5:T.drew.cell? ((b''.add 4).add 1)=some (Β x5):=hd 5 _ rfl;have d6:T.drew.cell? ((b''.add 4).add 2)=some (Β x6):=hd 6 _ rfl;simp -zeta only[gJ,gK,d4,d5,d6];rw[alB _ rfl];refine hJ104 _ _ (Ext.refl _) ?_;by_cases ho:((y4,y5,y6,()):T3)=(x4,x5,x6,())
   ·rw[aff ho];exact⟨λ_ h=>h.2 ho,λ_=>rfl⟩
   ·rw[adX ho];exact⟨λh=>(by cases h),λh=>absurd ⟨he,ho⟩ h⟩
  ·have ak:k=j3:=by omega
   subst ak;have raT:=raU.ext ht;rw[adX ao,aaf];simp -zeta only[d_,gJ,gK,raT.cell];by_cases hq:n>n20
   ·rw[aff hq,abt];exact⟨⟨λ_ h=>by have:=(h.sts _ _ J).few;omega,λ_=>by trivial⟩,xU.trans ht⟩
   ·rw[adX hq,aaf,Α];exact u _ _ ⟨k+1,by omega,by simp,hu.trans ht,Zo J Y ⟨an,by omega⟩⟩ (by omega)
 rw[adX aa,aaf];have Y:=acj (by omega) Y;exact⟨⟨λh=>(by cases h),λh=>absurd ⟨ab,R,Y⟩ h⟩,xU⟩
end Go.Proofs.CN
namespace Go.Proofs.CN
open Gp
theorem aas {ls lp lt n18 n19 n20 n21 n22 n23 n24 n25 n26 n27 n28 n29 n30 n31 n32 n33 n34:Int} (h0:0<=lt):
  ((∀b∈bnds ls lp lt n18 n19 n20 n21 n22 n23 n24 n25 n26 n27 n29 n30 n31 n32 n33 n34,okB b)/\aap n28)↔
   (agM n18 n19 n20 n21 n22 n23 n24 n25 n26 n27 n28 n29 n30 n31 n32 n33 n34/\(1<=ls/\ls<=64)/\(1<=lp/\lp<=16)/\lt<=64/\lt<=n21):=by
 unfold bnds;simp only[List.forall_mem_cons,okB];constructor
 ·rintro⟨⟨a1,a2,a3,a4,a5,a6,a7,a8,a9,h,u,a12,I,J,N,O,a17,R,U,_⟩,m⟩;refine⟨⟨⟨a6,a7,a8,a9,h⟩,⟨u,a12,I,m,J⟩,⟨N,O,a17,R,U⟩,⟨a4,a5⟩⟩,a1,a2,?_⟩;omega
 ·rintro⟨⟨⟨a6,a7,a8,a9,h⟩,⟨u,a12,I,m,J⟩,⟨N,O,a17,R,U⟩,⟨a4,a5⟩⟩,a1,a2,h1,h2⟩;refine⟨⟨a1,a2,⟨h0,?_⟩,a4,a5,a6,a7,a8,a9,h,u,a12,I,J,N,O,a17,R,U,by simp⟩,m⟩;omega
theorem Yt {p:T16} {n:Nat} {sl:List T16} {pl:List Int} {tl:List T7}:
  yM p n sl pl tl=true↔(qm p=true/\(∀x∈sl,qm x=true)/\(∀x∈pl,nC x)/\(∀x∈tl,Fq n pl x)):=by
 unfold yM;simp
theorem Zz {p:T16} {ls lp lt n18 n19 n20 n21 n22 n23 n24 n25 n26 n27 n28 n29 n30 n31 n32 n33 n34:Int} {n:Nat} {sl:List T16} {pl:List Int} {tl:List T7} (h0:0<=lt):
  OkP p ls lp lt n18 n19 n20 n21 n22 n23 n24 n25 n26 n27 n28 n29 n30 n31 n32 n33 n34 n sl pl tl↔
   (agM n18 n19 n20 n21 n22 n23 n24 n25 n26 n27 n28 n29 n30 n31 n32 n33 n34/\agD p ls lp lt n21 n sl pl tl):=by
 constructor
 ·rintro⟨h1,h2,h3⟩;obtain⟨h4,h5,h6,h7,h8⟩:=(aas h0).1 ⟨h1,h2⟩;obtain⟨g1,g2,g3,g4⟩:=Yt.1 h3;exact⟨h4,g1,h5,h6,h7,h8,g2,g3,g4⟩
 ·rintro⟨h4,g1,h5,h6,h7,h8,g2,g3,g4⟩;obtain⟨h1,h2⟩:=(aas h0).2 ⟨h4,h5,h6,h7,h8⟩;exact⟨h1,h2,Yt.2 ⟨g1,g2,g3,g4⟩⟩
theorem ϭ {p:T16} {sl:List T16} {pl:List Int} {tl:List T7} {n:Nat} {q:Int} (hq:1<=q) (hr:∀x∈tl,0<=MI x/\MI x<(n:Int)):
  adg p sl pl tl q↔fineP p sl pl tl n q:=by
 unfold fineP;rw[Gp.Cfg.acv];constructor
 ·rintro⟨h1,h2,h3⟩;obtain⟨g1,g2,g3⟩:=(Gp.Cfg.Ϸ MI hq hr).1 h3;refine⟨⟨Gp.Cfg.wH.2 λi x hx=>(h1 i x hx).1,λhm=> ?_⟩,Gp.Cfg.wH.2 h2,g1,g2,g3⟩;obtain⟨i,hi,he⟩:=List.mem_iff_getElem.1 hm;exact(h1 i p (by simp_all)).2 rfl
 ·rintro⟨⟨h1,h1'⟩,h2,g1,g2,g3⟩;refine⟨λi x hx=>⟨Gp.Cfg.wH.1 h1 i x hx,λe=>h1' (e ▸ als hx)⟩,Gp.Cfg.wH.1 h2,(Gp.Cfg.Ϸ MI hq hr).2 ⟨g1,g2,g3⟩⟩
def chk (p:T16) (ls lp lt n18 n19 n20 n21 n22 n23 n24 n25 n26 n27 n28 n29 n30 n31 n32 n33 n34:Int) (n:Nat) (sl:List T16) (pl:List Int) (tl:List T7) (r:Int):Prop:=
 (¬OkP p ls lp lt n18 n19 n20 n21 n22 n23 n24 n25 n26 n27 n28 n29 n30 n31 n32 n33 n34 n sl pl tl/\r=1)\/
   (OkP p ls lp lt n18 n19 n20 n21 n22 n23 n24 n25 n26 n27 n28 n29 n30 n31 n32 n33 n34 n sl pl tl/\((¬fineP p sl pl tl n n20/\r=9)\/(fineP p sl pl tl n n20/\r=0)))
theorem chk_one {p:T16} {ls lp lt n18 n19 n20 n21 n22 n23 n24 n25 n26 n27 n28 n29 n30 n31 n32 n33 n34:Int} {n:Nat} {sl:List T16} {pl:List Int} {tl:List T7} {r r':Int}
  (h:chk p ls lp lt n18 n19 n20 n21 n22 n23 n24 n25 n26 n27 n28 n29 n30 n31 n32 n33 n34 n sl pl tl r) (h':chk p ls lp lt n18 n19 n20 n21 n22 n23 n24 n25 n26 n27 n28 n29 n30 n31 n32 n33 n34 n sl pl tl r'):r=r':=by
 rcases h with ⟨h1,rfl⟩|⟨h1,⟨h2,rfl⟩|⟨h2,rfl⟩⟩<;>rcases h' with ⟨g1,rfl⟩|⟨g1,⟨g2,rfl⟩|⟨g2,rfl⟩⟩<;>first|rfl|trivial|trivial|trivial|trivial
theorem aaY {w:θ} {p0 p1 p2 p3 p4 p5 p6 p7 p8 p9 p10 p11 p12 p13 p14 p15:Int} {sw po:gG} {n18 n19 n20 n21 n22 n23 n24 n25 n26 n27 n28 n29 n30 n31 n32 n33 n34:Int} {st:gG} {sl:List T16} {pl:List Int} {tl:List T7} (I:ny 16 e16 w sw sl) (J:ny 1 eI w po pl) (N:ny 7 e7 w st tl) (lsw:sw.len<=2^40) (lpo:po.len<=2^40) (lst:st.len<=2^40):
  Eh p0 p1 p2 p3 p4 p5 p6 p7 p8 p9 p10 p11 p12 p13 p14 p15 sw po n18 n19 n20 n21 n22 n23 n24 n25 n26 n27 n28 n29 n30 n31 n32 n33 n34 st w λr w'=>chk (p0,p1,p2,p3,p4,p5,p6,p7,p8,p9,p10,p11,p12,p13,p14,p15,()) sw.len po.len st.len n18 n19 n20 n21 n22 n23 n24 n25 n26 n27 n28 n29 n30 n31 n32 n33 n34 sw.len sl pl tl r/\Ext w w':=by
 apply Vu;refine gU λa w1 ra ea z1 f1=> ?_;simp -zeta only[sx,ra.cell];intro J4;have hJ4:∀j5 W,Ext w1 W->(j5=false↔OkP (p0,p1,p2,p3,p4,p5,p6,p7,p8,p9,p10,p11,p12,p13,p14,p15,()) sw.len po.len st.len n18 n19 n20 n21 n22 n23 n24 n25 n26 n27 n28 n29 n30 n31 n32 n33 n34 sw.len sl pl tl)->J4 j5 W:=by
  intro j5 W hx h5;simp -zeta only[J4];have xW:=f1.trans hx
  cases j5
  ·rw[aaf];have u:=h5.1 rfl;have hl:=(Zz (by omega)).1 u;have hf:=ϭ (p:=(p0,p1,p2,p3,p4,p5,p6,p7,p8,p9,p10,p11,p12,p13,p14,p15,())) (sl:=sl) (pl:=pl) hl.1.rooms.1.1 λx hx=>adH (hl.2.sts x hx);have raW:=ra.ext hx;simp -zeta only[d_,gJ,h_,gK,raW.cell];refine cmS0 (aaZ (I.ext xW) (J.ext xW) (N.ext xW) lsw lpo lst) ?_;rintro r w' ⟨hr,hf'⟩;rw[hf] at hr
   cases r
   ·rw[aaf];refine⟨.inr ⟨u,.inr ⟨?_,rfl⟩⟩,xW.trans hf'⟩;by_cases h:fineP (p0,p1,p2,p3,p4,p5,p6,p7,p8,p9,p10,p11,p12,p13,p14,p15,()) sl pl tl sw.len n20
    ·exact h
    ·exact absurd (hr.2 h) (by simp)
   ·rw[abt];exact⟨.inr ⟨u,.inl ⟨hr.1 rfl,rfl⟩⟩,xW.trans hf'⟩
  ·rw[abt];exact⟨.inl ⟨λh=>(by cases h5.2 h),rfl⟩,xW⟩
 clear_value J4;refine cmS0 (acw _) ?_;rintro r w2 ⟨hr,f2⟩
 cases r
 ·rw[afk,abt];exact hJ4 _ _ f2 ⟨λh=>(by cases h),λh=>(by cases hr.2 ((Zz (by omega)).1 h).1)⟩
 rw[adt,aaf];have ra2:=ra.ext f2;have x2:=f1.trans f2;simp -zeta only[d_,gJ,h_,gK,ra2.cell];refine cmS0 (agE (I.ext x2) (J.ext x2) (N.ext x2) lsw lpo lst) ?_;rintro r w3 ⟨hr3,f3⟩;refine hJ4 _ _ (f2.trans f3) ?_;rw[Zz (by omega),<- hr,<- hr3]
 cases r<;>simp
end Go.Proofs.CN
end
section
namespace Go.Proofs.CN
open Gp
def words (n:Nat):List Int:=[8193,3512,(n:Int),0,0,0,0,1]
def aaO (n j:Nat):List Int:=((words n).take j).flatMap (λx=>[x / 256,x % 256])++List.replicate (16 - 2 * j) 0
def Pg (n:Nat):T16:=(32,1,13,184,0,(n:Int),0,0,0,0,0,0,0,0,0,1,())
abbrev cu8 (l:List Int):List Value:=l.map λx=>Value.int .u8 x
theorem ac9 (l:List Int) (i:Nat) (x:Int):(cu8 l).set i (.int .u8 x)=cu8 (l.set i x):=by
 unfold cu8;rw[List.map_set]
theorem aeO:∀(n:Fin 3) (j:Fin 8),((aaO n j).set (2 * j) (IntKind.u8.wrap (ο.wrap (Int.tdiv (Int.tmod (ο.wrap ((Int.tmod ((words n).getD j 0) 65536)+65536)) 65536) 256)))).set (2 * j+1) (IntKind.u8.wrap (Int.tmod (Int.tmod (ο.wrap ((Int.tmod ((words n).getD j 0) 65536)+65536)) 65536) 256))=aaO n (j+1):=by decide
theorem ait:∀(n:Fin 3) (j:Fin 9),(aaO n j).length=16:=by decide
theorem ais:∀(n:Fin 3),cu8 (aaO n 8)=e16 (Pg n):=by
 intro n
 match n with
 |0=>rfl
 |1=>rfl
 |2=>rfl
end Go.Proofs.CN
namespace Go.Proofs.CN
open Gp
theorem afb (n:Nat):∀(j:Nat),j<8->(words n)[j]? =some ((words n).getD j 0)
 |0,_=>rfl
 |1,_=>rfl
 |2,_=>rfl
 |3,_=>rfl
 |4,_=>rfl
 |5,_=>rfl
 |6,_=>rfl
 |7,_=>rfl
 |j+8,h=>absurd h (by omega)
theorem akr:∀(n:Fin 3),[Value.int .u8 0,.int .u8 0,.int .u8 0,.int .u8 0,.int .u8 0,.int .u8 0,.int .u8 0,.int .u8 0,.int .u8 0,.int .u8 0,.int .u8 0,.int .u8 0,.int .u8 0,.int .u8 0,.int .u8 0,.int .u8 0]=cu8 (aaO n 0):=λ_=>rfl
theorem aiu {W:θ} {b:Nat} (n:Fin 3) (h:Row W b (cu8 (aaO n 8))):Row W b [.int .u8 32,.int .u8 1,.int .u8 13,.int .u8 184,.int .u8 0,.int .u8 ((n:Nat):Int),.int .u8 0,.int .u8 0,.int .u8 0,.int .u8 0,.int .u8 0,.int .u8 0,.int .u8 0,.int .u8 0,.int .u8 0,.int .u8 1]:=by
 rw[ais] at h;exact h
theorem ac8 (l:List Int):(cu8 l).length=l.length:=aiz ..
theorem VL (n:Fin 3) {w:θ} {s:gG} (hs:ny 1 eI w s (words n)):BK s w λr0 r1 r2 r3 r4 r5 r6 r7 r8 r9 O R U Y Z aa w'=>((r0,r1,r2,r3,r4,r5,r6,r7,r8,r9,O,R,U,Y,Z,aa,()):T16)=Pg n/\Ext w w':=by
 apply aaG;refine gU λa w1 ra ea z1 f1=>gU λb w2 rb eb z2 f2=> ?_;have hs0:=hs;have ra:=ra.ext f2;have hs:=hs.ext (f1.trans f2);have hlen:s.len=8:=hs.len;have rb:Row w2 b (cu8 (aaO n 0)):=by rw[<- akr n];exact rb
 refine g_ (λst W=>∃j:Nat,j<=8/\st.1=(j:Int)/\Row W b (cu8 (aaO n j))/\ig w2 W (·=b)) (λst _=>(8 - st.1).toNat) ⟨0,by omega,rfl,rb,ig.refl _ _⟩ ?_;rintro⟨i,⟨⟩⟩ W ⟨j,hj,hi,rW,fW⟩ next u
 simp only at hi;subst hi;simp -zeta only[];intro J9;by_cases J:(j:Int)<(s.len:Int)
 ·have hj8:j<8:=by omega
  rw[aff J,abt,aff (show (j:Int)<8 by omega)];simp only[J9];rw[abt];have I:=afb n j hj8;have ab:ny 1 eI W s (words n):=hs.fr fW (λc hc _ e=>by
   have:=afq jJ (by omega) hs0 hc (by show 0<8;omega);omega)
  refine SlN_ix jJ (by omega) ab (by omega) (by rw[abu];exact I) λa' hc=> ?_;have hc0:=hc 0 _ rfl;rw[show a'.add 0=a' from rfl] at hc0;have hl16:=ait n ⟨j,by omega⟩;have N:=aeO n ⟨j,hj8⟩;simp only at hl16 N;have e2j:ο.wrap (2 * (j:Int))=((2 * j:Nat):Int):=by rw[Α];omega
  simp only[sx,hc0,e2j];rw[Α (n:=((2 * j:Nat):Int)+1) (by omega) (by omega),show ((2 * j:Nat):Int)+1=((2 * j+1:Nat):Int) by omega];simp only[abu,aiC];refine⟨by decide,by decide,by decide,by decide,by omega,by omega,iC rW rfl (by rw[ac8,hl16];omega) λw5 r5 f5 z5=> ?_⟩;rw[ac9] at r5;refine⟨by omega,by omega,iC r5 rfl (by rw[ac8,alP,hl16];omega) λw6 r6 f6 z6=> ?_⟩;rw[ac9,N] at r6;rw[Α];refine u _ _ ⟨j+1,by omega,by simp,r6,(fW.trans (f5 (·=b) rfl) λ_ _ e=>e).trans (f6 (·=b) rfl) λ_ _ e=>e⟩ (by simp only;omega)
 ·rw[adX J,aaf];have:j=8:=by omega
  subst this;simp only[J9];rw[aaf];have rW:=aiu n rW;have raW:=ra.fr fW (by omega);simp only[sx,rW.cell];refine gZ raW rfl rfl λw5 r5 f5 z5=> ?_;simp only[d_,gJ,gK,r5.cell];exact⟨rfl,(f1.trans f2).new (S:=λx=>x=b\/x=a) ((fW.mono λ_=>Or.inl).trans (f5 _ (.inr rfl)) λ_ _ e=>e) (by intro x hx h;rcases h with rfl|rfl<;>omega)⟩
end Go.Proofs.CN
namespace Go.Proofs.CN
open Gp
theorem ϊ {r0 r1 r2 r3 r4 r5 r6 r7 r8 r9 u I J N O R:Int} {n:Nat} {z:Int} (hz:(n:Int)=z) (h:((r0,r1,r2,r3,r4,r5,r6,r7,r8,r9,u,I,J,N,O,R,()):T16)=Pg n):r0=32/\r1=1/\r2=13/\r3=184/\r4=0/\r5=z/\r6=0/\r7=0/\r8=0/\r9=0/\u=0/\I=0/\J=0/\N=0/\O=0/\R=1:=by
 subst hz;simp only[Pg,alX,amf] at h;exact h
structure ϒ (w w':θ) (bs bp:Nat):Prop where
 rs:Row w' bs (.int .u8 32:: .int .u8 1:: .int .u8 13:: .int .u8 184:: .int .u8 0:: .int .u8 1:: .int .u8 0:: .int .u8 0:: .int .u8 0:: .int .u8 0:: .int .u8 0:: .int .u8 0:: .int .u8 0:: .int .u8 0:: .int .u8 0:: .int .u8 1:: .int .u8 32:: .int .u8 1:: .int .u8 13:: .int .u8 184:: .int .u8 0:: .int .u8 2:: .int .u8 0:: .int .u8 0:: .int .u8 0:: .int .u8 0:: .int .u8 0:: .int .u8 0:: .int .u8 0:: .int .u8 0:: .int .u8 0:: .int .u8 1::[])
 rp:Row w' bp [Β 3325256705]
 hs:w.heap.size<=bs
 hp:w.heap.size<=bp
 ne:bs≠bp
 ext:Ext w w'
abbrev akv (w w':θ) (p0 p1 p2 p3 p4 p5 p6 p7 p8 p9 p10 p11 p12 p13 p14 p15:Int) (sw po:gG) (n18 n19 n20 n21 n22 n23 n24 n25 n26 n27 n28 n29 n30 n31 n32 n33 n34:Int) (st:gG):Prop:=∃bs bp,ϒ w w' bs bp/\p0=32/\p1=1/\p2=13/\p3=184/\p4=0/\p5=0/\p6=0/\p7=0/\p8=0/\p9=0/\p10=0/\p11=0/\p12=0/\p13=0/\p14=0/\p15=1/\sw=⟨some ⟨bs,0,none⟩,2,2⟩/\po=⟨some ⟨bp,0,none⟩,1,1⟩/\n18=1024/\n19=65535/\n20=16/\n21=64/\n22=128/\n23=8/\n24=1048576/\n25=1500/\n26=1500/\n27=64/\n28=0/\n29=2/\n30=300/\n31=7440/\n32=240/\n33=60/\n34=60/\st=⟨none,0,0⟩
set_option maxHeartbeats 4000000 in
theorem refbase_ok (w:θ):Gi w λp0 p1 p2 p3 p4 p5 p6 p7 p8 p9 p10 p11 p12 p13 p14 p15 sw po n18 n19 n20 n21 n22 n23 n24 n25 n26 n27 n28 n29 n30 n31 n32 n33 n34 st w'=>akv w w' p0 p1 p2 p3 p4 p5 p6 p7 p8 p9 p10 p11 p12 p13 p14 p15 sw po n18 n19 n20 n21 n22 n23 n24 n25 n26 n27 n28 n29 n30 n31 n32 n33 n34 st:=by
 apply XD;refine gU λa w1 ra ea z1 f1=> ?_;refine gU λb0 v0 rb0 eb0 y0 g0=> ?_;have hb0:ny 1 eI v0 ⟨some ⟨b0,0,none⟩,8,8⟩ (words 0):=(jc.row (xs:=words 0) (f:=eI) (n:=1) rb0).sl jJ (by omega);refine cmS21 (VL 0 hb0) ?_;rintro q0 q1 q2 q3 q4 q5 q6 q7 q8 q9 I J N O R U u0 ⟨hq,h0⟩;obtain⟨rfl,rfl,rfl,rfl,rfl,rfl,rfl,rfl,rfl,rfl,rfl,rfl,rfl,rfl,rfl,rfl⟩:=ϊ (z:=0) rfl hq;refine gU λb1 v1 rb1 eb1 y1 g1=> ?_;have hb1:ny 1 eI v1 ⟨some ⟨b1,0,none⟩,8,8⟩ (words 1):=(jc.row (xs:=words 1) (f:=eI) (n:=1) rb1).sl jJ (by omega);refine cmS21 (VL 1 hb1) ?_;rintro q0 q1 q2 q3 q4 q5 q6 q7 q8 q9 I J N O R U u1 ⟨hq,h1⟩;obtain⟨rfl,rfl,rfl,rfl,rfl,rfl,rfl,rfl,rfl,rfl,rfl,rfl,rfl,rfl,rfl,rfl⟩:=ϊ (z:=1) rfl hq;refine gU λb2 v2 rb2 eb2 y2 g2=> ?_;have hb2:ny 1 eI v2 ⟨some ⟨b2,0,none⟩,8,8⟩ (words 2):=(jc.row (xs:=words 2) (f:=eI) (n:=1) rb2).sl jJ (by omega);refine cmS21 (VL 2 hb2) ?_;rintro q0 q1 q2 q3 q4 q5 q6 q7 q8 q9 I J N O R U u2 ⟨hq,h2⟩;obtain⟨rfl,rfl,rfl,rfl,rfl,rfl,rfl,rfl,rfl,rfl,rfl,rfl,rfl,rfl,rfl,rfl⟩:=ϊ (z:=2) rfl hq;have g0':=h0.size;have g1':=h1.size;have g2':=h2.size;refine gU λbs w5 rs es z5 f5=>gU λbp w6 rp ep z6 f6=> ?_;have fa:=(((((g0.trans h0).trans g1).trans h1).trans g2).trans h2);have ra:=(((ra.ext fa).ext f5).ext f6);refine gZ ra rfl rfl λu r t y=> ?_;have r:Row u a (.int .u8 32:: .int .u8 1:: .int .u8 13:: .int .u8 184:: .int .u8 0:: .int .u8 0:: .int .u8 0:: .int .u8 0:: .int .u8 0:: .int .u8 0:: .int .u8 0:: .int .u8 0:: .int .u8 0:: .int .u8 0:: .int .u8 0:: .int .u8 1:: .slice (some ⟨bs,0,none⟩) 2 2:: .slice (some ⟨bp,0,none⟩) 1 1:: Β 1024:: Β 65535:: Β 16:: Β 64:: Β 128:: Β 8:: Β 1048576:: Β 1500:: Β 1500:: Β 64:: Β 0:: Β 2:: Β 300:: Β 7440:: Β 240:: Β 60:: Β 60:: .slice none 0 0::[]):=r;simp only[sx,r.cell];have rs:Row u bs _:=(rs.ext f6).fr (t (·=a) rfl) (by omega);have rp:Row u bp _:=rp.fr (t (·=a) rfl) (by omega);have fz:Ext w u:=(((f1.trans fa).trans f5).trans f6).new (t (·=a) rfl) (by intro x hx h;omega);exact⟨bs,bp,⟨rs,rp,by omega,by omega,by omega,fz⟩,rfl,rfl,rfl,rfl,rfl,rfl,rfl,rfl,rfl,rfl,rfl,rfl,rfl,rfl,rfl,rfl,rfl,rfl,rfl,rfl,rfl,rfl,rfl,rfl,rfl,rfl,rfl,rfl,rfl,rfl,rfl,rfl,rfl,rfl,rfl,rfl⟩
end Go.Proofs.CN
namespace Go.Proofs.CN
open Gp
theorem base_good:OkP (Pg 0) ((2:Nat):Int) ((1:Nat):Int) ((0:Nat):Int) 1024 65535 16 64 128 8 1048576 1500 1500 64 0 2 300 7440 240 60 60 2 [Pg 1,Pg 2] [3325256705] []:=⟨by decide,by decide,by decide⟩
theorem base_fine:fineP (Pg 0) [Pg 1,Pg 2] [3325256705] [] 2 16:=⟨by decide,by decide,by decide,by decide,λk hk=>by simp[cnt]⟩
theorem ϒ.sl {w w':θ} {bs bp:Nat} (h:ϒ w w' bs bp):ny 16 e16 w' ⟨some ⟨bs,0,none⟩,2,2⟩ [Pg 1,Pg 2]:=(jc.row (xs:=[Pg 1,Pg 2]) (f:=e16) (n:=16) h.rs).sl qQ (by omega)
theorem ϒ.pl {w w':θ} {bs bp:Nat} (h:ϒ w w' bs bp):ny 1 eI w' ⟨some ⟨bp,0,none⟩,1,1⟩ [3325256705]:=(jc.row (xs:=[(3325256705:Int)]) (f:=eI) (n:=1) h.rp).sl jJ (by omega)
end Go.Proofs.CN
namespace Go.Proofs.CN
end Go.Proofs.CN
end
section
namespace Gp.PoolN
def stepL (hi a by_:Int):List Int:=(List.range ((hi - a) / by_+1).toNat).map λi:Nat=>a+by_ * (i:Int)
theorem lt_iff {hi a b:Int} (hb:0<b) (i:Nat):i<((hi - a) / b+1).toNat↔a+b * (i:Int)<=hi:=by
 have h:((i:Int)<=(hi - a) / b)↔(i:Int) * b<=hi - a:=Int.le_ediv_iff_mul_le hb;rw[Int.mul_comm b];omega
theorem stepL_get {hi a b:Int} (hb:0<b) (i:Nat):(stepL hi a b)[i]? =if a+b * (i:Int)<=hi then some (a+b * (i:Int)) else none:=by
 unfold stepL;rw[aiK];by_cases h:a+b * (i:Int)<=hi
 ·rw[adZ h,List.getElem?_range ((lt_iff hb i).2 h)];rfl
 ·rw[acZ h,amT];rfl;rw[List.length_range];have:=(lt_iff (hi:=hi) (a:=a) hb i).1;omega
def alike (lo want:Int):Int:=lo+(lo+want) % 2
def cls (want:Int):Int×Int:=if want<1024 then (0,1023) else (1024,65535)
def oth (want:Int):Int×Int:=if want<1024 then (1024,65535) else (0,1023)
end Gp.PoolN
end
section
namespace Go.Proofs.PO
open Gp
open Gp.PoolN (stepL stepL_get alike cls oth)
abbrev wQ (x:Int):Prop:=0<=x/\x<=70000
theorem mx (a c:Int):(if c>a then c else a)=max a c:=by omega
theorem mn (a c:Int):(if c<a then c else a)=min a c:=by omega
theorem Ρ (a b c d:Int) (w:θ):gW a b c d w λx y w'=>x=max a c/\y=min b d/\Ext w w':=by
 apply O_;refine gU λp w1 r1 e1 z1 f1=>gU λq w2 r2 e2 z2 f2=>gU λt w3 r3 e3 z3 f3=> ?_;have r1:=(r1.ext f2).ext f3;have r2:=r2.ext f3;simp only[sx,r1.cell,r2.cell];refine gZ r3 rfl rfl λw4 r4 f4 z4=> ?_;simp only[d_,gJ,gK,r4.cell];refine⟨mx a c,mn b d,((f1.trans f2).trans f3).new (f4 (·=t) rfl) λx hx e=>by omega⟩
theorem Ua (p:Int) (w:θ):lI p w λx y w'=>x=(cls p).1/\y=(cls p).2/\Ext w w':=by
 apply Xm;refine gU λt w1 r1 e1 z1 f1=> ?_;unfold cls;by_cases h:p<1024
 ·simp only[h,acI,abt,ajn];refine gZ r1 rfl rfl λw4 r4 f4 z4=> ?_;simp only[sx,r4.cell];exact⟨by trivial,by trivial,f1.new (f4 (·=t) rfl) λx hx e=>by omega⟩
 ·simp only[h,acR,aaf,aku];refine gZ r1 rfl rfl λw4 r4 f4 z4=> ?_;simp only[sx,r4.cell];exact⟨by trivial,by trivial,f1.new (f4 (·=t) rfl) λx hx e=>by omega⟩
theorem agR (p:Int) (w:θ):iU p w λx y w'=>x=(oth p).1/\y=(oth p).2/\Ext w w':=by
 apply Xn;refine gU λt w1 r1 e1 z1 f1=> ?_;unfold oth;by_cases h:p<1024
 ·simp only[h,acI,abt,ajn];refine Ep (Ua 1024 w1) ?_;rintro _ _ w2 ⟨rfl,rfl,f2⟩;refine gZ (r1.ext f2) rfl rfl λw4 r4 f4 z4=> ?_;simp only[sx,r4.cell];exact⟨by trivial,by trivial,(f1.trans f2).new (f4 (·=t) rfl) λx hx e=>by omega⟩
 ·simp only[h,acR,aaf,aku];refine Ep (Ua 0 w1) ?_;rintro _ _ w2 ⟨rfl,rfl,f2⟩;refine gZ (r1.ext f2) rfl rfl λw4 r4 f4 z4=> ?_;simp only[sx,r4.cell];exact⟨by trivial,by trivial,(f1.trans f2).new (f4 (·=t) rfl) λx hx e=>by omega⟩
def yP (l:List Int):List (zZ [.one ν]):=l.map λp=>(p,())
theorem Wv (l:List Int) (i:Nat):(yP l)[i]? =(l[i]?).map λp=>(p,()):=by simp[yP]
theorem step_iter {lo hi a b:Int} {f0 f1 f2:Nat} (hb:0<b) (hb2:b<=2) (hi':wQ hi) (ha: -70000<=a) (ha2:a<=140000):
  qE υ [.one ν] (Value.func (.func WY) #[] #[(Value.pointer (some ⟨f0,0,none⟩)),(Value.pointer (some ⟨f1,0,none⟩)),(Value.pointer (some ⟨f2,0,none⟩))])
   (λW=>Row W f0 [Β a]/\Row W f1 [Β lo,Β hi]/\Row W f2 [Β b]) (yP (stepL hi a b)):=by
 refine⟨by kernel_rfl,λl Q D hC hQ hD hy w h0=> ?_⟩;refine Calls.mono (Vg ?_) (λe w' h=>h);have hlen:∀i:Nat,i<(yP (stepL hi a b)).length↔a+b * (i:Int)<=hi:=by
  intro i;rw[<- Gp.PoolN.lt_iff hb i];simp[yP,stepL]
 generalize hn:(yP (stepL hi a b)).length=n at hlen ⊢;obtain⟨r0,_,_⟩:=hC _ _ h0;simp only[sx,r0.cell];refine g_ (λst W=>∃i:Nat,i<=n/\st.1=a+b * (i:Int)/\Q i W) (λst _=>(hi+1 - st.1).toNat) ⟨0,by omega,by simp,h0⟩ ?_;rintro⟨x,⟨⟩⟩ W ⟨i,hi2,hx,hq⟩ next u
 simp only at hx;obtain⟨_,r1,r2⟩:=hC _ _ hq;simp only[d_,gJ,gK,r1.cell];have J:=hlen i;rw[<- hx] at J;by_cases I:x<=hi
 ·have hin:=J.2 I;simp only[I,acI,abt];refine kP (hy i (x,()) W _ ?_ hq ?_ ?_)
  ·rw[Wv,stepL_get hb,<- hx,adZ I];rfl
  ·intro W' hq';obtain⟨_,_,r2'⟩:=hC _ _ hq';refine⟨true,rfl,?_⟩;simp only[adt,aaf,aaf,afe,gJ,gK,r2'.cell];have hx1:a<=x:=by
    have:=Int.mul_nonneg (show (0:Int)<=b by omega) (show (0:Int)<=(i:Int) by omega);omega
   rw[Α];refine u _ _ ⟨i+1,by omega,?_,hq'⟩ (by omega)
   grind
  simp_all
 ·simp only[I,acR,aaf]
  grind
def vV (w0 w:θ) (v:Value) (l:List Int):Prop:=
 iP v=true/\∃C,qE υ [.one ν] v C (yP l)/\∀W S,ig w W S->(∀b,w0.heap.size<=b->b<w.heap.size->¬S b)->C W
theorem vV.ext {w0 w w':θ} {v:Value} {l:List Int} (h:vV w0 w v l) (hf:Ext w w'):vV w0 w' v l:=by
 obtain⟨h1,C,h2,h3⟩:=h;exact⟨h1,C,h2,λW S hF hS=>h3 W S ((hf S).trans hF λ_ _ e=>e) λb hb hlt=>hS b hb (by have:=hf.size;omega)⟩
theorem step_ok {lo hi a b:Int} (hb:0<b) (hb2:b<=2) (hi':wQ hi) (ha: -70000<=a) (ha2:a<=140000) (w:θ):tK lo hi a b w λv w'=>Ext w w'/\vV w w' v (stepL hi a b):=by
 apply ZI;refine gU λp w1 r1 e1 z1 f1=>⟨rfl,gU λq w2 r2 e2 z2 f2=>⟨rfl,gU λt w3 r3 e3 z3 f3=> ?_⟩⟩;have r1:=(r1.ext f2).ext f3;have r2:=r2.ext f3;refine⟨(f1.trans f2).trans f3,rfl,_,step_iter hb hb2 hi' ha ha2,λW S hf hs=>⟨r2.fr hf (hs _ ?_ ?_),r1.fr hf (hs _ ?_ ?_),r3.fr hf (hs _ ?_ ?_)⟩⟩<;>omega
theorem ώ {a b:Nat} (ha:a<2^63) (hb:b<2^63):Wu .i64 (a:Int) (b:Int)=((a^^^b:Nat):Int):=by
 unfold Wu;have h1:(BitVec.ofInt (IntKind.bits .i64) (a:Int)).toNat=a:=by rw[Io,alZ];omega
 have h2:(BitVec.ofInt (IntKind.bits .i64) (b:Int)).toNat=b:=by rw[Io,alZ];omega
 rw[BitVec.toNat_xor,h1,h2];have:=ang ha hb;rw[Α]
theorem alM {a b:Int} (ha:0<=a) (hb:0<=b) (ha2:a<2^62) (hb2:b<2^62):lZ .i64 (Wu .i64 a b) 1=(a+b) % 2:=by
 obtain⟨m,rfl⟩:∃m:Nat,a=(m:Int):=⟨a.toNat,by omega⟩;obtain⟨n,rfl⟩:∃n:Nat,b=(n:Int):=⟨b.toNat,by omega⟩;have hx:m^^^n<2^62:=ang (by omega) (by omega);rw[ώ (by omega) (by omega),show (1:Int)=((1:Nat):Int) from rfl,Og (by omega) (by decide),Nat.and_one_is_mod];have h0:(m^^^n) % 2=(m+n) % 2:=by
  have:=Nat.xor_mod_two_pow (a:=m) (b:=n) (n:=1);rw[Nat.pow_one] at this;rw[this];rcases Nat.mod_two_eq_zero_or_one m with h1|h1<;>rcases Nat.mod_two_eq_zero_or_one n with h2|h2<;>rw[h1,h2]<;>simp<;>omega
 omega
theorem Oc {lo hi want:Int} (h1:wQ lo) (h2:wQ want) (w:θ):uo lo hi want w λr w'=>r=alike lo want/\Ext w w':=by
 apply Xl;refine gU λp w1 r1 e1 z1 f1=> ?_;simp only[sx,r1.cell];obtain⟨h1,h1'⟩:=h1;obtain⟨h2,h2'⟩:=h2;rw[alM h1 h2 (by omega) (by omega),Α];trivial
theorem aa6 (lo hi p:Int) (w:θ):Ac lo hi p w λr w'=>r=decide (lo<=p/\p<=hi)/\Ext w w':=by
 apply Qr;refine gU λt w1 r1 e1 z1 f1=> ?_;simp only[sx,r1.cell];by_cases h:lo<=p
 ·simp only[h,acI,abt,abt,afp];exact f1
 ·simp only[h,acR,aaf,false_and,afp];exact f1
theorem Pj (n:Int) (w:θ):uq n w λr w'=>r=decide (n=1\/n=6\/n=17)/\w'=w:=by
 apply MC;by_cases h1:n=1
 ·simp[h1]
 ·by_cases h2:n=6
  ·simp[h2]
  ·by_cases h3:n=17
   ·simp[h3]
   ·simp[h1,h2,h3]
abbrev aaR (lo hi:Int) (s:gG) (g:Nat):List Value:=[Β lo,Β hi,Δ s,.map (some g)]
theorem Fg {w:θ} {p g:Nat} {lo hi:Int} {s:gG} (h:Row w p (aaR lo hi s g)):kM (some ⟨p,0,none⟩) w λr w'=>r=true/\w'=w:=by
 apply CG;simp only[sx,h.cell,amG,afk,alQ]
structure TD (w W:θ) (rs:List (Nat×List Value)):Prop where
 ext:Ext w W
 rows:∀r∈rs,Row W r.1 r.2/\w.heap.size<=r.1
 nd:(rs.map Prod.fst).Nodup
theorem TD.step {w W W':θ} {rs:List (Nat×List Value)} (h:TD w W rs) (f:Ext W W'):TD w W' rs:=
 ⟨h.ext.trans f,λr hr=>⟨(h.rows r hr).1.ext f,(h.rows r hr).2⟩,h.nd⟩
theorem TD.al {w W:θ} {rs:List (Nat×List Value)} (h:TD w W rs) {T:TypeId} {l:List Value} {K:Addr->b_} (hK:∀b W',TD w W' ((b,l)::rs)->K ⟨b,0,none⟩ W'):Al W (.cells ⟨l⟩ T) K:=by
 refine gU λb W' r e z f=>hK b W' ⟨h.ext.trans f,λq hq=> ?_,?_⟩
 ·rcases agI.1 hq with rfl|hq
  ·exact⟨r,by have:=h.ext.size;simp only;omega⟩
  ·exact⟨(h.rows q hq).1.ext f,(h.rows q hq).2⟩
 ·simp only[akh,amm];refine⟨λhm=> ?_,h.nd⟩;obtain⟨q,hq,hqe⟩:=alp.1 hm;have:=(h.rows q hq).1.lt;omega
theorem TD.alz {w W:θ} {rs:List (Nat×List Value)} (h:TD w W rs) {x y:Nat} {l m l' m':List Value} (hx:(x,l)∈rs) (hy:(y,m)∈rs) (u:x≠y) (hl:l'.length=l.length) (hm:m'.length=m.length)
  (ho:l'.all iP=true) (hp:m'.all iP=true) {K:b_} (hK:∀W',Ext w W'->Row W' x l'->Row W' y m'->w.heap.size<=x->w.heap.size<=y->K W'):iE l' W ⟨x,0,none⟩ 0 λW1=>iE m' W1 ⟨y,0,none⟩ 0 K:=by
 obtain⟨r1,h1⟩:=h.rows _ hx;obtain⟨r2,h2⟩:=h.rows _ hy;refine gZ r1 ho hl λW1 q1 f1 z1=> ?_;refine gZ (r2.fr (f1 (·=x) rfl) λe=>u e.symm) hp hm λW2 q2 f2 z2=> ?_;refine hK W2 ?_ (q1.fr (f2 (·=y) rfl) u) q2 h1 h2;exact(h.ext.new (f1 (·=x) rfl) λb hb e=>by simp only at h1;omega).new (f2 (·=y) rfl) λb hb e=>by simp only at h2;omega
theorem vV.back {w0 w1 w:θ} {v:Value} {l:List Int} (h:vV w1 w v l) (hf:w0.heap.size<=w1.heap.size):vV w0 w v l:=by
 obtain⟨h1,C,h2,h3⟩:=h;exact⟨h1,C,h2,λW S hF hS=>h3 W S hF λb hb u=>hS b (by omega) u⟩
theorem akL {p:Int} (_h:wQ p):wQ (cls p).1/\wQ (cls p).2:=by unfold cls wQ;split<;>simp
theorem ak6 {p:Int} (_h:wQ p):wQ (oth p).1/\wQ (oth p).2:=by unfold oth wQ;split<;>simp
theorem TR {lo want:Int}:lo<=alike lo want/\alike lo want<=lo+1:=by unfold alike;omega
abbrev two (a b:Int):List Value:=[Β a,Β b]
theorem rows_ok {w:θ} {p g:Nat} {lo hi want n:Int} {s:gG} (h:Row w p (aaR lo hi s g)) (hn:n≠1) (h1:wQ lo) (h2:wQ hi) (h3:wQ want) (h4:want<=65535):
  um (some ⟨p,0,none⟩) n want w λr w'=>Ext w w'/\∃b v0 v1 v2 v3,r=⟨some ⟨b,0,none⟩,4,4⟩/\Row w' b [v0,v1,v2,v3]/\w.heap.size<=b/\
   vV w w' v0 (stepL (min hi (cls want).2) (max (want+2) (alike (max lo (cls want).1) want)) 2)/\vV w w' v1 (stepL (min hi (cls want).2) (alike (max lo (cls want).1) want) 2)/\
   vV w w' v2 (stepL (min hi (oth want).2) (alike (max lo (oth want).1) want) 2)/\vV w w' v3 (stepL hi (alike lo (want+1)) 2):=by
 apply DU;have hn':(n==1)=false:=by simp[hn]
 simp only[hn',aaf];refine QL.of λJ hJ=> ?_;have hJ':∀(x y:Nat) (W:θ),Ext w W->Row W x (two (max lo (cls want).1) (min hi (cls want).2))->Row W y (two (max lo (oth want).1) (min hi (oth want).2))->w.heap.size<=x->w.heap.size<=y->
   J ((⟨x,0,none⟩,⟨y,0,none⟩,()),W):=by
  intro x y W hE rx ry lx ly;refine hJ _ ?_;obtain⟨k1,k2⟩:=akL h3;obtain⟨k3,k4⟩:=ak6 h3;have pn:wQ (max lo (cls want).1):=⟨by have:=h1.1;omega,by have:=h1.2;have:=k1.2;omega⟩;have qn:wQ (min hi (cls want).2):=⟨by have:=h2.1;have:=k2.1;omega,by have:=h2.2;omega⟩;have pf:wQ (max lo (oth want).1):=⟨by have:=h1.1;omega,by have:=h1.2;have:=k3.2;omega⟩;have qf:wQ (min hi (oth want).2):=⟨by have:=h2.1;have:=k4.1;omega,by have:=h2.2;omega⟩;generalize max lo (cls want).1=nl at pn rx ⊢;generalize min hi (cls want).2=nh at qn rx ⊢;generalize max lo (oth want).1=fl at pf ry ⊢;generalize min hi (oth want).2=fh at qf ry ⊢;have hd:=Ext.drew W;have hp:=h.ext hE;have x0:∀W',Ext W W'->W'.cell? ⟨x,0,none⟩=some (Β nl):=λW' f=>(rx.ext f).cell 0;have x1:∀W',Ext W W'->W'.cell? ⟨x,1,none⟩=some (Β nh):=λW' f=>(rx.ext f).cell 1;have y0:∀W',Ext W W'->W'.cell? ⟨y,0,none⟩=some (Β fl):=λW' f=>(ry.ext f).cell 0;have y1:∀W',Ext W W'->W'.cell? ⟨y,1,none⟩=some (Β fh):=λW' f=>(ry.ext f).cell 1;have p0:∀W',Ext W W'->W'.cell? ⟨p,0,none⟩=some (Β lo):=λW' f=>(hp.ext f).cell 0;have p1:∀W',Ext W W'->W'.cell? ⟨p,1,none⟩=some (Β hi):=λW' f=>(hp.ext f).cell 1;simp only[sx,Ci,Cj,x0 _ hd,x1 _ hd,y0 _ hd,y1 _ hd,p0 _ hd,p1 _ hd];have w2:ο.wrap (want+2)=want+2:=by have:=h3.1;rw[Α]
  have w1:ο.wrap (want+1)=want+1:=by have:=h3.1;rw[Α]
  have a1:=TR (lo:=nl) (want:=want);have a2:=TR (lo:=fl) (want:=want);have a3:=TR (lo:=lo) (want:=want+1);obtain⟨pn1,pn2⟩:=pn;obtain⟨pf1,pf2⟩:=pf;obtain⟨N,O⟩:=h1;obtain⟨u,I⟩:=h3;refine cmS1 (Oc ⟨pn1,pn2⟩ ⟨u,I⟩ _) ?_;rintro _ W1 ⟨rfl,g⟩;have e1:=hd.trans g;simp only[x0 _ e1,x1 _ e1,y0 _ e1,y1 _ e1,p0 _ e1,p1 _ e1,afp,w1,w2,mx];refine cmS4 (step_ok (by omega) (by omega) qn (by omega) (by omega) _) ?_;rintro v0 W2 ⟨g,yv0⟩;have l0:=e1.size;have yv0:=yv0.back (w0:=w) (by have:=hE.size;omega);have e2:=e1.trans g;simp only[x0 _ e2,x1 _ e2,y0 _ e2,y1 _ e2,p0 _ e2,p1 _ e2,afp];refine cmS1 (Oc ⟨pn1,pn2⟩ ⟨u,I⟩ _) ?_;rintro _ W3 ⟨rfl,g⟩;have yv0:=yv0.ext g;have e3:=e2.trans g;simp only[x0 _ e3,x1 _ e3,y0 _ e3,y1 _ e3,p0 _ e3,p1 _ e3,afp];refine cmS4 (step_ok (by omega) (by omega) qn (by omega) (by omega) _) ?_;rintro v1 W4 ⟨g,yv1⟩;have l1:=e3.size;have yv1:=yv1.back (w0:=w) (by have:=hE.size;omega);have yv0:=yv0.ext g;have e4:=e3.trans g;simp only[y0 _ e4,y1 _ e4,p0 _ e4,p1 _ e4,afp];refine cmS1 (Oc ⟨pf1,pf2⟩ ⟨u,I⟩ _) ?_;rintro _ W5 ⟨rfl,g⟩;have yv0:=yv0.ext g;have yv1:=yv1.ext g;have e5:=e4.trans g;simp only[y0 _ e5,y1 _ e5,p0 _ e5,p1 _ e5,afp];refine cmS4 (step_ok (by omega) (by omega) qf (by omega) (by omega) _) ?_;rintro v2 W6 ⟨g,yv2⟩;have l2:=e5.size;have yv2:=yv2.back (w0:=w) (by have:=hE.size;omega);have yv0:=yv0.ext g;have yv1:=yv1.ext g;have e6:=e5.trans g;simp only[p0 _ e6,p1 _ e6,afp];refine cmS1 (Oc ⟨N,O⟩ ⟨by omega,by omega⟩ _) ?_;rintro _ W7 ⟨rfl,g⟩;have yv0:=yv0.ext g;have yv1:=yv1.ext g;have yv2:=yv2.ext g;have e7:=e6.trans g;simp only[p0 _ e7,p1 _ e7,afp];refine cmS4 (step_ok (by omega) (by omega) h2 (by omega) (by omega) _) ?_;rintro v3 W8 ⟨g,yv3⟩;have l3:=e7.size;have yv3:=yv3.back (w0:=w) (by have:=hE.size;omega);have yv0:=yv0.ext g;have yv1:=yv1.ext g;have yv2:=yv2.ext g;have e8:=e7.trans g;refine⟨⟨yv0.1,yv1.1,yv2.1,yv3.1,trivial⟩,gU λb W9 r9 hb z9 g=> ?_⟩;exact⟨(hE.trans e8).trans g,b,v0,v1,v2,v3,by trivial,r9,by have:=hE.size;have:=e8.size;omega,yv0.ext g,yv1.ext g,yv2.ext g,yv3.ext g⟩
 clear hJ;have c0:∀W,Ext w W->W.cell? ⟨p,0,none⟩=some (Β lo):=λW f=>(h.ext f).cell 0;have c1:∀W,Ext w W->W.cell? ⟨p,1,none⟩=some (Β hi):=λW f=>(h.ext f).cell 1;have hI:TD w w.drew []:=⟨Ext.drew w,λr hr=>by simp at hr,by simp⟩;simp only[sx,Ci,Cj,c0 _ (Ext.drew w),c1 _ (Ext.drew w)]
 repeat' (first
  |(with_reducible refine And.intro ?_ ?_)
  |(with_reducible exact c0 _ hI.ext)
  |(with_reducible exact c1 _ hI.ext)
  |((with_reducible refine Ep (Ua _ _) ?_);rintro _ _ W' ⟨rfl,rfl,f⟩;replace hI:=hI.step f)
  |((with_reducible refine WQ (agR _ _) ?_);rintro _ _ W' ⟨rfl,rfl,f⟩;replace hI:=hI.step f)
  |((with_reducible refine Om (Ρ _ _ _ _ _) ?_);rintro _ _ W' ⟨rfl,rfl,f⟩;replace hI:=hI.step f)
  |((with_reducible refine TD.al hI ?_);clear hI;intro b W' hI))
 all_goals
  refine TD.alz (l:=two 0 0) (m:=two 0 0) hI ?_ ?_ ?_ ?_ ?_ ?_ ?_ λW' hE rx ry lx ly=>hJ' _ _ _ hE rx ry lx ly
  ·simp
  ·simp
  ·have:=hI.nd;simp at this;omega
  ·rfl
  ·rfl
  ·rfl
  ·rfl
end Go.Proofs.PO
end
